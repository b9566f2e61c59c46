import Derived.Test.YtjdkhclcempafaaGreatDkK
import Derived.Deep.AppendLies
set_option linter.unusedVariables false
set_option linter.unusedSimpArgs false
namespace Go.Proofs.YtjdkhclcempafaaGreat
open Go.RowKit Go.Shelf Go.Sort Go.Maps

attribute [local go_sem] Oper.semAt_some

theorem Tryz.infoString : (Tryz.prog.info? 9).map (fun i => (i.zero, i.size, i.bytes)) = some (some (.string ⟨#[]⟩), 1, 16) := by kernel_rfl

def namesK {fs : List Ent} (pre : List (KE fs)) : List Value := pre.map fun x => .string x.1.1
/-- the blocks that List writes: the box of its result, and the row that the result has -/
def TL (lb : Nat) (W : World) (k : Nat) : Prop := k = lb ∨ ∃ n c, Boxed W lb 63 (.slice (some ⟨k, 0, none⟩) n c)

def LPost (fs : List Ent) (w : World) (e : Ending) (w' : World) : Prop :=
  ∃ v, e = .returned v ∧ w'.ownsRow w.heap.size 9 1 v fs.length ((sortKV (kvOf fs)).map fun p => .string p.1) ∧ Below w.heap.size w w'

theorem namesK_all (fs : List Ent) : namesK (kvS fs) = (sortKV (kvOf fs)).map fun p => Value.string p.1 := by
  rw [← kvS_map, List.map_map]; rfl

/-- an append whose run is known -/
theorem wpListIn_appendRun {F : Fence} {n : Nat} {P : Program} {w w' : World} {ops : Array Oper} {rest : List Oper} {o : Oper} {a : Act} {Q : Exit → Act → World → Prop} {s x : Operand} {ts : Array TypeId} {v : Value}
    (hg : o.guard = none) (hop : o.op = Op.call { callee := Callee.builtin Builtin.append, args := #[s, x], argTypes := ts })
    (hrun : (Builtin.append_ ts o.type #[a.eval s, a.eval x]).run P w = .ok v w') (hK : wpListIn F n P ops Q rest (a.put o.dst v) w') : wpListIn F n P ops Q (o :: rest) a w := by
  refine wpListIn_plain hg fun K hK' => ⟨?_, ?_⟩
  · simp [Oper.about, hop, resolve, Target.leads, Sem.run_pure]
  · rw [Oper.semAt_plain F _ _ (by rw [hop]; intro c hc'; cases hc')]
    simp [execOp, hop, resolve, invoke, builtin, hrun, Result.andThen]
    exact hK' _ _ hK

set_option maxRecDepth 100000 in
set_option maxHeartbeats 2000000 in
theorem list_any {w : World} {a m q : Nat} {fs : List Ent} (h : DiskAt w a m q fs) :
    Calls Tryz.prog 23 #[.pointer (some ⟨a, 0, none⟩)] w (LPost fs w) := by
  have hD := Lib.hid h; clear h
  obtain ⟨i0, hi, hz0, hz1, hz2⟩ := info_parts Tryz.infoString
  have hfE : Fence.wide.fn 44 := trivial
  refine (callsIn_wide (n := 13)).1 ?_
  refine callsIn_of_wp_marks Tryz.func23 rfl trivial ?_ rfl
  simp only [Tryz.ntmps23, List.size_toArray, List.length_cons, List.length_nil, Nat.reduceAdd, Nat.reduceSub, Array.replicate_succ, Array.replicate_zero, List.push_toArray, List.append_toArray, List.nil_append, List.cons_append]
  gi_wp2_with fail
  refine (callsIn_wide.2 (each_any _ _)).mono ?_
  rintro e w' ⟨rfl, rfl⟩
  gi_wp2_with fail
  have hB0 : Below w.heap.size w ((w.alloc (.cells #[.slice none 0 0] 63)).alloc (.cells #[.pointer (some ⟨a, 0, none⟩)] 29)) := ((Below.refl _ w).alloc (Nat.le_refl _) _).alloc (by simp) _
  have hn : Boxed ((w.alloc (.cells #[.slice none 0 0] 63)).alloc (.cells #[.pointer (some ⟨a, 0, none⟩)] 29)) w.heap.size 63 (.slice none 0 0) := (Boxed.new w _ _).alloc _
  have hbx : One ((w.alloc (.cells #[.slice none 0 0] 63)).alloc (.cells #[.pointer (some ⟨a, 0, none⟩)] 29)) (w.heap.size + 1) (.pointer (some ⟨a, 0, none⟩)) 29 := by
    have := One.new (w.alloc (.cells #[.slice none 0 0] 63)) (.pointer (some ⟨a, 0, none⟩)) 29
    rwa [World.size_alloc] at this
  refine wpIn_rangeFunc_ownG rfl (by omega) (gf := 51) (lb := #[.pointer (some ⟨w.heap.size + 1, 0, none⟩)]) rfl trivial (enters_of Tryz.func51 (by kernel_rfl) rfl)
    (each1_stops (hD.out.below hB0) (w.heap.size + 1) hbx (TL w.heap.size) (fun W hW k hk => by
      have h1 := hD.out.lt a (.inl rfl)
      have h2 := hD.out.lt m (.inr (.inl rfl))
      rcases hk with rfl | ⟨n, c, hb⟩
      · simp; omega
      · have := (hW.block w.heap.size (by simp; omega)).trans hn
        rw [show W.heap[w.heap.size]? = _ from hb] at this
        simp at this)) KeepT.trans (KeepT.putObj (fun W l o' hl k hk => by
          rcases hk with rfl | ⟨n, c, hb⟩
          · exact .inl rfl
          · exact .inr ⟨n, c, (World.putObj_heap_other (by simp at hl; omega)).symm.trans hb⟩)) (Below.refl _ _) (fun _ => rfl)
    (fun pre W => (∃ v, Boxed W w.heap.size 63 v ∧ W.ownsRow w.heap.size 9 1 v pre.length (namesK pre) ∧ True) ∧ (w.heap.size + 2 ≤ W.heap.size ∧ Below w.heap.size w W))
    (fun _ _ _ => False)
    (OwnFrom.and (Own.from (holdsRow_own w.heap.size w.heap.size 63 9 1 (fun pre => pre.length) (fun pre => namesK pre) (fun _ _ => True)) _) (by
      have := ownFrom_low (β := List (KE fs)) (B := w.heap.size + 2) (I := fun _ W => Below w.heap.size w W) (fun s X Y _ ho ht hu hs hk hI => hI.trans ⟨ho, ht, hu, hs, fun k hk' => hk k (by omega)⟩)
      simpa using this))
    (fun _ _ _ _ _ hs _ _ => hs)
    ⟨⟨_, hn, World.ownsRow_nil _ _ _ _, trivial⟩, by simp, hB0⟩
    (fun x => { tmps := #[.pointer (some ⟨a, 0, none⟩), undef, .pointer (some ⟨w.heap.size, 0, none⟩), .string x.1.1, .pointer (some ⟨a, 0, none⟩), .func (.func 51) #[] #[.pointer (some ⟨w.heap.size + 1, 0, none⟩)], .string x.1.1, .pointer (some ⟨x.1.2, 0, none⟩), undef, undef, undef, undef, undef], defers := [] }) ?assign ?body ?done ?stop
  case assign =>
    intro l x W K hK
    unfold encsK
    gi_wp2
    exact hK
  case body =>
    rintro l pre x W ⟨⟨v, hv, hrow, _⟩, hs, hB⟩ hlen
    have hn64 := hD.out.ok.n64
    obtain ⟨g, cap, w1, hrun, hown', hgrow, hat, hlt⟩ := run_append_lies (P := Tryz.prog) (W.alloc (.cells #[.string x.1.1] 9)) 63 63 w.heap.size 9 i0 (.string ⟨#[]⟩) 1 16 Tryz.underlying63 hi hz0 hz1 hz2 rfl (by decide)
      v pre.length (namesK pre) (hrow.alloc _) ⟨W.heap.size, 0, none⟩ 1 1 [.string x.1.1] rfl (World.news_of_block (B := W.heap.size) (MapKept.heap_alloc W _).1) (by simp [Value.oneCell']) (by omega) (by unfold maxLen; omega) (by omega) (by simp; omega) _ rfl
    obtain ⟨hv1, hv2, hr2, hk2, hb2⟩ := hv.appended (by decide) hrow hB.size (Nat.le_refl _) hown' hgrow
    have hc0 := hv.cell
    have hc1 := hv1.cell
    have hf1 := hv1.frozen
    gi_wp2_with (gi_at_builtin; refine wpListIn_appendRun rfl rfl hrun ?_)
    refine ⟨hk2.from _, ⟨by have := hb2.size; omega, ?_, ?_⟩, ⟨_, hv2, ?_, trivial⟩, ?_, hB.trans hb2⟩
    · -- what lies outside T lies as it lay
      intro k o hk ho ht
      have hkl := lt_of_heap hk
      have hne : k ≠ w.heap.size := fun e => ht (.inl e)
      rw [Below.heap_setCell _ _ _ _ hne]
      have h1 : w1.heap[k]? = (W.alloc (.cells #[.string x.1.1] 9)).heap[k]? := hgrow.block k (by simp; omega) (fun e => ht (.inr (by
        cases v <;> simp [Value.ownBlock] at e
        rename_i aa nn cc
        cases aa with
        | none => simp at e
        | some ad =>
          have hrow' := hrow.2
          rcases hrow' with ⟨h0, _⟩ | ⟨g0, cap0, cur0, h0, _⟩
          · cases h0
          · cases h0
            simp at e
            exact ⟨_, _, e ▸ hv⟩)))
      rw [h1, Below.heap_alloc _ _ _ hkl]; exact hk
    · intro k hk ht
      rcases ht with rfl | ⟨n, c, hb⟩
      · exact .inl rfl
      · have e := (show (w1.setCell ⟨w.heap.size, 0, none⟩ _).heap[w.heap.size]? = _ from hv2).symm.trans hb
        simp at e
        obtain ⟨e1, e2, e3⟩ := e
        subst e1
        right
        rcases hat with h1 | h1
        · cases v <;> simp [Value.ownBlock] at h1
          rename_i aa nn cc
          cases aa with
          | none => simp at h1
          | some ad =>
            rcases hrow.2 with ⟨h0, _⟩ | ⟨g0, cap0, cur0, h0, _⟩
            · cases h0
            · cases h0
              simp at h1
              exact ⟨_, _, by rw [← h1]; exact hv⟩
        · simp at h1; omega
    · have : namesK (pre ++ [x]) = namesK pre ++ [.string x.1.1] := by simp [namesK]
      rw [this]
      have e2 : (pre ++ [x]).length = pre.length + 1 := by simp
      rw [e2]; exact hr2
    · have := hb2.size; omega
  case done =>
    rintro D ys W hDs rfl ⟨⟨v, hv, hrow, _⟩, hs, hB⟩ hK
    have hc0 := hv.cell
    have hf0 := hv.frozen
    have hform : ∃ p n c, v = .slice p n c := by
      rcases hrow.2 with ⟨rfl, _⟩ | ⟨g, cap, cur, rfl, _⟩
      · exact ⟨_, _, _, rfl⟩
      · exact ⟨_, _, _, rfl⟩
    obtain ⟨p, nn, cc, rfl⟩ := hform
    have HV := Lib.hid hv; clear hv
    have HR := Lib.hid hrow; clear hrow
    have HH := Lib.hid hB; clear hB
    gi_wp2
    have hK2 : (W.setCell ⟨w.heap.size, 0, none⟩ (.slice p nn cc)).heap[D]? = some (.deferred (some [])) := (KeepsOthers.setCell W _ _).same D _ hK rfl
    refine ⟨by simp, .inl ⟨_, _, rfl, run_takeDeferred hK2, ?_⟩⟩
    have hDw : D ≠ w.heap.size := by simp at hDs; omega
    have h1 := HV.out.set (.slice p nn cc)
    have h2 : One ((W.setCell ⟨w.heap.size, 0, none⟩ (.slice p nn cc)).putObj D (.deferred none)) w.heap.size (.slice p nn cc) 63 := (World.putObj_heap_other (Ne.symm hDw)).trans h1
    have hcell := h2.cell
    have h3 := HR.out.kept (grownBy_setCell' W w.heap.size (.slice p nn cc)) (.inr (HV.out.not_row (by decide) HR.out).symm)
    have h4 := ownsRow_putObj h3 (.deferred none) hK2 rfl
    refine ⟨.slice p nn cc, ?_, ?_⟩
    · simp [results, Tryz.results23, go_sem, hcell]
    · refine ⟨_, rfl, ?_, ?_⟩
      · rw [namesK_all, kvS_length] at h4; exact h4
      · exact (HH.out.setCell (p := ⟨w.heap.size, 0, none⟩) (Nat.le_refl _) _).trans (belowK_b (w := w) (Nat.le_refl _) _ D _ _ (by simp at hDs; omega) hK2 rfl rfl)
  case stop =>
    rintro D c pre W _ _ h _
    exact h.elim
end Go.Proofs.YtjdkhclcempafaaGreat
