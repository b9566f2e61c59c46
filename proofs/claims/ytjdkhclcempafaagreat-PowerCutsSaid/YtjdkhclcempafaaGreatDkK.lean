import Derived.Test.YtjdkhclcempafaaGreatDkJ
set_option linter.unusedVariables false
set_option linter.unusedSimpArgs false
namespace Go.Proofs.YtjdkhclcempafaaGreat
open Go.RowKit Go.Shelf Go.Sort Go.Maps

attribute [local go_sem] Oper.semAt_some

set_option maxHeartbeats 400000 in
theorem each_any (p : Option Addr) (w : World) :
    Calls Tryz.prog 44 #[.pointer p] w fun e w' => e = .returned (.func (.func 51) #[] #[.pointer (some ⟨w.heap.size, 0, none⟩)]) ∧ w.alloc (.cells #[.pointer p] 29) = w' := by
  go_enter Tryz.func44, Tryz.ntmps44
  go_wp2_with fail
  go_ret
  exact ⟨rfl, rfl⟩

/-! ### what a loop's own facts are good for -/
/-- what holds of the blocks below B, whatever else turns -/
theorem ownFrom_low {β : Type} {B : Nat} {I : β → World → Prop} (h : ∀ s W W', B ≤ W.heap.size → W'.os = W.os → W'.tape = W.tape → W'.output = W.output → W.heap.size ≤ W'.heap.size → (∀ k, k < B → W'.heap[k]? = W.heap[k]?) → I s W → I s W') :
    OwnFrom B (fun s W => B ≤ W.heap.size ∧ I s W) := by
  intro s W W' row ⟨hs, hI⟩ hg hr
  exact ⟨Nat.le_trans hs hg.size, h s W W' hs hg.os hg.tape hg.output hg.size (fun k hk => hg.block k (by omega) (fun e => by have := (hr k e.symm).1; omega)) hI⟩

/-- a block of one cell -/
def One (W : World) (b : Nat) (v : Value) (t : TypeId) : Prop := W.heap[b]? = some (.cells #[v] t (0, 0))
theorem One.cell {W : World} {b : Nat} {v : Value} {t : TypeId} (h : One W b v t) : W.cell? ⟨b, 0, none⟩ = some v := by rw [cell_of_heap h]; rfl
theorem One.free {W : World} {b : Nat} {v : Value} {t : TypeId} (h : One W b v t) : W.frozen? ⟨b, 0, none⟩ = false := frozen_of_heap h 0
theorem One.new (W : World) (v : Value) (t : TypeId) : One (W.alloc (.cells #[v] t)) W.heap.size v t := (MapKept.heap_alloc W _).1
theorem One.alloc {W : World} {b : Nat} {v : Value} {t : TypeId} (h : One W b v t) (o : Obj) : One (W.alloc o) b v t := (Below.heap_alloc _ _ _ (lt_of_heap h)).trans h
theorem One.put {W : World} {b : Nat} {v : Value} {t : TypeId} (h : One W b v t) (v' : Value) : One (W.setCell ⟨b, 0, none⟩ v') b v' t := by
  unfold One; rw [heap_setCell_at h]; rfl
theorem One.other {W : World} {b c : Nat} {k : Nat} {v : Value} {t : TypeId} (h : One W b v t) (hne : b ≠ c) (v' : Value) : One (W.setCell ⟨c, k, none⟩ v') b v t := (Below.heap_setCell _ _ _ _ hne).trans h
theorem One.below {W W' : World} {b : Nat} {v : Value} {t : TypeId} (h : One W b v t) (hb : Below W.heap.size W W') : One W' b v t := (hb.block b (lt_of_heap h)).trans h

/-- the file of an element -/
theorem KE.file {fs : List Ent} (x : KE fs) : ∃ f ∈ fs, f.name = x.1.1 ∧ f.blk = x.1.2 := by
  obtain ⟨f, hf, he⟩ := List.mem_map.1 x.2
  exact ⟨f, hf, congrArg Prod.fst he, congrArg Prod.snd he⟩

def sizeOfB (b : Nat) (fs : List Ent) : Nat := ((fs.find? (fun f => f.blk == b)).map (·.bytes.size)).getD 0
def sumK {fs : List Ent} (pre : List (KE fs)) : Nat := (pre.map fun x => sizeOfB x.1.2 fs).sum
theorem sizeOfB_mem {fs : List Ent} (hb : (fs.map (·.blk)).Nodup) {f : Ent} (hf : f ∈ fs) : sizeOfB f.blk fs = f.bytes.size := by
  induction fs with
  | nil => cases hf
  | cons g r ih =>
    rw [List.map_cons, List.nodup_cons] at hb
    rcases List.mem_cons.1 hf with rfl | hf
    · simp [sizeOfB]
    · have hne : (g.blk == f.blk) = false := by
        rw [beq_eq_false_iff_ne]
        exact fun e => hb.1 (by rw [e]; exact List.mem_map_of_mem hf)
      have := ih hb.2 hf
      unfold sizeOfB at this ⊢
      rw [List.find?_cons, hne]
      exact this
theorem sumK_all {fs : List Ent} (hb : (fs.map (·.blk)).Nodup) : sumK (kvS fs) = usedF fs := by
  have h1 : sumK (kvS fs) = (((kvS fs).map (·.1)).map fun p : ByteArray × Nat => sizeOfB p.2 fs).sum := by
    rw [List.map_map]; rfl
  rw [h1, kvS_map]
  have h2 : (((sortKV (kvOf fs))).map fun p : ByteArray × Nat => sizeOfB p.2 fs).sum = ((kvOf fs).map fun p : ByteArray × Nat => sizeOfB p.2 fs).sum := ((sortKV_perm (kvOf fs)).map _).sum_nat
  rw [h2]
  unfold usedF kvOf
  rw [List.map_map]
  congr 1
  exact List.map_congr_left fun f hf => sizeOfB_mem hb hf
theorem sumK_le {fs : List Ent} (hs : ∀ f ∈ fs, f.bytes.size ≤ 65536) (pre : List (KE fs)) : sumK pre ≤ pre.length * 65536 := by
  induction pre with
  | nil => simp [sumK]
  | cons x r ih =>
    have : sizeOfB x.1.2 fs ≤ 65536 := by
      unfold sizeOfB
      cases h : fs.find? (fun f => f.blk == x.1.2) with
      | none => simp
      | some f => exact hs f (List.mem_of_find?_eq_some h)
    simp only [sumK, List.map_cons, List.sum_cons, List.length_cons] at ih ⊢
    omega

theorem KeepT.putObj {T : World → Nat → Prop} {B : Nat} (hT : ∀ W l o', B ≤ l → ∀ k, T (W.putObj l o') k → T W k) (W : World) (l : Nat) (o o' : Obj) (hB : B ≤ l) (hl : W.heap[l]? = some o) (hc : o.isCells = false) (hw : o.isWalk = false) :
    KeepT T W (W.putObj l o') := by
  refine ⟨by simp [World.putObj], fun k p hk hp _ => ?_, fun k _ h => hT W l o' hB k h⟩
  have hne : l ≠ k := by
    rintro rfl
    rw [hl] at hk
    cases hk
    rw [hc, hw] at hp
    cases hp
  exact (World.putObj_heap_other (Ne.symm hne)).trans hk
/-- a store into one of T's cells -/
theorem KeepT.setCell {C : Nat → Prop} (W : World) (c k : Nat) (v : Value) (hc : C c) : KeepT (fun _ => C) W (W.setCell ⟨c, k, none⟩ v) :=
  ⟨by simp [World.setCell], fun i o hi _ hn => (Below.heap_setCell _ _ _ _ (fun e => hn (by rw [e]; exact hc))).trans hi, fun _ _ h => h⟩
theorem KeepT.drewC {C : Nat → Prop} {A W : World} (h : KeepT (fun _ => C) A W) : KeepT (fun _ => C) A W.drew := h
theorem wrap_small {x : Int} (h0 : 0 ≤ x) (h1 : x ≤ 9223372036854775807) : IntKind.i64.wrap x = x := IntWalk.i64_in _ (by omega)
theorem sumK_snoc {fs : List Ent} (pre : List (KE fs)) (x : KE fs) : sumK (pre ++ [x]) = sumK pre + sizeOfB x.1.2 fs := by
  simp [sumK]
theorem ret_int' {k : IntKind} {a b : Int} (h : a = b) : Ending.returned (.int k a) = .returned (.int k b) := by rw [h]

set_option maxRecDepth 100000 in
set_option maxHeartbeats 2000000 in
theorem used_any {w : World} {a m q : Nat} {fs : List Ent} (h : DiskAt w a m q fs) :
    Calls Tryz.prog 50 #[.pointer (some ⟨a, 0, none⟩)] w (RB (.int .i64 (usedF fs : Int)) w) := by
  have hD := Lib.hid h; clear h
  have hfE : Fence.wide.fn 44 := trivial
  refine (callsIn_wide (n := 13)).1 ?_
  refine callsIn_of_wp_marks Tryz.func50 rfl trivial ?_ rfl
  simp only [Tryz.ntmps50, List.size_toArray, List.length_cons, List.length_nil, Nat.reduceAdd, Nat.reduceSub, Array.replicate_succ, Array.replicate_zero, List.push_toArray, List.append_toArray, List.nil_append, List.cons_append]
  gi_wp2_with fail
  refine (callsIn_wide.2 (each_any _ _)).mono ?_
  rintro e w' ⟨rfl, rfl⟩
  gi_wp2_with fail
  have hB0 : Below w.heap.size w ((w.alloc (.cells #[.int .i64 0] 3)).alloc (.cells #[.pointer (some ⟨a, 0, none⟩)] 29)) := ((Below.refl _ w).alloc (Nat.le_refl _) _).alloc (by simp) _
  have hn : One ((w.alloc (.cells #[.int .i64 0] 3)).alloc (.cells #[.pointer (some ⟨a, 0, none⟩)] 29)) w.heap.size (.int .i64 0) 3 := (One.new w _ _).alloc _
  have hbx : One ((w.alloc (.cells #[.int .i64 0] 3)).alloc (.cells #[.pointer (some ⟨a, 0, none⟩)] 29)) (w.heap.size + 1) (.pointer (some ⟨a, 0, none⟩)) 29 := by
    have := One.new (w.alloc (.cells #[.int .i64 0] 3)) (.pointer (some ⟨a, 0, none⟩)) 29
    rwa [World.size_alloc] at this
  refine wpIn_rangeFunc_ownG rfl (by omega) (gf := 51) (lb := #[.pointer (some ⟨w.heap.size + 1, 0, none⟩)]) rfl trivial (enters_of Tryz.func51 (by kernel_rfl) rfl)
    (each1_stops (hD.out.below hB0) (w.heap.size + 1) hbx (fun _ k => k = w.heap.size) (fun W hW k hk => by
      subst hk
      have h1 := hD.out.lt a (.inl rfl)
      have h2 := hD.out.lt m (.inr (.inl rfl))
      simp; omega)) KeepT.trans (KeepT.putObj (fun _ _ _ _ _ h => h)) (Below.refl _ _) (fun _ => rfl)
    (fun pre W => ((w.alloc (.cells #[.int .i64 0] 3)).alloc (.cells #[.pointer (some ⟨a, 0, none⟩)] 29)).heap.size ≤ W.heap.size ∧ (One W w.heap.size (.int .i64 (sumK pre : Int)) 3 ∧ Below w.heap.size w W))
    (fun _ _ _ => False)
    (ownFrom_low (fun s X Y _ ho ht hu hs hk hI => ⟨(hk _ (by simp; omega)).trans hI.1, hI.2.trans ⟨ho, ht, hu, hs, fun k hk' => hk k (by simp; omega)⟩⟩))
    (fun _ _ _ _ _ hs _ _ => hs)
    ⟨Nat.le_refl _, hn, hB0⟩
    (fun x => { tmps := #[.pointer (some ⟨a, 0, none⟩), undef, .pointer (some ⟨w.heap.size, 0, none⟩), undef, .pointer (some ⟨x.1.2, 0, none⟩), .pointer (some ⟨a, 0, none⟩), .func (.func 51) #[] #[.pointer (some ⟨w.heap.size + 1, 0, none⟩)], .string x.1.1, .pointer (some ⟨x.1.2, 0, none⟩), undef, undef, undef, undef, undef, undef, undef, undef], defers := [] }) ?assign ?body ?done ?stop
  case assign =>
    intro l x W K hK
    unfold encsK
    gi_wp2
    exact hK
  case body =>
    rintro l pre x W ⟨hs, ho, hB⟩ hlen
    obtain ⟨f, hf, hfn, hfb⟩ := x.file
    have hDW := hD.out.below hB
    have hc := hDW.b0 hf
    rw [hfb] at hc
    have hco := ho.cell
    have hfo := ho.free
    have hsz := hDW.ok.size f hf
    have hsn := sumK_snoc pre x
    have hsf := sizeOfB_mem hDW.ok.blks hf
    rw [hfb] at hsf
    rw [hsf] at hsn
    have hle := sumK_le hDW.ok.size pre
    have hn64 := hDW.ok.n64
    have HSN := Lib.hid hsn; clear hsn
    have HSF := Lib.hid hsf; clear hsf
    have HFB := Lib.hid hfb; clear hfb
    have HFN := Lib.hid hfn; clear hfn
    have HO := Lib.hid ho; clear ho
    have HH := Lib.hid hB; clear hB
    clear hDW
    gi_wp2
    gi_region
    all_goals gi_wp2
    all_goals
      rw [wrap_small (by omega) (by omega)]
      refine ⟨((KeepsOthers.setCell _ _ _).trans (KeepsOthers.drew _)).from _, (KeepT.setCell (C := fun k => k = w.heap.size) W w.heap.size 0 _ rfl).drewC, ?_, ?_, ?_⟩
      · simpa [World.setCell] using hs
      · have := HO.out.put (.int .i64 (sumK pre + f.bytes.size : Int))
        rw [HSN.out]
        exact this
      · exact (HH.out.setCell (p := ⟨w.heap.size, 0, none⟩) (Nat.le_refl _) _).drew
  case done =>
    rintro D ys W hDs rfl ⟨hs, ho, hB⟩ hK
    have hco := ho.cell
    have hfo := ho.free
    have HO := Lib.hid ho; clear ho
    have HH := Lib.hid hB; clear hB
    gi_wp2
    have hK2 : (W.setCell ⟨w.heap.size, 0, none⟩ (.int .i64 (sumK (kvS fs) : Int))).heap[D]? = some (.deferred (some [])) := (KeepsOthers.setCell W _ _).same D _ hK rfl
    refine ⟨by simp, .inl ⟨_, _, rfl, run_takeDeferred hK2, ?_⟩⟩
    have hDw : D ≠ w.heap.size := by simp at hDs; omega
    have hcell : ((W.setCell ⟨w.heap.size, 0, none⟩ (.int .i64 (sumK (kvS fs) : Int))).putObj D (.deferred none)).cell? ⟨w.heap.size, 0, none⟩ = some (.int .i64 (sumK (kvS fs) : Int)) := by
      have h1 := HO.out.put (.int .i64 (sumK (kvS fs) : Int))
      have h2 : One ((W.setCell ⟨w.heap.size, 0, none⟩ (.int .i64 (sumK (kvS fs) : Int))).putObj D (.deferred none)) w.heap.size (.int .i64 (sumK (kvS fs) : Int)) 3 := (World.putObj_heap_other (Ne.symm hDw)).trans h1
      exact h2.cell
    refine ⟨.int .i64 (sumK (kvS fs) : Int), ?_, ?_⟩
    · simp [results, Tryz.results50, go_sem, hcell]
    · refine ⟨by rw [sumK_all (hD.out.ok.blks)], ?_⟩
      exact (HH.out.setCell (p := ⟨w.heap.size, 0, none⟩) (Nat.le_refl _) _).trans (belowK_b (w := w) (Nat.le_refl _) _ D _ _ (by simp at hDs; omega) hK2 rfl rfl)
  case stop =>
    rintro D c pre W _ _ h _
    exact h.elim
end Go.Proofs.YtjdkhclcempafaaGreat
