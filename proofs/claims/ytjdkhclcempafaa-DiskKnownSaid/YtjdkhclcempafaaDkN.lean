import Derived.Test.YtjdkhclcempafaaDkM
import Derived.BigRegion
set_option linter.unusedVariables false
set_option linter.unusedSimpArgs false
namespace Go.Proofs.Ytjdkhclcempafaa
open Go.RowKit Go.Shelf Go.Sort Go.Maps

attribute [local go_sem] Oper.semAt_some

/-! ### New -/
/-- a new disk of a quota, of no files -/
def NewPost (q : Nat) (w : World) (e : Ending) (w' : World) : Prop :=
  ∃ a m, e = .returned (.pointer (some ⟨a, 0, none⟩)) ∧ w.heap.size ≤ a ∧ w.heap.size ≤ m ∧ DiskAt w' a m q [] ∧ Below w.heap.size w w'

theorem DiskOk.nil {q : Nat} (h1 : 1 ≤ q) (h2 : q ≤ 1048576) : DiskOk q [] :=
  ⟨h1, h2, by simp, by simp, by simp, by simp, by simp, by simp, by simp [usedF]⟩

set_option maxHeartbeats 1000000 in
theorem new_ok (q : Nat) (h1' : 1 ≤ q) (h2' : q ≤ 1048576) (w : World) : Calls Try.prog 6 #[.int .i64 (q : Int)] w (NewPost q w) := by
  have hd1 : decide ((q : Int) < 1) = false := by simp; omega
  have hd2 : decide ((1048576 : Int) < q) = false := by simp; omega
  have hmm := @run_makeMap Try.prog
  go_enter Try.func6, Try.ntmps6
  go_wp2_with fail
  go_ret
  have h1 : ((w.alloc (.map #[] 0)).alloc (.cells #[.int .i64 (q : Int), .map (some w.heap.size)] 69)).heap[w.heap.size + 1]? = some (.cells #[.int .i64 (q : Int), .map (some w.heap.size)] 69 (0, 0)) := by
    have := (MapKept.heap_alloc (w.alloc (.map #[] 0)) (.cells #[.int .i64 (q : Int), .map (some w.heap.size)] 69)).1
    rwa [World.size_alloc] at this
  refine ⟨w.heap.size + 1, w.heap.size, rfl, by omega, by omega, ⟨h1, ?_, fun f hf => absurd hf (by simp), DiskOk.nil h1' h2'⟩, ((Below.refl _ w).alloc (Nat.le_refl _) _).alloc (by simp) _⟩
  exact (MapIs.made w).kept (Below.heap_alloc _ _ _ (by simp))

theorem new_bad (q : Int) (h : q < 1 ∨ 1048576 < q) (w : World) : Calls Try.prog 6 #[.int .i64 q] w fun e w' => e = .returned (.pointer none) ∧ w = w' := by
  rcases h with h | h
  · have hd1 : decide (q < 1) = true := by simp; omega
    go_enter Try.func6, Try.ntmps6
    go_wp2_with fail
    go_ret
    exact ⟨rfl, rfl⟩
  · have hd1 : decide (q < 1) = false := by simp; omega
    have hd2 : decide (1048576 < q) = true := by simp; omega
    go_enter Try.func6, Try.ntmps6
    go_wp2_with fail
    go_ret
    exact ⟨rfl, rfl⟩

/-! ### Copy -/
def tri (f : Ent) : ByteArray × ByteArray × Nat := (f.name, f.bytes, f.sync)
def CopyPost (q : Nat) (fs : List Ent) (w : World) (e : Ending) (w' : World) : Prop :=
  ∃ a m cs, e = .returned (.pointer (some ⟨a, 0, none⟩)) ∧ (∀ k, foot a m cs k → w.heap.size ≤ k) ∧ DiskAt w' a m q cs ∧ (cs.map tri).Perm (fs.map tri) ∧ Below w.heap.size w w'

/-- what the loop has made so far -/
structure CopySt (w : World) (fs : List Ent) (q a m bx : Nat) (pre : List (KE fs)) (cs : List Ent) (W : World) : Prop where
  box : One W bx (.pointer (some ⟨a, 0, none⟩)) 23
  head : W.heap[a]? = some (.cells #[.int .i64 (q : Int), .map (some m)] 69 (0, 0))
  map : MapIs W m (kvOf cs)
  files : ∀ f ∈ cs, FileAt W f
  low : ∀ f ∈ cs, w.heap.size ≤ f.blk
  blks : (cs.map (·.blk)).Nodup
  of : ∀ c ∈ cs, ∃ f ∈ fs, tri f = tri c
  all : ∀ x ∈ pre, ∃ c ∈ cs, c.name = x.1.1
  old : Below w.heap.size w W

theorem putF_mem (g : Ent) (fs : List Ent) : g ∈ putF g fs := by
  induction fs with
  | nil => simp [putF]
  | cons x r ih => simp only [putF]; split; exact List.mem_cons_self ..; exact List.mem_cons_of_mem _ ih
theorem putF_keeps (g : Ent) {fs : List Ent} {c : Ent} (h : c ∈ fs) : ∃ c' ∈ putF g fs, c'.name = c.name := by
  induction fs with
  | nil => cases h
  | cons x r ih =>
    simp only [putF]
    split
    · rename_i he
      rcases List.mem_cons.1 h with rfl | h
      · exact ⟨g, List.mem_cons_self .., he⟩
      · exact ⟨c, List.mem_cons_of_mem _ h, rfl⟩
    · rcases List.mem_cons.1 h with rfl | h
      · exact ⟨c, List.mem_cons_self .., rfl⟩
      · obtain ⟨c', h1, h2⟩ := ih h
        exact ⟨c', List.mem_cons_of_mem _ h1, h2⟩

theorem tri_nodup {fs : List Ent} (h : (fs.map (·.name)).Nodup) : (fs.map tri).Nodup := by
  unfold List.Nodup at h ⊢
  rw [List.pairwise_map] at h ⊢
  exact h.imp (fun hne he => hne (congrArg Prod.fst he))
theorem usedF_perm {cs fs : List Ent} (h : (cs.map tri).Perm (fs.map tri)) : usedF cs = usedF fs := by
  have h1 : ∀ l : List Ent, usedF l = ((l.map tri).map fun t => t.2.1.size).sum := fun l => by rw [List.map_map]; rfl
  rw [h1, h1]
  exact (h.map _).sum_nat

set_option maxRecDepth 100000 in
set_option maxHeartbeats 4000000 in
theorem copy_any {w : World} {a m q : Nat} {fs : List Ent} (h : DiskAt w a m q fs) :
    Calls Try.prog 11 #[.pointer (some ⟨a, 0, none⟩)] w (CopyPost q fs w) := by
  have hD := Lib.hid h; clear h
  have hc0 := hD.out.c0
  have hc1 := hD.out.c1
  have hq1 := hD.out.ok.q1
  have hq2 := hD.out.ok.q2
  have hfE : Fence.wide.fn 38 := trivial
  have hfI : Fence.wide.fn 37 := trivial
  have hfN : Fence.wide.fn 6 := trivial
  refine (callsIn_wide (n := 13)).1 ?_
  refine callsIn_of_wp_marks Try.func11 rfl trivial ?_ rfl
  simp only [Try.ntmps11, List.size_toArray, List.length_cons, List.length_nil, Nat.reduceAdd, Nat.reduceSub, Array.replicate_succ, Array.replicate_zero, List.push_toArray, List.append_toArray, List.nil_append, List.cons_append]
  gi_wp2_with fail
  refine (callsIn_wide.2 (is_yes a m _ hc1)).mono ?_
  rintro e w' ⟨rfl, rfl⟩
  gi_wp2_with fail
  refine (callsIn_wide.2 (new_ok q hq1 hq2 _)).mono ?_
  rintro e w1 ⟨a', m', rfl, ha', hm', hD', hB1⟩
  have HD' := Lib.hid hD'; clear hD'
  gi_wp2_with fail
  refine (callsIn_wide.2 (each_any _ _)).mono ?_
  rintro e w' ⟨rfl, rfl⟩
  gi_wp2_with fail
  have hsz1 : w.heap.size ≤ w1.heap.size := hB1.size
  have hlm : m' < w1.heap.size := HD'.out.lt m' (.inr (.inl rfl))
  have hla : a' < w1.heap.size := HD'.out.lt a' (.inl rfl)
  have hwa := hD.out.lt a (.inl rfl)
  have hwm := hD.out.lt m (.inr (.inl rfl))
  have hB2 : Below w1.heap.size w1 ((w1.alloc (.cells #[.pointer (some ⟨a', 0, none⟩)] 23)).alloc (.cells #[.pointer (some ⟨a, 0, none⟩)] 23)) := ((Below.refl _ w1).alloc (Nat.le_refl _) _).alloc (by simp) _
  have hn : One ((w1.alloc (.cells #[.pointer (some ⟨a', 0, none⟩)] 23)).alloc (.cells #[.pointer (some ⟨a, 0, none⟩)] 23)) w1.heap.size (.pointer (some ⟨a', 0, none⟩)) 23 := (One.new w1 _ _).alloc _
  have hbx : One ((w1.alloc (.cells #[.pointer (some ⟨a', 0, none⟩)] 23)).alloc (.cells #[.pointer (some ⟨a, 0, none⟩)] 23)) (w1.heap.size + 1) (.pointer (some ⟨a, 0, none⟩)) 23 := by
    have := One.new (w1.alloc (.cells #[.pointer (some ⟨a', 0, none⟩)] 23)) (.pointer (some ⟨a, 0, none⟩)) 23
    rwa [World.size_alloc] at this
  obtain ⟨W0, hW0⟩ : ∃ W0, (w1.alloc (.cells #[.pointer (some ⟨a', 0, none⟩)] 23)).alloc (.cells #[.pointer (some ⟨a, 0, none⟩)] 23) = W0 := ⟨_, rfl⟩
  have hsz0 : W0.heap.size = w1.heap.size + 1 + 1 := by rw [← hW0]; simp
  rw [hW0] at hn hbx hB2 ⊢
  have hB02 : Below w.heap.size w W0 := hB1.trans (hB2.mono hsz1)
  have hD0 := hD.out.below hB02
  have hDc := HD'.out.below hB2
  clear hW0
  refine wpIn_rangeFunc_ownG rfl (by omega) (gf := 57) (lb := #[.pointer (some ⟨w1.heap.size + 1, 0, none⟩)]) rfl trivial (enters_of Try.func57 (by kernel_rfl) rfl)
    (each1_stops hD0 (w1.heap.size + 1) hbx (fun _ k => k = m') (fun W hW k hk => by subst hk; omega)) KeepT.trans (KeepT.putObj (fun _ _ _ _ _ h => h)) (Below.refl _ _) (fun _ => rfl)
    (fun pre W => W0.heap.size ≤ W.heap.size ∧ ∃ cs, CopySt w fs q a' m' w1.heap.size pre cs W)
    (fun _ _ _ => False)
    (fun pre X Y row hs hg hr => by
      obtain ⟨hs1, cs, hc⟩ := hs
      have key : ∀ k o, X.heap[k]? = some o → (o.isCells = true ∨ k < W0.heap.size) → Y.heap[k]? = some o := fun k o ho hk => (hg.block k (lt_of_heap ho) (fun e => by
        obtain ⟨h1, o', h2, h3⟩ := hr k e.symm
        rw [ho] at h2
        cases h2
        rcases hk with hk | hk
        · rw [h3] at hk; cases hk
        · omega)).trans ho
      refine ⟨Nat.le_trans hs1 hg.size, cs, ⟨key _ _ hc.box (.inl rfl), key _ _ hc.head (.inl rfl), ?_, fun f hf => key _ _ (hc.files f hf) (.inl rfl), hc.low, hc.blks, hc.of, hc.all, hc.old.trans ⟨hg.os, hg.tape, hg.output, hg.size, fun k hk => ?_⟩⟩⟩
      · obtain ⟨es, ck, hm, h2⟩ := hc.map
        exact ⟨es, ck, key _ _ hm (.inr (by omega)), h2⟩
      · exact hg.block k (by have := hc.old.size; omega) (fun e => by have := (hr k e.symm).1; omega))
    (fun _ _ _ _ _ hs _ _ => hs)
    ⟨Nat.le_refl _, [], ⟨hn, hDc.head, hDc.map, fun f hf => absurd hf (by simp), fun f hf => absurd hf (by simp), by simp, fun f hf => absurd hf (by simp), fun f hf => absurd hf (by simp), hB02⟩⟩
    (fun x => { tmps := #[.pointer (some ⟨a, 0, none⟩), undef, .pointer none, .pointer (some ⟨w1.heap.size, 0, none⟩), .string x.1.1, .pointer (some ⟨x.1.2, 0, none⟩), undef, .pointer (some ⟨a, 0, none⟩), .bool true, .bool false, .pointer (some ⟨a, 0, none⟩), .pointer (some ⟨a, 0, none⟩), .pointer (some ⟨a, 0, none⟩), .int .i64 (q : Int), .pointer (some ⟨a', 0, none⟩), .pointer (some ⟨a, 0, none⟩),
      .func (.func 57) #[] #[.pointer (some ⟨w1.heap.size + 1, 0, none⟩)], .string x.1.1, .pointer (some ⟨x.1.2, 0, none⟩), undef, undef, undef, undef, undef, undef, undef, undef, undef], defers := [] }) ?assign ?body ?done ?stop
  case assign =>
    intro l x W K hK
    unfold encsK
    gi_wp2
    exact hK
  case body =>
    rintro l pre x W ⟨hs, cs, hc⟩ hlen
    obtain ⟨f, hf, hfn, hfb⟩ := x.file
    have hDW := hD.out.below hc.old
    have hb0 := hDW.b0 hf
    have hb1 := hDW.b1 hf
    rw [hfb] at hb0 hb1
    have hbl : x.1.2 < W.heap.size := by rw [← hfb]; exact hDW.lt _ (.inr (.inr ⟨f, hf, rfl⟩))
    have HC := Lib.hid hc; clear hc
    have hcb := HC.out.box.cell
    have hch : W.cell? ⟨a', 1, none⟩ = some (.map (some m')) := by rw [cell_of_heap HC.out.head]; rfl
    have hal : a' < W.heap.size := lt_of_heap HC.out.head
    have hwl : w1.heap.size < W.heap.size := lt_of_heap HC.out.box
    have HF := Lib.hid (And.intro hf (And.intro hfn hfb)); clear hf hfn hfb
    have HDW := Lib.hid hDW; clear hDW
    have hmap := (HC.out.map.kept (Below.heap_alloc W (Obj.cells #[.string f.bytes, .int .i64 (f.sync : Int)] 75) m' HC.out.map.lt))
    obtain ⟨w2, hrun, hM, hG⟩ := hmap.update (P := Try.prog) Try.underlying67 Try.underlying9 x.1.1 W.heap.size
    have HM := Lib.hid hM; clear hM hmap
    have HG := Lib.hid hG; clear hG
    have HS := Lib.hid hs; clear hs
    gi_wp2
    have hC := HC.out
    have hG := HG.out
    have hml := hC.map.lt
    have hW := HS.out
    have hk : ∀ k, k < W.heap.size → k ≠ m' → w2.heap[k]? = W.heap[k]? := fun k hk hne =>
      (hG.block k (by simp; omega) (fun e => hne (by cases e; rfl))).trans (Below.heap_alloc _ _ _ hk)
    have hnew : w2.heap[W.heap.size]? = some (.cells #[.string f.bytes, .int .i64 (f.sync : Int)] 75 (0, 0)) :=
      (hG.block _ (by simp) (fun e => by cases e; omega)).trans (MapKept.heap_alloc W _).1
    have hsz2 : W.heap.size ≤ w2.heap.size := by have := hG.size; simp at this; omega
    have ham : a' ≠ m' := by
      intro e
      obtain ⟨es, ck, hm, _⟩ := hC.map
      have := hC.head
      rw [e, hm] at this
      cases this
    have hblk : ∀ c ∈ cs, c.blk ≠ m' := by
      intro c hc e
      obtain ⟨es, ck, hm, _⟩ := hC.map
      have := hC.files c hc
      unfold FileAt at this
      rw [e, hm] at this
      cases this
    have hcl : ∀ c ∈ cs, c.blk < W.heap.size := fun c hc => lt_of_heap (hC.files c hc)
    obtain ⟨hf, hfn, hfb⟩ := HF.out
    refine ⟨((KeepsOthers.alloc W _).from _).trans (KeepsFrom.of_grownBy hG (fun j e => by cases e; omega)), ⟨hsz2, fun k o ho _ hne => (hk k (lt_of_heap ho) hne).trans ho, fun _ _ h => h⟩, by omega, putF ⟨x.1.1, W.heap.size, f.bytes, f.sync⟩ cs, ?_⟩
    refine ⟨(hk _ (lt_of_heap hC.box) (by omega)).trans hC.box, (hk _ (lt_of_heap hC.head) ham).trans hC.head, ?_, ?_, ?_, ?_, ?_, ?_, ?_⟩
    · rw [kvOf_putF]; exact HM.out
    · intro c hc
      rcases mem_putF hc with rfl | hc
      · exact hnew
      · exact (hk _ (hcl c hc) (hblk c hc)).trans (hC.files c hc)
    · intro c hc
      rcases mem_putF hc with rfl | hc
      · show w.heap.size ≤ W.heap.size; omega
      · exact hC.low c hc
    · exact putF_blks hC.blks (fun c hc => by have := hcl c hc; show c.blk ≠ W.heap.size; omega)
    · intro c hc
      rcases mem_putF hc with rfl | hc
      · exact ⟨f, hf, by simp [tri, hfn]⟩
      · exact hC.of c hc
    · intro y hy
      rcases List.mem_append.1 hy with hy | hy
      · obtain ⟨c, hc, hn⟩ := hC.all y hy
        obtain ⟨c', h1, h2⟩ := putF_keeps ⟨x.1.1, W.heap.size, f.bytes, f.sync⟩ hc
        exact ⟨c', h1, h2.trans hn⟩
      · obtain rfl : y = x := by simpa using hy
        exact ⟨_, putF_mem _ _, rfl⟩
    · exact hC.old.trans (((Below.refl w.heap.size W).alloc (by omega) _).grown hG (by simp; omega) (fun k e => by cases e; omega))
  case done =>
    rintro D ys W hDs rfl ⟨hs, cs, hc⟩ hK
    have hcb := hc.box.cell
    have HC := Lib.hid hc; clear hc
    gi_wp2
    refine ⟨by simp, .inl ⟨_, _, rfl, run_takeDeferred hK, ?_⟩⟩
    have hC := HC.out
    have hput : ∀ (k : Nat) (o : Obj), W.heap[k]? = some o → (o.isCells || o.isWalk) = true → (W.putObj D (.deferred none)).heap[k]? = some o := fun k o ho hw => by
      have hne : k ≠ D := by
        rintro rfl
        rw [hK] at ho
        cases ho
        cases hw
      exact (World.putObj_heap_other hne).trans ho
    have huniq : (cs.map (·.name)).Nodup := by
      have := hC.map.nodup
      simpa [kvOf, List.map_map, Function.comp_def] using this
    have hperm : (cs.map tri).Perm (fs.map tri) := by
      rw [List.perm_ext_iff_of_nodup (tri_nodup huniq) (tri_nodup hD.out.ok.uniq)]
      intro z
      constructor
      · intro hz
        obtain ⟨c, hc, rfl⟩ := List.mem_map.1 hz
        obtain ⟨f, hf, he⟩ := hC.of c hc
        rw [← he]; exact List.mem_map_of_mem hf
      · intro hz
        obtain ⟨f, hf, rfl⟩ := List.mem_map.1 hz
        have hm : (f.name, f.blk) ∈ kvOf fs := List.mem_map_of_mem hf
        have : (f.name, f.blk) ∈ (kvS fs).map (·.1) := by rw [kvS_map]; exact (sortKV_perm _).symm.subset hm
        obtain ⟨y, hy, hye⟩ := List.mem_map.1 this
        obtain ⟨c, hc, hn⟩ := hC.all y hy
        obtain ⟨f', hf', he⟩ := hC.of c hc
        have hnn : f'.name = f.name := by
          have h1 := congrArg Prod.fst he
          have h2 := congrArg Prod.fst hye
          simp [tri] at h1 h2
          rw [h1, hn, h2]
        have h3 := lookF_of_mem hD.out.ok.uniq hf
        have h4 := lookF_of_mem hD.out.ok.uniq hf'
        rw [hnn, h3] at h4
        cases h4
        rw [he]; exact List.mem_map_of_mem hc
    have hmem : ∀ c ∈ cs, ∃ f ∈ fs, tri f = tri c := hC.of
    refine ⟨.pointer (some ⟨a', 0, none⟩), by simp [results, Try.results11, go_sem], a', m', cs, rfl, ?_, ⟨hput _ _ hC.head is_cells, ?_, fun c hc => hput _ _ (hC.files c hc) is_cells, ?_⟩, hperm, ?_⟩
    · rintro k (rfl | rfl | ⟨c, hc, rfl⟩)
      · exact ha'
      · exact hm'
      · exact hC.low c hc
    · obtain ⟨es, ck, hm, h2⟩ := hC.map
      exact ⟨es, ck, hput _ _ hm is_map, h2⟩
    · have hl : cs.length = fs.length := by have := hperm.length_eq; simpa using this
      refine ⟨hq1, hq2, by rw [hl]; exact hD.out.ok.n64, ?_, huniq, hC.blks, ?_, ?_, by rw [usedF_perm hperm]; exact hD.out.ok.used⟩
      · intro c hc
        obtain ⟨f, hf, he⟩ := hmem c hc
        have h1 : f.name = c.name := congrArg Prod.fst he
        rw [← h1]; exact hD.out.ok.names f hf
      · intro c hc
        obtain ⟨f, hf, he⟩ := hmem c hc
        have h1 : f.bytes = c.bytes := congrArg (fun t => t.2.1) he
        rw [← h1]; exact hD.out.ok.size f hf
      · intro c hc
        obtain ⟨f, hf, he⟩ := hmem c hc
        have h1 : f.bytes = c.bytes := congrArg (fun t => t.2.1) he
        have h2 : f.sync = c.sync := congrArg (fun t => t.2.2) he
        rw [← h1, ← h2]; exact hD.out.ok.sync f hf
    · exact hC.old.trans (belowK_b (w := w) (Nat.le_refl _) _ D _ _ (by omega) hK rfl rfl)
  case stop =>
    rintro D c pre W _ _ h _
    exact h.elim
end Go.Proofs.Ytjdkhclcempafaa
