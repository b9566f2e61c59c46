import Derived.Test.YtjdkhclcempafaaDkT
import Derived.Test.YtjdkhclcempafaaDkM
set_option linter.unusedVariables false
set_option linter.unusedSimpArgs false
namespace Go.Proofs.Ytjdkhclcempafaa
open Go.RowKit Go.Shelf Go.Sort Go.Maps

attribute [local go_sem] Oper.semAt_some

/-- a disk that is none: nil, or one without files -/
def NoD (w : World) (p : Option Addr) : Prop := p = none ∨ ∃ a, p = some ⟨a, 0, none⟩ ∧ a < w.heap.size ∧ w.cell? ⟨a, 1, none⟩ = some (.map none)
theorem NoD.below {w w' : World} {p : Option Addr} (h : NoD w p) (hB : Below w.heap.size w w') : NoD w' p := by
  rcases h with rfl | ⟨a, rfl, hl, hc⟩
  · exact .inl rfl
  · exact .inr ⟨a, rfl, Nat.lt_of_lt_of_le hl hB.size, (hB.cell (p := ⟨a, 1, none⟩) hl).trans hc⟩

theorem is_no (p : Option Addr) (w : World) (h : NoD w p) :
    Calls Try.prog 37 #[.pointer p] w fun e w' => e = .returned (.bool false) ∧ w = w' := by
  have hk := neqMapNil
  rcases h with rfl | ⟨a, rfl, hl, hc⟩
  · go_enter Try.func37, Try.ntmps37
    go_wp2
    go_ret
    exact ⟨rfl, rfl⟩
  · go_enter Try.func37, Try.ntmps37
    go_wp2
    go_ret
    exact ⟨rfl, rfl⟩

theorem may_no (p : Option Addr) (w : World) (h : NoD w p) (q : Option Addr) (n cap : Nat) :
    Calls Try.prog 56 #[.pointer p, .slice q n cap] w fun e w' => e = .returned (.int .i64 1) ∧ w = w' := by
  have H := Lib.hid h; clear h
  go_enter Try.func56, Try.ntmps56
  go_wp2_with fail
  refine (is_no p w H.out).mono ?_
  rintro e w' ⟨rfl, rfl⟩
  go_wp2_with fail
  go_ret
  exact ⟨rfl, rfl⟩

theorem find_no (p : Option Addr) (w : World) (h : NoD w p) (s : ByteArray) :
    Calls Try.prog 36 #[.pointer p, .string s, .slice none 0 0] w (RB (.tuple #[.pointer none, .int .i64 1]) w) := by
  have H := Lib.hid h; clear h
  go_enter Try.func36, Try.ntmps36
  go_wp2_with fail
  refine (may_no p _ (H.out.below ((Below.refl _ _).alloc (Nat.le_refl _) _)) _ _ _).mono ?_
  rintro e w' ⟨rfl, rfl⟩
  go_wp2_with fail
  go_ret2
  exact ⟨rfl, (Below.refl _ _).alloc (Nat.le_refl _) _⟩

theorem create_no (p : Option Addr) (w : World) (h : NoD w p) (s : ByteArray) :
    Calls Try.prog 30 #[.pointer p, .string s] w (RB (.int .i64 1) w) := by
  have H := Lib.hid h; clear h
  go_enter Try.func30, Try.ntmps30
  go_wp2_with fail
  refine (find_no p _ H.out s).mono ?_
  rintro e w' ⟨rfl, hB⟩
  go_wp2_with fail
  go_ret
  exact ⟨rfl, hB⟩

theorem read_no (p : Option Addr) (w : World) (h : NoD w p) (s : ByteArray) :
    Calls Try.prog 9 #[.pointer p, .string s] w (RB (.tuple #[.string ⟨#[]⟩, .int .i64 1]) w) := by
  have H := Lib.hid h; clear h
  go_enter Try.func9, Try.ntmps9
  go_wp2_with fail
  refine (find_no p _ H.out s).mono ?_
  rintro e w' ⟨rfl, hB⟩
  go_wp2_with fail
  go_ret2
  exact ⟨rfl, hB⟩

theorem synced_no (p : Option Addr) (w : World) (h : NoD w p) (s : ByteArray) :
    Calls Try.prog 10 #[.pointer p, .string s] w (RB (.int .i64 0) w) := by
  have H := Lib.hid h; clear h
  go_enter Try.func10, Try.ntmps10
  go_wp2_with fail
  refine (find_no p _ H.out s).mono ?_
  rintro e w' ⟨rfl, hB⟩
  go_wp2_with fail
  go_ret
  exact ⟨rfl, hB⟩

theorem copy_no (p : Option Addr) (w : World) (h : NoD w p) :
    Calls Try.prog 11 #[.pointer p] w (RB (.pointer none) w) := by
  have H := Lib.hid h; clear h
  refine (callsIn_wide (n := 13)).1 ?_
  refine callsIn_of_wp_marks Try.func11 rfl trivial ?_ rfl
  simp only [Try.ntmps11, List.size_toArray, List.length_cons, List.length_nil, Nat.reduceAdd, Nat.reduceSub, Array.replicate_succ, Array.replicate_zero, List.push_toArray, List.append_toArray, List.nil_append, List.cons_append]
  have hfI : Fence.wide.fn 37 := trivial
  gi_wp2_with fail
  refine (callsIn_wide.2 (is_no p _ H.out)).mono ?_
  rintro e w' ⟨rfl, rfl⟩
  gi_wp2_with fail
  refine ⟨.pointer none, by simp [results, Try.results11], rfl, Below.refl _ _⟩

theorem kvS_nil : kvS [] = [] := List.eq_nil_of_length_eq_zero (by rw [kvS_length]; rfl)

/-- the iterator of a disk that is none -/
theorem each1_none {w0 : World} {p : Option Addr} (h : NoD w0 p) (bx : Nat) (hbx : w0.heap[bx]? = some (.cells #[.pointer p] 23 (0, 0))) (T : World → Nat → Prop) :
    SeqStopsK Fence.wide 12 Try.prog 57 #[.pointer (some ⟨bx, 0, none⟩)] (encsK (fs := [])) (KeepT T) (fun xs => xs = kvS []) (fun pre => pre <+: kvS []) 0 w0 := by
  intro l J Jx W hW hJ hJx hY h0
  have hbW : W.cell? ⟨bx, 0, none⟩ = some (.pointer p) := by rw [cell_of_heap ((hW.block bx (lt_of_heap hbx)).trans hbx)]; rfl
  have hN := Lib.hid (h.below hW); clear h
  have HY := Lib.hid hY; clear hY
  have HJ := Lib.hid hJ; clear hJ
  have HJx := Lib.hid hJx; clear hJx
  have HW := Lib.hid hW; clear hW
  have HH0 := Lib.hid h0; clear h0
  have hfI : Fence.wide.fn 37 := trivial
  refine callsIn_of_wp Try.func57 rfl trivial ?_ rfl
  simp only [Try.ntmps57, List.size_toArray, List.length_cons, List.length_nil, Nat.reduceAdd, Nat.reduceSub, Array.replicate_succ, Array.replicate_zero, List.push_toArray, List.append_toArray, List.nil_append, List.cons_append]
  gi_wp2_with fail
  refine (callsIn_wide.2 (is_no p W hN.out)).mono ?_
  rintro e w' ⟨rfl, rfl⟩
  gi_wp2_with fail
  exact bodyPost_ret (results_none rfl _ _ _) rfl ⟨⟨_, rfl⟩, .inl ⟨[], kvS_nil.symm, HH0.out⟩⟩

theorem KE.none (x : KE []) : False := by have := x.2; simp [kvOf] at this

set_option maxHeartbeats 1000000 in
theorem used_no (p : Option Addr) (w : World) (h : NoD w p) :
    Calls Try.prog 14 #[.pointer p] w (RB (.int .i64 0) w) := by
  have H := Lib.hid h; clear h
  have hfE : Fence.wide.fn 38 := trivial
  refine (callsIn_wide (n := 13)).1 ?_
  refine callsIn_of_wp_marks Try.func14 rfl trivial ?_ rfl
  simp only [Try.ntmps14, List.size_toArray, List.length_cons, List.length_nil, Nat.reduceAdd, Nat.reduceSub, Array.replicate_succ, Array.replicate_zero, List.push_toArray, List.append_toArray, List.nil_append, List.cons_append]
  gi_wp2_with fail
  refine (callsIn_wide.2 (each_any _ _)).mono ?_
  rintro e w' ⟨rfl, rfl⟩
  gi_wp2_with fail
  have hB0 : Below w.heap.size w ((w.alloc (.cells #[.int .i64 0] 3)).alloc (.cells #[.pointer p] 23)) := ((Below.refl _ w).alloc (Nat.le_refl _) _).alloc (by simp) _
  have hn : One ((w.alloc (.cells #[.int .i64 0] 3)).alloc (.cells #[.pointer p] 23)) w.heap.size (.int .i64 0) 3 := (One.new w _ _).alloc _
  have hbx : One ((w.alloc (.cells #[.int .i64 0] 3)).alloc (.cells #[.pointer p] 23)) (w.heap.size + 1) (.pointer p) 23 := by
    have := One.new (w.alloc (.cells #[.int .i64 0] 3)) (.pointer p) 23
    rwa [World.size_alloc] at this
  refine wpIn_rangeFunc_ownG rfl (by omega) (gf := 57) (lb := #[.pointer (some ⟨w.heap.size + 1, 0, none⟩)]) rfl trivial (enters_of Try.func57 (by kernel_rfl) rfl)
    (each1_none (H.out.below hB0) (w.heap.size + 1) hbx (fun _ k => k = w.heap.size)) KeepT.trans (KeepT.putObj (fun _ _ _ _ _ h => h)) (Below.refl _ _) (fun _ => rfl)
    (fun pre W => ((w.alloc (.cells #[.int .i64 0] 3)).alloc (.cells #[.pointer p] 23)).heap.size ≤ W.heap.size ∧ (One W w.heap.size (.int .i64 0) 3 ∧ Below w.heap.size w W))
    (fun _ _ _ => False)
    (ownFrom_low (fun s X Y _ ho ht hu hs hk hI => ⟨(hk _ (by simp; omega)).trans hI.1, hI.2.trans ⟨ho, ht, hu, hs, fun k hk' => hk k (by simp; omega)⟩⟩))
    (fun _ _ _ _ _ hs _ _ => hs)
    ⟨Nat.le_refl _, hn, hB0⟩
    (fun x => absurd x.none id) ?assign ?body ?done ?stop
  case assign => intro l x; exact x.none.elim
  case body => rintro l pre x; exact x.none.elim
  case done =>
    rintro D ys W hDs rfl ⟨hs, ho, hB⟩ hK
    have hco := ho.cell
    have hfo := ho.free
    have HO := Lib.hid ho; clear ho
    have HH := Lib.hid hB; clear hB
    gi_wp2
    have hK2 : (W.setCell ⟨w.heap.size, 0, none⟩ (.int .i64 0)).heap[D]? = some (.deferred (some [])) := (KeepsOthers.setCell W _ _).same D _ hK rfl
    refine ⟨by simp, .inl ⟨_, _, rfl, run_takeDeferred hK2, ?_⟩⟩
    have hDw : D ≠ w.heap.size := by simp at hDs; omega
    have hcell : ((W.setCell ⟨w.heap.size, 0, none⟩ (.int .i64 0)).putObj D (.deferred none)).cell? ⟨w.heap.size, 0, none⟩ = some (.int .i64 0) := by
      have h1 := HO.out.put (.int .i64 0)
      have h2 : One ((W.setCell ⟨w.heap.size, 0, none⟩ (.int .i64 0)).putObj D (.deferred none)) w.heap.size (.int .i64 0) 3 := (World.putObj_heap_other (Ne.symm hDw)).trans h1
      exact h2.cell
    refine ⟨.int .i64 0, ?_, ?_⟩
    · simp [results, Try.results14, go_sem, hcell]
    · refine ⟨rfl, ?_⟩
      exact (HH.out.setCell (p := ⟨w.heap.size, 0, none⟩) (Nat.le_refl _) _).trans (belowK_b (w := w) (Nat.le_refl _) _ D _ _ (by simp at hDs; omega) hK2 rfl rfl)
  case stop =>
    rintro D c pre W _ _ h _
    exact h.elim
set_option maxHeartbeats 1000000 in
theorem list_no (p : Option Addr) (w : World) (h : NoD w p) :
    Calls Try.prog 13 #[.pointer p] w (RB (.slice none 0 0) w) := by
  have H := Lib.hid h; clear h
  have hfE : Fence.wide.fn 38 := trivial
  refine (callsIn_wide (n := 13)).1 ?_
  refine callsIn_of_wp_marks Try.func13 rfl trivial ?_ rfl
  simp only [Try.ntmps13, List.size_toArray, List.length_cons, List.length_nil, Nat.reduceAdd, Nat.reduceSub, Array.replicate_succ, Array.replicate_zero, List.push_toArray, List.append_toArray, List.nil_append, List.cons_append]
  gi_wp2_with fail
  refine (callsIn_wide.2 (each_any _ _)).mono ?_
  rintro e w' ⟨rfl, rfl⟩
  gi_wp2_with fail
  have hB0 : Below w.heap.size w ((w.alloc (.cells #[.slice none 0 0] 37)).alloc (.cells #[.pointer p] 23)) := ((Below.refl _ w).alloc (Nat.le_refl _) _).alloc (by simp) _
  have hn : One ((w.alloc (.cells #[.slice none 0 0] 37)).alloc (.cells #[.pointer p] 23)) w.heap.size (.slice none 0 0) 37 := (One.new w _ _).alloc _
  have hbx : One ((w.alloc (.cells #[.slice none 0 0] 37)).alloc (.cells #[.pointer p] 23)) (w.heap.size + 1) (.pointer p) 23 := by
    have := One.new (w.alloc (.cells #[.slice none 0 0] 37)) (.pointer p) 23
    rwa [World.size_alloc] at this
  refine wpIn_rangeFunc_ownG rfl (by omega) (gf := 57) (lb := #[.pointer (some ⟨w.heap.size + 1, 0, none⟩)]) rfl trivial (enters_of Try.func57 (by kernel_rfl) rfl)
    (each1_none (H.out.below hB0) (w.heap.size + 1) hbx (fun _ k => k = w.heap.size)) KeepT.trans (KeepT.putObj (fun _ _ _ _ _ h => h)) (Below.refl _ _) (fun _ => rfl)
    (fun pre W => ((w.alloc (.cells #[.slice none 0 0] 37)).alloc (.cells #[.pointer p] 23)).heap.size ≤ W.heap.size ∧ (One W w.heap.size (.slice none 0 0) 37 ∧ Below w.heap.size w W))
    (fun _ _ _ => False)
    (ownFrom_low (fun s X Y _ ho ht hu hs hk hI => ⟨(hk _ (by simp; omega)).trans hI.1, hI.2.trans ⟨ho, ht, hu, hs, fun k hk' => hk k (by simp; omega)⟩⟩))
    (fun _ _ _ _ _ hs _ _ => hs)
    ⟨Nat.le_refl _, hn, hB0⟩
    (fun x => absurd x.none id) ?assign ?body ?done ?stop
  case assign => intro l x; exact x.none.elim
  case body => rintro l pre x; exact x.none.elim
  case done =>
    rintro D ys W hDs rfl ⟨hs, ho, hB⟩ hK
    have hco := ho.cell
    have hfo := ho.free
    have HO := Lib.hid ho; clear ho
    have HH := Lib.hid hB; clear hB
    gi_wp2
    have hK2 : (W.setCell ⟨w.heap.size, 0, none⟩ (.slice none 0 0)).heap[D]? = some (.deferred (some [])) := (KeepsOthers.setCell W _ _).same D _ hK rfl
    refine ⟨by simp, .inl ⟨_, _, rfl, run_takeDeferred hK2, ?_⟩⟩
    have hDw : D ≠ w.heap.size := by simp at hDs; omega
    have hcell : ((W.setCell ⟨w.heap.size, 0, none⟩ (.slice none 0 0)).putObj D (.deferred none)).cell? ⟨w.heap.size, 0, none⟩ = some (.slice none 0 0) := by
      have h1 := HO.out.put (.slice none 0 0)
      have h2 : One ((W.setCell ⟨w.heap.size, 0, none⟩ (.slice none 0 0)).putObj D (.deferred none)) w.heap.size (.slice none 0 0) 37 := (World.putObj_heap_other (Ne.symm hDw)).trans h1
      exact h2.cell
    refine ⟨.slice none 0 0, ?_, ?_⟩
    · simp [results, Try.results13, go_sem, hcell]
    · refine ⟨rfl, ?_⟩
      exact (HH.out.setCell (p := ⟨w.heap.size, 0, none⟩) (Nat.le_refl _) _).trans (belowK_b (w := w) (Nat.le_refl _) _ D _ _ (by simp at hDs; omega) hK2 rfl rfl)
  case stop =>
    rintro D c pre W _ _ h _
    exact h.elim

set_option maxRecDepth 20000 in
set_option maxHeartbeats 1000000 in
theorem crash_no (p : Option Addr) (w : World) (h : NoD w p) (q : Option Addr) (n cap : Nat) :
    Calls Try.prog 35 #[.pointer p, .slice q n cap] w (RB (.tuple #[]) w) := by
  have H := Lib.hid h; clear h
  have hfE : Fence.wide.fn 38 := trivial
  refine (callsIn_wide (n := 13)).1 ?_
  refine callsIn_of_wp_marks Try.func35 rfl trivial ?_ rfl
  simp only [Try.ntmps35, List.size_toArray, List.length_cons, List.length_nil, Nat.reduceAdd, Nat.reduceSub, Array.replicate_succ, Array.replicate_zero, List.push_toArray, List.append_toArray, List.nil_append, List.cons_append]
  gi_wp2_with fail
  refine (callsIn_wide.2 (each_any _ _)).mono ?_
  rintro e w' ⟨rfl, rfl⟩
  gi_wp2_with fail
  have hB0 : Below w.heap.size w (((w.alloc (.cells #[.slice q n cap] 34)).alloc (.cells #[.int .i64 0] 3)).alloc (.cells #[.pointer p] 23)) := (((Below.refl _ w).alloc (Nat.le_refl _) _).alloc (by simp) _).alloc (by simp; omega) _
  have hbx : One (((w.alloc (.cells #[.slice q n cap] 34)).alloc (.cells #[.int .i64 0] 3)).alloc (.cells #[.pointer p] 23)) (w.heap.size + 1 + 1) (.pointer p) 23 := by
    have := One.new ((w.alloc (.cells #[.slice q n cap] 34)).alloc (.cells #[.int .i64 0] 3)) (.pointer p) 23
    rwa [World.size_alloc, World.size_alloc] at this
  refine wpIn_rangeFunc_ownG rfl (by omega) (gf := 57) (lb := #[.pointer (some ⟨w.heap.size + 1 + 1, 0, none⟩)]) rfl trivial (enters_of Try.func57 (by kernel_rfl) rfl)
    (each1_none (H.out.below hB0) (w.heap.size + 1 + 1) hbx (fun _ k => False)) KeepT.trans (KeepT.putObj (fun _ _ _ _ _ h => h)) (Below.refl _ _) (fun _ => rfl)
    (fun pre W => (((w.alloc (.cells #[.slice q n cap] 34)).alloc (.cells #[.int .i64 0] 3)).alloc (.cells #[.pointer p] 23)).heap.size ≤ W.heap.size ∧ Below w.heap.size w W)
    (fun _ _ _ => False)
    (ownFrom_low (fun s X Y _ ho ht hu hs hk hI => hI.trans ⟨ho, ht, hu, hs, fun k hk' => hk k (by simp; omega)⟩))
    (fun _ _ _ _ _ hs _ _ => hs)
    ⟨Nat.le_refl _, hB0⟩
    (fun x => absurd x.none id) ?assign ?body ?done ?stop
  case assign => intro l x; exact x.none.elim
  case body => rintro l pre x; exact x.none.elim
  case done =>
    rintro D ys W hDs rfl ⟨hs, hB⟩ hK
    have HH := Lib.hid hB; clear hB
    gi_wp2
    refine ⟨by simp, .inl ⟨_, _, rfl, run_takeDeferred hK, ?_⟩⟩
    refine ⟨.tuple #[], by simp [results, Try.results35, go_sem], rfl, ?_⟩
    exact HH.out.trans (belowK_b (w := w) (Nat.le_refl _) _ D _ _ (by simp at hDs; omega) hK rfl rfl)
  case stop =>
    rintro D c pre W _ _ h _
    exact h.elim
end Go.Proofs.Ytjdkhclcempafaa
