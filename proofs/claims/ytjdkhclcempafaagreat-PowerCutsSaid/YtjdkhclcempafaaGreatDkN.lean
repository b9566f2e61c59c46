import Derived.Test.YtjdkhclcempafaaGreatDkM
import Derived.BigRegion
set_option linter.unusedVariables false
set_option linter.unusedSimpArgs false
namespace Go.Proofs.YtjdkhclcempafaaGreat
open Go.RowKit Go.Shelf Go.Sort Go.Maps

attribute [local go_sem] Oper.semAt_some

/-! ### New -/
/-- a new disk of a quota, of no files -/
def NewPost (q : Nat) (w : World) (e : Ending) (w' : World) : Prop :=
  ∃ a m, e = .returned (.pointer (some ⟨a, 0, none⟩)) ∧ w.heap.size ≤ a ∧ w.heap.size ≤ m ∧ DiskAt w' a m q [] ∧ Below w.heap.size w w'

theorem DiskOk.nil {q : Nat} (h1 : 1 ≤ q) (h2 : q ≤ 1048576) : DiskOk q [] :=
  ⟨h1, h2, by simp, by simp, by simp, by simp, by simp, by simp, by simp [usedF]⟩

set_option maxHeartbeats 1000000 in
theorem new_ok (q : Nat) (h1' : 1 ≤ q) (h2' : q ≤ 1048576) (w : World) : Calls Tryz.prog 7 #[.int .i64 (q : Int)] w (NewPost q w) := by
  have hd1 : decide ((q : Int) < 1) = false := by simp; omega
  have hd2 : decide ((1048576 : Int) < q) = false := by simp; omega
  have hmm := @run_makeMap Tryz.prog
  go_enter Tryz.func7, Tryz.ntmps7
  go_wp2_with fail
  go_ret
  have h1 : ((w.alloc (.map #[] 0)).alloc (.cells #[.int .i64 (q : Int), .map (some w.heap.size)] 40)).heap[w.heap.size + 1]? = some (.cells #[.int .i64 (q : Int), .map (some w.heap.size)] 40 (0, 0)) := by
    have := (MapKept.heap_alloc (w.alloc (.map #[] 0)) (.cells #[.int .i64 (q : Int), .map (some w.heap.size)] 40)).1
    rwa [World.size_alloc] at this
  refine ⟨w.heap.size + 1, w.heap.size, rfl, by omega, by omega, ⟨h1, ?_, fun f hf => absurd hf (by simp), DiskOk.nil h1' h2'⟩, ((Below.refl _ w).alloc (Nat.le_refl _) _).alloc (by simp) _⟩
  exact (MapIs.made w).kept (Below.heap_alloc _ _ _ (by simp))

theorem new_bad (q : Int) (h : q < 1 ∨ 1048576 < q) (w : World) : Calls Tryz.prog 7 #[.int .i64 q] w fun e w' => e = .returned (.pointer none) ∧ w = w' := by
  rcases h with h | h
  · have hd1 : decide (q < 1) = true := by simp; omega
    go_enter Tryz.func7, Tryz.ntmps7
    go_wp2_with fail
    go_ret
    exact ⟨rfl, rfl⟩
  · have hd1 : decide (q < 1) = false := by simp; omega
    have hd2 : decide (1048576 < q) = true := by simp; omega
    go_enter Tryz.func7, Tryz.ntmps7
    go_wp2_with fail
    go_ret
    exact ⟨rfl, rfl⟩

end Go.Proofs.YtjdkhclcempafaaGreat
