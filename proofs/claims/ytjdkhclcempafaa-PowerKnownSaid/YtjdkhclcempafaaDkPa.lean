import Derived.Test.YtjdkhclcempafaaDkP
import Derived.Laws.LoneSync
set_option linter.unusedVariables false
set_option linter.unusedSimpArgs false
namespace Go.Proofs.Ytjdkhclcempafaa
open Go.RowKit Go.Shelf Go.Sort Go.Maps

theorem aload_any (a : Addr) (x : Int) (w : World) (hc : w.cell? a = some (.int .i64 x)) :
    Calls Try.prog 42 #[.pointer (some a)] w fun e w' => e = .returned (.int .i64 x) ∧ w = w' := by
  have hl := run_call_load (P := Try.prog) Try.func60 (by kernel_rfl) (by kernel_rfl) (by kernel_rfl) .i64 (by kernel_rfl) (w := w) (a := a) (x := x) hc
  go_enter Try.func42, Try.ntmps42
  go_wp2_with fail
  go_ret
  exact ⟨rfl, rfl⟩
theorem aadd_any (a : Addr) (x y : Int) (w : World) (hc : w.cell? a = some (.int .i64 x)) (hz : w.frozen? a = false) (hs : IntKind.i64.wrap (x + y) = x + y) :
    Calls Try.prog 61 #[.pointer (some a), .int .i64 y] w fun e w' => e = .returned (.int .i64 (x + y)) ∧ w.setCell a (.int .i64 (x + y)) = w' := by
  have hadd := run_call_add (P := Try.prog) Try.func76 (by kernel_rfl) (by kernel_rfl) (by kernel_rfl) .i64 (by kernel_rfl) (y := y) (s := x + y) hc hz (by simp [go_sem, hs])
  go_enter Try.func61, Try.ntmps61
  go_wp2_with fail
  go_ret
  exact ⟨rfl, rfl⟩

theorem astore_any (a : Addr) (x : Value) (y : Int) (w : World) (hc : w.cell? a = some x) (hz : w.frozen? a = false) :
    Calls Try.prog 49 #[.pointer (some a), .int .i64 y] w fun e w' => e = .returned (.tuple #[]) ∧ w.setCell a (.int .i64 y) = w' := by
  have hst := run_call_store (P := Try.prog) Try.func64 (by kernel_rfl) (by kernel_rfl) (by kernel_rfl) (by kernel_rfl) (k := .i64) (y := y) hc hz
  go_enter Try.func49, Try.ntmps49
  go_wp2_with fail
  go_end0
  exact ⟨rfl, rfl⟩

/-- a power in memory -/
structure PowerAt (w : World) (pa : Nat) (d : Nat) (fuse : Int) (kp : Option Addr) (kn kcap : Nat) (wr off done mu : Int) : Prop where
  at_ : w.heap[pa]? = some (.cells #[.pointer (some ⟨d, 0, none⟩), .int .i64 fuse, .slice kp kn kcap, .int .i64 wr, .int .i64 off, .int .u32 done, .int .i32 mu, .int .u32 0] 62 (0, 0))
theorem PowerAt.c {w : World} {pa d : Nat} {fuse : Int} {kp : Option Addr} {kn kcap : Nat} {wr off done mu : Int} (h : PowerAt w pa d fuse kp kn kcap wr off done mu) :
    w.cell? ⟨pa, 0, none⟩ = some (.pointer (some ⟨d, 0, none⟩)) ∧ w.cell? ⟨pa, 1, none⟩ = some (.int .i64 fuse) ∧ w.cell? ⟨pa, 2, none⟩ = some (.slice kp kn kcap) ∧ w.cell? ⟨pa, 3, none⟩ = some (.int .i64 wr) ∧ w.cell? ⟨pa, 4, none⟩ = some (.int .i64 off) := by
  refine ⟨?_, ?_, ?_, ?_, ?_⟩ <;> (rw [cell_of_heap h.at_]; rfl)

theorem pis_yes {w : World} {pa : Nat} {d : Nat} (h : w.cell? ⟨pa, 0, none⟩ = some (.pointer (some ⟨d, 0, none⟩))) :
    Calls Try.prog 41 #[.pointer (some ⟨pa, 0, none⟩)] w fun e w' => e = .returned (.bool true) ∧ w = w' := by
  go_enter Try.func41, Try.ntmps41
  go_wp2_with fail
  go_ret
  exact ⟨rfl, rfl⟩
/-- a power that is none -/
def NoP (w : World) (p : Option Addr) : Prop := p = none ∨ ∃ a, p = some ⟨a, 0, none⟩ ∧ a < w.heap.size ∧ w.cell? ⟨a, 0, none⟩ = some (.pointer none)
theorem pis_no (p : Option Addr) (w : World) (h : NoP w p) :
    Calls Try.prog 41 #[.pointer p] w fun e w' => e = .returned (.bool false) ∧ w = w' := by
  rcases h with rfl | ⟨a, rfl, hl, hc⟩
  · go_enter Try.func41, Try.ntmps41
    go_wp2_with fail
    go_ret
    exact ⟨rfl, rfl⟩
  · go_enter Try.func41, Try.ntmps41
    go_wp2_with fail
    go_ret
    exact ⟨rfl, rfl⟩
end Go.Proofs.Ytjdkhclcempafaa
