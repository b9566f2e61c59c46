import Derived.Test.YtjdkhclcempafaaGreatDkP
import Derived.Laws.LoneSync
set_option linter.unusedVariables false
set_option linter.unusedSimpArgs false
namespace Go.Proofs.YtjdkhclcempafaaGreat
open Go.RowKit Go.Shelf Go.Sort Go.Maps

theorem aload_any (a : Addr) (x : Int) (w : World) (hc : w.cell? a = some (.int .i64 x)) :
    Calls Tryz.prog 22 #[.pointer (some a)] w fun e w' => e = .returned (.int .i64 x) ∧ w = w' := by
  have hl := run_call_load (P := Tryz.prog) Tryz.func43 (by kernel_rfl) (by kernel_rfl) (by kernel_rfl) .i64 (by kernel_rfl) (w := w) (a := a) (x := x) hc
  go_enter Tryz.func22, Tryz.ntmps22
  go_wp2_with fail
  go_ret
  exact ⟨rfl, rfl⟩
theorem aadd_any (a : Addr) (x y : Int) (w : World) (hc : w.cell? a = some (.int .i64 x)) (hz : w.frozen? a = false) (hs : IntKind.i64.wrap (x + y) = x + y) :
    Calls Tryz.prog 49 #[.pointer (some a), .int .i64 y] w fun e w' => e = .returned (.int .i64 (x + y)) ∧ w.setCell a (.int .i64 (x + y)) = w' := by
  have hadd := run_call_add (P := Tryz.prog) Tryz.func60 (by kernel_rfl) (by kernel_rfl) (by kernel_rfl) .i64 (by kernel_rfl) (y := y) (s := x + y) hc hz (by simp [go_sem, hs])
  go_enter Tryz.func49, Tryz.ntmps49
  go_wp2_with fail
  go_ret
  exact ⟨rfl, rfl⟩

theorem astore_any (a : Addr) (x : Value) (y : Int) (w : World) (hc : w.cell? a = some x) (hz : w.frozen? a = false) :
    Calls Tryz.prog 30 #[.pointer (some a), .int .i64 y] w fun e w' => e = .returned (.tuple #[]) ∧ w.setCell a (.int .i64 y) = w' := by
  have hst := run_call_store (P := Tryz.prog) Tryz.func48 (by kernel_rfl) (by kernel_rfl) (by kernel_rfl) (by kernel_rfl) (k := .i64) (y := y) hc hz
  go_enter Tryz.func30, Tryz.ntmps30
  go_wp2_with fail
  go_end0
  exact ⟨rfl, rfl⟩

/-- a power in memory -/
structure PowerAt (w : World) (pa : Nat) (d : Nat) (fuse : Int) (kp : Option Addr) (kn kcap : Nat) (wr off done mu : Int) : Prop where
  at_ : w.heap[pa]? = some (.cells #[.pointer (some ⟨d, 0, none⟩), .int .i64 fuse, .slice kp kn kcap, .int .i64 wr, .int .i64 off, .int .u32 done, .int .i32 mu, .int .u32 0] 58 (0, 0))
theorem PowerAt.c {w : World} {pa d : Nat} {fuse : Int} {kp : Option Addr} {kn kcap : Nat} {wr off done mu : Int} (h : PowerAt w pa d fuse kp kn kcap wr off done mu) :
    w.cell? ⟨pa, 0, none⟩ = some (.pointer (some ⟨d, 0, none⟩)) ∧ w.cell? ⟨pa, 1, none⟩ = some (.int .i64 fuse) ∧ w.cell? ⟨pa, 2, none⟩ = some (.slice kp kn kcap) ∧ w.cell? ⟨pa, 3, none⟩ = some (.int .i64 wr) ∧ w.cell? ⟨pa, 4, none⟩ = some (.int .i64 off) := by
  refine ⟨?_, ?_, ?_, ?_, ?_⟩ <;> (rw [cell_of_heap h.at_]; rfl)

theorem pis_yes {w : World} {pa : Nat} {d : Nat} (h : w.cell? ⟨pa, 0, none⟩ = some (.pointer (some ⟨d, 0, none⟩))) :
    Calls Tryz.prog 21 #[.pointer (some ⟨pa, 0, none⟩)] w fun e w' => e = .returned (.bool true) ∧ w = w' := by
  go_enter Tryz.func21, Tryz.ntmps21
  go_wp2_with fail
  go_ret
  exact ⟨rfl, rfl⟩
/-- a power that is none -/
def NoP (w : World) (p : Option Addr) : Prop := p = none ∨ ∃ a, p = some ⟨a, 0, none⟩ ∧ a < w.heap.size ∧ w.cell? ⟨a, 0, none⟩ = some (.pointer none)
theorem pis_no (p : Option Addr) (w : World) (h : NoP w p) :
    Calls Tryz.prog 21 #[.pointer p] w fun e w' => e = .returned (.bool false) ∧ w = w' := by
  rcases h with rfl | ⟨a, rfl, hl, hc⟩
  · go_enter Tryz.func21, Tryz.ntmps21
    go_wp2_with fail
    go_ret
    exact ⟨rfl, rfl⟩
  · go_enter Tryz.func21, Tryz.ntmps21
    go_wp2_with fail
    go_ret
    exact ⟨rfl, rfl⟩
end Go.Proofs.YtjdkhclcempafaaGreat
