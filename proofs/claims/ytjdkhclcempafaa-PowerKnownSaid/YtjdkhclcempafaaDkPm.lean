import Derived.Test.YtjdkhclcempafaaDkPk
import Derived.Test.YtjdkhclcempafaaDkPl
import Derived.LaidEqlPtr
set_option linter.unusedVariables false
set_option linter.unusedSimpArgs false
namespace Go.Proofs.Ytjdkhclcempafaa
open Go.RowKit Go.Shelf Go.Sort Go.Maps

section
variable {w : World} {pa d : Nat} {fuse : Int} {kp : Option Addr} {kn kcap : Nat} {wr off done mu : Int}
theorem pdisk_any (h : PowerAt w pa d fuse kp kn kcap wr off done mu) :
    Calls Try.prog 17 #[.pointer (some ⟨pa, 0, none⟩)] w fun e w' => e = .returned (.pointer (some ⟨d, 0, none⟩)) ∧ w = w' := by
  obtain ⟨c0, c1, c2, c3, c4⟩ := h.c
  clear h
  go_enter Try.func17, Try.ntmps17
  go_wp2_with fail
  refine (pis_yes c0).mono ?_
  rintro e w' ⟨rfl, rfl⟩
  go_wp2_with fail
  go_ret
  exact ⟨rfl, rfl⟩
end
section
variable {p : Option Addr} {w : World}
theorem pdisk_no (h : NoP w p) : Calls Try.prog 17 #[.pointer p] w fun e w' => e = .returned (.pointer none) ∧ w = w' := by
  have H := Lib.hid h; clear h
  go_enter Try.func17, Try.ntmps17
  go_wp2_with fail
  refine (pis_no p w H.out).mono ?_
  rintro e w' ⟨rfl, rfl⟩
  go_wp2_with fail
  go_ret
  exact ⟨rfl, rfl⟩
end
/-! ### powers that are none -/
theorem NoP.below {w W : World} {p : Option Addr} (h : NoP w p) (hB : Below w.heap.size w W) : NoP W p := by
  rcases h with rfl | ⟨a, rfl, hl, hc⟩
  · exact .inl rfl
  · exact .inr ⟨a, rfl, Nat.lt_of_lt_of_le hl hB.size, (hB.cell (p := ⟨a, 0, none⟩) hl).trans hc⟩
set_option maxRecDepth 20000 in
theorem pcreate_no {p : Option Addr} {w : World} (h : NoP w p) (s : ByteArray) : Calls Try.prog 18 #[.pointer p, .string s] w (RB (.int .i64 1) w) := by
  have hB : Below w.heap.size w ((w.alloc (.cells #[.pointer p] 41)).alloc (.cells #[.string s] 9)) := ((Below.refl _ w).alloc (Nat.le_refl _) _).alloc (by simp) _
  have hp0 : ((w.alloc (.cells #[.pointer p] 41)).alloc (.cells #[.string s] 9)).cell? ⟨w.heap.size, 0, none⟩ = some (.pointer p) := (boxes2 w _ _ _ _).1
  have hmf : ∀ (fn : Fn) (first cap : Array Value) (w : World), (Instr.makeFunc fn first cap).run Try.prog w = .ok (.func fn first cap) w := fun _ _ _ _ => rfl
  have H := Lib.hid (And.intro h hB); clear h hB
  go_enter Try.func18, Try.ntmps18
  go_wp2_with fail
  refine (pwrite_no (H.out.1.below H.out.2) _).mono ?_
  rintro e w' ⟨rfl, rfl⟩
  go_wp2_with fail
  go_ret
  exact ⟨rfl, H.out.2⟩
set_option maxRecDepth 20000 in
theorem psync_no {p : Option Addr} {w : World} (h : NoP w p) (s : ByteArray) : Calls Try.prog 20 #[.pointer p, .string s] w (RB (.int .i64 1) w) := by
  have hB : Below w.heap.size w ((w.alloc (.cells #[.pointer p] 41)).alloc (.cells #[.string s] 9)) := ((Below.refl _ w).alloc (Nat.le_refl _) _).alloc (by simp) _
  have hp0 : ((w.alloc (.cells #[.pointer p] 41)).alloc (.cells #[.string s] 9)).cell? ⟨w.heap.size, 0, none⟩ = some (.pointer p) := (boxes2 w _ _ _ _).1
  have hmf : ∀ (fn : Fn) (first cap : Array Value) (w : World), (Instr.makeFunc fn first cap).run Try.prog w = .ok (.func fn first cap) w := fun _ _ _ _ => rfl
  have H := Lib.hid (And.intro h hB); clear h hB
  go_enter Try.func20, Try.ntmps20
  go_wp2_with fail
  refine (pwrite_no (H.out.1.below H.out.2) _).mono ?_
  rintro e w' ⟨rfl, rfl⟩
  go_wp2_with fail
  go_ret
  exact ⟨rfl, H.out.2⟩
theorem pnew_no (fuse : Int) (l : Value) (w : World) : Calls Try.prog 15 #[.pointer none, .int .i64 fuse, l] w fun e w' => e = .returned (.pointer none) ∧ w = w' := by
  go_enter Try.func15, Try.ntmps15
  go_wp2_with fail
  go_ret
  exact ⟨rfl, rfl⟩

theorem neqDisk (a : Addr) (w : World) : (binOp .neq 23 (.pointer (some a)) (.pointer (some a))).run Try.prog w = .ok (.bool false) w := by
  obtain ⟨j, hj⟩ : ∃ j, Try.prog.info? 69 = some j := Option.isSome_iff_exists.1 (by kernel_rfl)
  have h := run_eql_ptr_same (P := Try.prog) w a Try.underlying23 hj
  simp only [binOp] at h ⊢
  generalize Op.equal 23 (.pointer (some a)) (.pointer (some a)) = r at h ⊢
  simp only [Sem.run_bind] at h ⊢
  cases hr : r.run Try.prog w with
  | ok b w' =>
    rw [hr] at h
    simp [Result.andThen, Sem.run_pure] at h ⊢
    exact h
  | halt x w' => rw [hr] at h; simp [Result.andThen] at h
/-! ### the plain law -/
def xyzw : ByteArray := ⟨#[120, 121, 122, 119]⟩
theorem kn1 (b : Nat) : appendE 100 [⟨pA, b, ⟨#[]⟩, 0⟩] pA xyz = 0 ∧ appendR 100 pA xyz [⟨pA, b, ⟨#[]⟩, 0⟩] = [⟨pA, b, xyz, 0⟩] := ⟨by kernel_rfl, by kernel_rfl⟩
theorem kn2 (b : Nat) : errS [⟨pA, b, xyz, 0⟩] pA = 0 ∧ syncR pA [⟨pA, b, xyz, 0⟩] = [⟨pA, b, xyz, 3⟩] := ⟨by kernel_rfl, by kernel_rfl⟩
theorem kn3 (b : Nat) : appendE 100 [⟨pA, b, xyz, 3⟩] pA ⟨#[119]⟩ = 0 ∧ appendR 100 pA ⟨#[119]⟩ [⟨pA, b, xyz, 3⟩] = [⟨pA, b, xyzw, 3⟩] := ⟨by kernel_rfl, by kernel_rfl⟩
theorem kn4 (b : Nat) : (sortKV (kvOf [⟨pA, b, xyzw, 3⟩])).map (·.1) = [pA] := by simp [sortKV, kvOf]
theorem kn5 (b : Nat) : crashR [1, 2] [⟨pA, b, xyzw, 3⟩] = [⟨pA, b, xyzw, 4⟩] := by rw [crash_single]; kernel_rfl
theorem kn6 (b : Nat) : readS [⟨pA, b, xyzw, 4⟩] pA = ⟨#[120, 121, 122, 119]⟩ ∧ errS [⟨pA, b, xyzw, 4⟩] pA = 0 := ⟨by kernel_rfl, by kernel_rfl⟩

/-- the world behind, and the power that is none -/
def ZP (w W : World) (z : Nat) : Prop := RowKit.Below w.heap.size w W ∧ NoP W (some ⟨z, 0, none⟩)
theorem pzero_lies {w W W' : World} (h : RowKit.Below w.heap.size w W) (hB : RowKit.Below (W.alloc (.cells #[.pointer none, .int .i64 0, .slice none 0 0, .int .i64 0, .int .i64 0, .int .u32 0, .int .i32 0, .int .u32 0] 62)).heap.size (W.alloc (.cells #[.pointer none, .int .i64 0, .slice none 0 0, .int .i64 0, .int .i64 0, .int .u32 0, .int .i32 0, .int .u32 0] 62)) W') : ZP w W' W.heap.size := by
  have hs := h.size
  have h0 : NoP (W.alloc (.cells #[.pointer none, .int .i64 0, .slice none 0 0, .int .i64 0, .int .i64 0, .int .u32 0, .int .i32 0, .int .u32 0] 62)) (some ⟨W.heap.size, 0, none⟩) := .inr ⟨W.heap.size, rfl, by simp, by simp⟩
  exact ⟨(h.trans ((Below.refl _ W).alloc (Nat.le_refl _) _ |>.mono hs)).trans (hB.mono (by simp; omega)), h0.below hB⟩
theorem ZP.step {w W W' : World} {z : Nat} (h : ZP w W z) (hB : RowKit.Below W.heap.size W W') : ZP w W' z := ⟨h.1.trans (hB.mono h.1.size), h.2.below hB⟩
end Go.Proofs.Ytjdkhclcempafaa
