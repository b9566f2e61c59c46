import Derived.Test.YtjdkhclcempafaaGreatDkPh
import Derived.Test.YtjdkhclcempafaaGreatDkPw
set_option linter.unusedVariables false
set_option linter.unusedSimpArgs false
namespace Go.Proofs.YtjdkhclcempafaaGreat
open Go.RowKit Go.Shelf Go.Sort Go.Maps

section
variable {w0 W W' : World} {P : PW} {fs : List Ent} {Q : List Ent → Prop} {wr E : Int} {e : Ending}
theorem WPost.go (h : WPost E w0 W P fs Q wr false e W') (hne : wr ≠ P.fuse) : ∃ fs', Q fs' ∧ e = .returned (.int .i64 E) ∧ Rest w0 W' P fs' (wr + 1) false := by
  obtain ⟨r, rfl, ⟨h, _⟩ | ⟨_, h, _⟩ | ⟨_, _, rfl, fs', hq, hr, _⟩⟩ := h
  · cases h
  · exact absurd h hne
  · exact ⟨fs', hq, rfl, hr⟩
theorem WPost.hit (h : WPost E w0 W P fs Q wr false e W') (he : wr = P.fuse) : ∃ fs', HitQ P.ks fs Q fs' ∧ e = .returned (.int .i64 8) ∧ Rest w0 W' P fs' (wr + 1) true := by
  obtain ⟨r, rfl, ⟨h, _⟩ | ⟨_, _, rfl, fs', hq, hr, _⟩ | ⟨_, h, _⟩⟩ := h
  · cases h
  · exact ⟨fs', hq, rfl, hr⟩
  · exact absurd he h
theorem WPost.done (h : WPost E w0 W P fs Q wr true e W') : e = .returned (.int .i64 8) ∧ Rest w0 W' P fs wr true := by
  obtain ⟨r, rfl, ⟨_, rfl, fs', rfl, hr, _⟩ | ⟨h, _⟩ | ⟨h, _⟩⟩ := h
  · exact ⟨rfl, hr⟩
  · cases h
  · cases h
end

/-! ### left, awake -/
def pA : ByteArray := ⟨#[97]⟩
def xyz : ByteArray := ⟨#[120, 121, 122]⟩
def leftE (ks : List Int) (b : Nat) : Ent := crashG (crashK ks 0) ⟨pA, b, if oddK ks then xyz else ⟨#[]⟩, 0⟩
def leftS (ks : List Int) : ByteArray := (leftE ks 0).bytes
theorem crash_single (ks : List Int) (f : Ent) : crashR ks [f] = [crashG (crashK ks 0) f] := by
  have h : sortKV (kvOf [f]) = [(f.name, f.blk)] := by simp [sortKV, kvOf]
  unfold crashR
  rw [h]
  simp [crashAt, setF]
theorem left1 (b : Nat) : createE [] pA = 0 ∧ createR b pA [] = [⟨pA, b, ⟨#[]⟩, 0⟩] := ⟨by kernel_rfl, by kernel_rfl⟩
theorem left2 (b : Nat) : appendR 100 pA xyz [⟨pA, b, ⟨#[]⟩, 0⟩] = [⟨pA, b, xyz, 0⟩] := by kernel_rfl
theorem left3 (ks : List Int) (b : Nat) {fs : List Ent} (h : HitQ ks [⟨pA, b, ⟨#[]⟩, 0⟩] (fun f => f = appendR 100 pA xyz [⟨pA, b, ⟨#[]⟩, 0⟩]) fs) : fs = [leftE ks b] := by
  unfold HitQ at h
  unfold leftE
  split at h
  · rename_i ho
    obtain ⟨f1, rfl, rfl⟩ := h
    rw [left2, crash_single, if_pos ho]
  · rename_i ho
    rw [h, crash_single, if_neg ho]
theorem left4 (ks : List Int) (b : Nat) : readS [leftE ks b] pA = leftS ks ∧ errS [leftE ks b] pA = 0 := by
  have hn : nameOk pA = true := by kernel_rfl
  have hl : lookF pA [leftE ks b] = some (leftE ks b) := by simp [lookF, leftE, crashG]
  exact ⟨by unfold readS; rw [if_pos hn, hl]; rfl, by unfold errS; rw [if_pos hn, hl]; rfl⟩

set_option maxHeartbeats 4000000 in
set_option maxRecDepth 20000 in
theorem left_any {w : World} {p : Option Addr} {ks : List Int} (hk : ListAt w p ks) (kcap : Nat) :
    Calls Tryz.prog 14 #[.int .i64 1, .slice p ks.length kcap] w (RB (.string (leftS ks)) w) := by
  have HK := Lib.hid hk; clear hk
  go_enter Tryz.func14, Tryz.ntmps14
  go_wp2_with fail
  refine (own_new w w (Below.refl _ _) 100 (by omega) (by omega)).mono ?_
  rintro e w1 ⟨a, m, rfl, O1⟩
  have H1 := Lib.hid O1; clear O1
  go_wp2_with fail
  refine (pnew_any H1.out 1 (by omega) (HK.out.below H1.out.old) kcap).mono ?_
  rintro e w2 ⟨P, hP, rfl, hR, hB, _, _⟩
  have HP := Lib.hid hP; clear hP hB
  have H2 := Lib.hid hR; clear hR H1 HK
  go_wp2_with fail
  refine (pCreate_any H2.out (by omega) pA).mono ?_
  rintro e w3 hw
  obtain ⟨f3, ⟨b, hf3⟩, he, hR⟩ := hw.go (by rw [HP.out.2.2.2.1]; omega)
  rw [(left1 b).1] at he
  rw [(left1 b).2] at hf3
  subst hf3 he
  have H3 := Lib.hid hR; clear hR hw
  go_wp2_with fail
  refine (pAppend_any H3.out (by omega) pA xyz (by decide)).mono ?_
  rintro e w4 hw
  obtain ⟨f4, hf4, he, hR⟩ := hw.hit (by rw [HP.out.2.2.2.1]; rfl)
  rw [HP.out.2.2.1, HP.out.2.2.2.2] at hf4
  have hf4 := left3 ks b hf4
  subst hf4 he
  have H4 := Lib.hid hR; clear hR hw
  go_wp2_with fail
  refine (pAppend_any H4.out (by omega) pA ⟨#[119]⟩ (by decide)).mono ?_
  rintro e w5 hw
  obtain ⟨he, hR⟩ := hw.done
  subst he
  have H5 := Lib.hid hR; clear hR hw
  go_wp2_with fail
  refine (pread_any H5.out pA).mono ?_
  rintro e w6 ⟨rfl, hR, _⟩
  simp only [if_true]
  have H6 := Lib.hid hR; clear hR
  go_wp2_with fail
  have hr := read_any H6.out.disk.disk pA
  rw [(left4 ks b).1, (left4 ks b).2, HP.out.1] at hr
  refine hr.mono ?_
  clear hr
  rintro e w7 ⟨rfl, hB⟩
  have H7 := Lib.hid (H6.out.below hB); clear hB
  go_wp2_with fail
  refine (pdown_any H7.out.pow).mono ?_
  rintro e w' ⟨rfl, rfl⟩
  simp only [offI, if_true, ne_eq, Int.reduceEq, not_false_eq_true, decide_true]
  go_wp2_with fail
  refine (pwrites_any H7.out.pow).mono ?_
  rintro e w' ⟨rfl, rfl⟩
  go_wp2_with fail
  go_ret
  exact ⟨rfl, H7.out.disk.old⟩

theorem list_new (w : World) (k : Int) (hk : -9223372036854775808 ≤ k ∧ k ≤ 9223372036854775807) (t : TypeId) : ListAt (w.alloc (.cells #[.int .i64 k] t)) (some ⟨w.heap.size, 0, none⟩) [k] := by
  refine ⟨by simp, by simpa using hk, .inr ⟨_, _, rfl, fun j hj => ?_⟩⟩
  have : j = 0 := by simpa using hj
  subst this
  simp
theorem list_new2 (w : World) (k l : Int) (hk : -9223372036854775808 ≤ k ∧ k ≤ 9223372036854775807) (hl : -9223372036854775808 ≤ l ∧ l ≤ 9223372036854775807) (t : TypeId) : ListAt (w.alloc (.cells #[.int .i64 k, .int .i64 l] t)) (some ⟨w.heap.size, 0, none⟩) [k, l] := by
  refine ⟨by simp, by simp; omega, .inr ⟨_, _, rfl, fun j hj => ?_⟩⟩
  have : j = 0 ∨ j = 1 := by have : j < 2 := hj; omega
  rcases this with rfl | rfl <;> simp
theorem list_nil (w : World) : ListAt w none [] := ⟨by simp, by simp, .inl rfl⟩
theorem leftv : leftS [1, 2] = ⟨#[120]⟩ ∧ leftS [0] = ⟨#[]⟩ ∧ leftS [] = ⟨#[]⟩ := ⟨by kernel_rfl, by kernel_rfl, by kernel_rfl⟩

set_option maxRecDepth 20000 in
theorem awake_any (w : World) : Calls Tryz.prog 5 #[] w (RB (.bool true) w) := by
  go_enter Tryz.func5, Tryz.ntmps5
  go_wp2_with fail
  have hr : Calls Tryz.prog 14 #[.int .i64 1, .slice (some ⟨w.heap.size, 0, none⟩) 2 2] (w.alloc (.cells #[.int .i64 1, .int .i64 2] 3)) _ := left_any (list_new2 w 1 2 (by omega) (by omega) 3) 2
  rw [leftv.1] at hr
  refine hr.mono ?_
  clear hr
  rintro e w1 ⟨rfl, hB⟩
  have HB := Lib.hid (((Below.refl _ w).alloc (Nat.le_refl _) (.cells #[.int .i64 1, .int .i64 2] 3)).trans (hB.mono (by simp))); clear hB
  go_wp2_with fail
  have hr : Calls Tryz.prog 14 #[.int .i64 1, .slice (some ⟨w1.heap.size, 0, none⟩) 1 1] (w1.alloc (.cells #[.int .i64 0] 3)) _ := left_any (list_new w1 0 (by omega) 3) 1
  rw [leftv.2.1] at hr
  refine hr.mono ?_
  clear hr
  rintro e w2 ⟨rfl, hB⟩
  have HB2 := Lib.hid (((Below.refl _ w1).alloc (Nat.le_refl _) (.cells #[.int .i64 0] 3)).trans (hB.mono (by simp))); clear hB
  go_wp2_with fail
  go_ret
  exact ⟨rfl, HB.out.trans (HB2.out.mono HB.out.size)⟩
end Go.Proofs.YtjdkhclcempafaaGreat
