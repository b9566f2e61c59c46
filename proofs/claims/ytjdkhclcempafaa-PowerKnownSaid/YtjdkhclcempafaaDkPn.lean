import Derived.Test.YtjdkhclcempafaaDkPm
set_option linter.unusedVariables false
set_option linter.unusedSimpArgs false
namespace Go.Proofs.Ytjdkhclcempafaa
open Go.RowKit Go.Shelf Go.Sort Go.Maps

set_option maxHeartbeats 8000000 in
set_option maxRecDepth 20000 in
theorem pknown_any (w : World) : Calls Try.prog 4 #[] w (RB (.bool true) w) := by
  have hnd := neqDisk
  go_enter Try.func4, Try.ntmps4
  go_wp2_with fail
  refine (own_new w w (Below.refl _ _) 100 (by omega) (by omega)).mono ?_
  rintro e w1 ⟨a, m, rfl, O1⟩
  have H1 := Lib.hid O1; clear O1
  go_wp2_with fail
  have hr : Calls Try.prog 15 #[.pointer (some ⟨a, 0, none⟩), .int .i64 (-1), .slice (some ⟨w1.heap.size, 0, none⟩) 2 2] (w1.alloc (.cells #[.int .i64 1, .int .i64 2] 3)) _ :=
    pnew_any (H1.out.below ((Below.refl _ w1).alloc (Nat.le_refl _) _)) (-1) (by omega) (list_new2 w1 1 2 (by omega) (by omega) 3) 2
  refine hr.mono ?_
  clear hr
  rintro e w2 ⟨P, ⟨hPa, hPm, hPq, hPf, hPk⟩, rfl, hR, _, _, _⟩
  subst hPa hPm
  have HP := Lib.hid (And.intro hPq (And.intro hPf hPk)); clear hPq hPf hPk
  have H2 := Lib.hid hR; clear hR H1
  go_wp2_with fail
  refine (pdown_any H2.out.pow).mono ?_
  rintro e w' ⟨rfl, rfl⟩
  simp only [offI, ne_eq, not_true_eq_false, decide_false, Bool.false_eq_true, if_false]
  go_wp2_with fail
  refine (pdisk_any H2.out.pow).mono ?_
  rintro e w' ⟨rfl, rfl⟩
  go_wp2_with fail
  refine (pCreate_any H2.out (by omega) pA).mono ?_
  rintro e w3 hw
  obtain ⟨f3, ⟨b, hf3⟩, he, hR⟩ := hw.go (by rw [HP.out.2.1]; omega)
  rw [(left1 b).1] at he
  rw [(left1 b).2] at hf3
  subst hf3 he
  have H3 := Lib.hid hR; clear hR hw
  go_wp2_with fail
  refine (pAppend_any H3.out (by omega) pA xyz (by decide)).mono ?_
  rintro e w4 hw
  obtain ⟨f4, hf4, he, hR⟩ := hw.go (by rw [HP.out.2.1]; omega)
  rw [HP.out.1, (kn1 b).2] at hf4
  rw [HP.out.1, (kn1 b).1] at he
  subst hf4 he
  have H4 := Lib.hid hR; clear hR hw
  go_wp2_with fail
  refine (pSync_any H4.out (by omega) pA).mono ?_
  rintro e w5 hw
  obtain ⟨f5, hf5, he, hR⟩ := hw.go (by rw [HP.out.2.1]; omega)
  rw [(kn2 b).2] at hf5
  rw [(kn2 b).1] at he
  subst hf5 he
  have H5 := Lib.hid hR; clear hR hw
  go_wp2_with fail
  refine (pAppend_any H5.out (by omega) pA ⟨#[119]⟩ (by decide)).mono ?_
  rintro e w6 hw
  obtain ⟨f6, hf6, he, hR⟩ := hw.go (by rw [HP.out.2.1]; omega)
  rw [HP.out.1, (kn3 b).2] at hf6
  rw [HP.out.1, (kn3 b).1] at he
  subst hf6 he
  have H6 := Lib.hid hR; clear hR hw
  go_wp2_with fail
  refine (plist_on H6.out.pow (list_any H6.out.disk.disk)).mono ?_
  rintro e w7 hl
  obtain ⟨hB, ⟨hz, _⟩ | ⟨g, cap, _, rfl, _⟩⟩ := hl.names [pA] (kn4 b)
  · cases hz
  have H7 := Lib.hid (H6.out.below hB); clear hB hl
  simp only [List.length_cons, List.length_nil, Nat.zero_add]
  go_wp2_with fail
  refine (pblow_any H7.out).mono ?_
  rintro e w8 ⟨rfl, hR, _⟩
  simp only [Bool.false_eq_true, if_false] at hR
  rw [HP.out.2.2, kn5] at hR
  have H8 := Lib.hid hR; clear hR
  go_wp2_with fail
  refine (pblow_any H8.out).mono ?_
  rintro e w9 ⟨rfl, hR, _⟩
  simp only [if_true] at hR
  have H9 := Lib.hid hR; clear hR
  go_wp2_with fail
  have hr := read_any H9.out.disk.disk pA
  rw [(kn6 b).1, (kn6 b).2] at hr
  refine hr.mono ?_
  clear hr
  rintro e wa ⟨rfl, hB⟩
  have HA := Lib.hid (H9.out.below hB); clear hB
  go_wp2_with fail
  refine (pdown_any HA.out.pow).mono ?_
  rintro e w' ⟨rfl, rfl⟩
  simp only [offI, if_true, ne_eq, Int.reduceEq, not_false_eq_true, decide_true]
  go_wp2_with fail
  refine (pwrites_any HA.out.pow).mono ?_
  rintro e w' ⟨rfl, rfl⟩
  go_wp2_with fail
  refine (plist_off HA.out.pow).mono ?_
  rintro e w' ⟨rfl, rfl⟩
  go_wp2_with fail
  refine (pCreate_any HA.out (by omega) ⟨#[98]⟩).mono ?_
  rintro e wb hw
  obtain ⟨he, hR⟩ := hw.done
  subst he
  have HB := Lib.hid hR; clear hR hw
  go_wp2_with fail
  refine (pwrites_any HB.out.pow).mono ?_
  rintro e w' ⟨rfl, rfl⟩
  go_wp2_with fail
  have hr : Calls Try.prog 24 #[.int .i64 1, .slice none 0 0] wb _ := left_any (list_nil wb) 0
  rw [leftv.2.2] at hr
  refine hr.mono ?_
  clear hr
  rintro e wc ⟨rfl, hB⟩
  have HC := Lib.hid (HB.out.disk.old.trans (hB.mono HB.out.disk.old.size)); clear hB
  clear H2 H3 H4 H5 H6 H7 H8 H9 HA HB HP
  go_wp2_with fail
  refine (pblow_no (.inl rfl) trivial).mono ?_
  rintro e wd ⟨rfl, hB⟩
  have HZ := Lib.hid (pzero_lies HC.out hB); clear hB HC
  go_wp2_with fail
  refine (pblow_no HZ.out.2 trivial).mono ?_
  rintro e we ⟨rfl, hB⟩
  replace HZ := Lib.hid (HZ.out.step hB); clear hB
  go_wp2_with fail
  refine (pread_no (.inl rfl) ⟨#[97]⟩).mono ?_
  rintro e w' ⟨rfl, rfl⟩
  go_wp2_with fail
  refine (pnew_no _ _ _).mono ?_
  rintro e w' ⟨rfl, rfl⟩
  go_wp2_with fail
  refine (pcreate_no (.inl rfl) ⟨#[97]⟩).mono ?_
  rintro e wf ⟨rfl, hB⟩
  replace HZ := Lib.hid (HZ.out.step hB); clear hB
  go_wp2_with fail
  refine (psync_no HZ.out.2 ⟨#[97]⟩).mono ?_
  rintro e wg ⟨rfl, hB⟩
  replace HZ := Lib.hid (HZ.out.step hB); clear hB
  go_wp2_with fail
  refine (pdown_no (.inl rfl)).mono ?_
  rintro e w' ⟨rfl, rfl⟩
  go_wp2_with fail
  refine (pdown_no HZ.out.2).mono ?_
  rintro e w' ⟨rfl, rfl⟩
  go_wp2_with fail
  refine (pwrites_no (.inl rfl)).mono ?_
  rintro e w' ⟨rfl, rfl⟩
  go_wp2_with fail
  refine (pdisk_no HZ.out.2).mono ?_
  rintro e w' ⟨rfl, rfl⟩
  go_wp2_with fail
  refine (plist_no HZ.out.2).mono ?_
  rintro e w' ⟨rfl, rfl⟩
  go_wp2_with fail
  refine (awake_any _).mono ?_
  rintro e wh ⟨rfl, hB⟩
  replace HZ := Lib.hid (HZ.out.step hB); clear hB
  go_wp2_with fail
  go_ret
  exact ⟨rfl, HZ.out.1⟩
end Go.Proofs.Ytjdkhclcempafaa
