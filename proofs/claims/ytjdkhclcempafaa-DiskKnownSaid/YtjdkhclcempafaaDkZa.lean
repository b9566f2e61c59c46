import Derived.Test.YtjdkhclcempafaaDkZ
import Derived.Deep.DeepCutAuto
set_option linter.unusedVariables false
set_option linter.unusedSimpArgs false
namespace Go.Proofs.Ytjdkhclcempafaa
open Go.RowKit Go.Shelf Go.Sort Go.Maps

def two (k : Nat) : ByteArray := ⟨#[UInt8.ofNat (97 + k / 8), UInt8.ofNat (97 + k % 8)]⟩
theorem two_nm (k : Nat) : (⟨#[102]⟩ : ByteArray) ++ two k = nm k := rfl
theorem conv_two (w : World) (k : Nat) (hk : k < 64) : (convert 66 9 (.slice (some ⟨w.heap.size, 0, none⟩) 2 2)).run Try.prog (w.alloc (.cells #[.int .u8 (97 + (k : Int) / 8), .int .u8 (97 + (k : Int) % 8)] 5)) =
    .ok (.string (two k)) (w.alloc (.cells #[.int .u8 (97 + (k : Int) / 8), .int .u8 (97 + (k : Int) % 8)] 5)) := by
  have h1 : ((UInt8.ofNat (97 + k / 8)).toNat : Int) = 97 + (k : Int) / 8 := by
    rw [UInt8.toNat_ofNat']; omega
  have h2 : ((UInt8.ofNat (97 + k % 8)).toNat : Int) = 97 + (k : Int) % 8 := by
    rw [UInt8.toNat_ofNat']; omega
  have := run_convert_bytes_back (P := Try.prog) (w.alloc (.cells #[.int .u8 (97 + (k : Int) / 8), .int .u8 (97 + (k : Int) % 8)] 5)) 66 9 5 ⟨w.heap.size, 0, none⟩ 2 [UInt8.ofNat (97 + k / 8), UInt8.ofNat (97 + k % 8)] Try.underlying66 Try.underlying5 Try.underlying9 (by
      intro j hj
      have hj2 : j < 2 := hj
      have : j = 0 ∨ j = 1 := by omega
      rcases this with rfl | rfl
      · have e : (⟨w.heap.size, 0, none⟩ : Addr).add 0 = ⟨w.heap.size, 0, none⟩ := rfl
        rw [e]; simp; omega
      · have e : (⟨w.heap.size, 0, none⟩ : Addr).add 1 = ⟨w.heap.size, 1, none⟩ := rfl
        rw [e]; simp; omega)
  exact this

/-- the world behind, and the disk without files -/
def ZD (w W : World) (z : Nat) : Prop := RowKit.Below w.heap.size w W ∧ NoD W (some ⟨z, 0, none⟩)
theorem ZD.step {w W W' : World} {z : Nat} (h : ZD w W z) (hB : RowKit.Below W.heap.size W W') : ZD w W' z := ⟨h.1.trans (hB.mono h.1.size), h.2.below hB⟩
theorem zero_lies {w W W' : World} (h : RowKit.Below w.heap.size w W) (o : Obj) (hB : RowKit.Below ((W.alloc (.cells #[.int .i64 0, .map none] 69)).alloc o).heap.size ((W.alloc (.cells #[.int .i64 0, .map none] 69)).alloc o) W') : ZD w W' W.heap.size := by
  have hs := h.size
  have h0 : NoD (W.alloc (.cells #[.int .i64 0, .map none] 69)) (some ⟨W.heap.size, 0, none⟩) := .inr ⟨W.heap.size, rfl, by simp, by simp⟩
  have h1 : RowKit.Below (W.alloc (.cells #[.int .i64 0, .map none] 69)).heap.size (W.alloc (.cells #[.int .i64 0, .map none] 69)) ((W.alloc (.cells #[.int .i64 0, .map none] 69)).alloc o) := (Below.refl _ _).alloc (Nat.le_refl _) _
  have h2 : RowKit.Below w.heap.size w ((W.alloc (.cells #[.int .i64 0, .map none] 69)).alloc o) := (h.alloc (by omega) _).alloc (by simp; omega) _
  exact ⟨h2.trans (hB.mono h2.size), (h0.below h1).below hB⟩

set_option maxHeartbeats 8000000 in
set_option maxRecDepth 20000 in
theorem known_any (w : World) : Calls Try.prog 5 #[] w (RB (.bool true) w) := by
  go_enter Try.func5, Try.ntmps5
  go_wp2_with fail
  refine (some_any w).mono ?_
  rintro e w0 ⟨a, m, b, rfl, O0⟩
  have H0 := Lib.hid O0; clear O0
  go_wp2_with fail
  refine (works_any w0).mono ?_
  rintro e w1 ⟨rfl, hB⟩
  have H1 := Lib.hid (H0.out.below hB); clear hB
  go_wp2_with fail
  have hr : Calls Try.prog 28 #[.slice (some ⟨w1.heap.size, 0, none⟩) 1 1] (w1.alloc (.cells #[.int .i64 (-1)] 3)) (OP (.string ⟨#[49, 50, 51, 52, 53]⟩) w a m 10 (oneF b)) := torn_at H1.out (-1) (by omega)
  refine hr.mono ?_
  clear hr
  rintro e w2 ⟨rfl, O⟩
  have H2 := Lib.hid O; clear O
  go_wp2_with fail
  have hr : Calls Try.prog 28 #[.slice (some ⟨w2.heap.size, 0, none⟩) 1 1] (w2.alloc (.cells #[.int .i64 (3)] 3)) (OP (.string ⟨#[49, 50, 51]⟩) w a m 10 (oneF b)) := torn_at H2.out (3) (by omega)
  refine hr.mono ?_
  clear hr
  rintro e w3 ⟨rfl, O⟩
  have H3 := Lib.hid O; clear O
  go_wp2_with fail
  have hr : Calls Try.prog 28 #[.slice (some ⟨w3.heap.size, 0, none⟩) 1 1] (w3.alloc (.cells #[.int .i64 (0)] 3)) (OP (.string ⟨#[49, 50, 51]⟩) w a m 10 (oneF b)) := torn_at H3.out (0) (by omega)
  refine hr.mono ?_
  clear hr
  rintro e w4 ⟨rfl, O⟩
  have H4 := Lib.hid O; clear O
  go_wp2_with fail
  have hr : Calls Try.prog 28 #[.slice (some ⟨w4.heap.size, 0, none⟩) 1 1] (w4.alloc (.cells #[.int .i64 (2)] 3)) (OP (.string ⟨#[49, 50, 51, 52, 53]⟩) w a m 10 (oneF b)) := torn_at H4.out (2) (by omega)
  refine hr.mono ?_
  clear hr
  rintro e w5 ⟨rfl, O⟩
  have H5 := Lib.hid O; clear O
  go_wp2_with fail
  have hr : Calls Try.prog 28 #[.slice (some ⟨w5.heap.size, 0, none⟩) 1 1] (w5.alloc (.cells #[.int .i64 (-4)] 3)) (OP (.string ⟨#[49, 50, 51, 52, 53]⟩) w a m 10 (oneF b)) := torn_at H5.out (-4) (by omega)
  refine hr.mono ?_
  clear hr
  rintro e w6 ⟨rfl, O⟩
  have H6 := Lib.hid O; clear O
  go_wp2_with fail
  have hr := H6.out.append ⟨#[97]⟩ ⟨#[54, 55, 56, 57, 48, 49]⟩ (by decide)
  rw [(x1 b).1, (x1 b).2] at hr
  refine hr.mono ?_
  clear hr
  rintro e w7 ⟨rfl, O⟩
  have H7 := Lib.hid O; clear O
  go_wp2_with fail
  have hr := H7.out.append ⟨#[97]⟩ ⟨#[54, 55, 56, 57, 48]⟩ (by decide)
  rw [(x2 b).1, (x2 b).2] at hr
  refine hr.mono ?_
  clear hr
  rintro e w8 ⟨rfl, O⟩
  have H8 := Lib.hid O; clear O
  go_wp2_with fail
  have hr := H8.out.append ⟨#[97]⟩ ⟨#[120]⟩ (by decide)
  rw [(x3 b).1, (x3 b).2] at hr
  refine hr.mono ?_
  clear hr
  rintro e w9 ⟨rfl, O⟩
  have H9 := Lib.hid O; clear O
  go_wp2_with fail
  have hr := H9.out.append ⟨#[97]⟩ ⟨#[]⟩ (by decide)
  rw [(x4 b).1, (x4 b).2] at hr
  refine hr.mono ?_
  clear hr
  rintro e w10 ⟨rfl, O⟩
  have H10 := Lib.hid O; clear O
  go_wp2_with fail
  refine (H10.out.create ⟨#[65]⟩).mono ?_
  rintro e w11 ⟨c, he, O⟩
  rw [(x5 b c).1] at he
  subst he
  rw [(x5 b c).2] at O
  have H11 := Lib.hid O; clear O
  go_wp2_with fail
  refine (H11.out.create ⟨#[]⟩).mono ?_
  rintro e w12 ⟨c2, he, O⟩
  rw [(x6 b c2).1] at he
  subst he
  rw [(x6 b c2).2] at O
  have H12 := Lib.hid O; clear O
  go_wp2_with fail
  refine (H12.out.create ⟨#[97]⟩).mono ?_
  rintro e w13 ⟨c3, he, O⟩
  rw [(x7 b c3).1] at he
  subst he
  rw [(x7 b c3).2] at O
  have H13 := Lib.hid O; clear O
  go_wp2_with fail
  have hr := own_repeat H13.out 97 33 (by omega)
  refine hr.mono ?_
  clear hr
  rintro e w14 ⟨rfl, O⟩
  have H14 := Lib.hid O; clear O
  go_wp2_with fail
  refine (H14.out.create (rep 97 33)).mono ?_
  rintro e w15 ⟨c4, he, O⟩
  rw [(x8 b c4).1] at he
  subst he
  rw [(x8 b c4).2] at O
  have H15 := Lib.hid O; clear O
  go_wp2_with fail
  have hr := own_repeat H15.out 97 32 (by omega)
  refine hr.mono ?_
  clear hr
  rintro e w16 ⟨rfl, O⟩
  have H16 := Lib.hid O; clear O
  go_wp2_with fail
  refine (H16.out.create (rep 97 32)).mono ?_
  rintro e w17 ⟨b2, he, O⟩
  rw [(x9 b b2).1] at he
  subst he
  rw [(x9 b b2).2] at O
  have H17 := Lib.hid O; clear O
  go_wp2_with fail
  refine (H17.out.create nDot).mono ?_
  rintro e w18 ⟨b3, he, O⟩
  rw [(x10 b b2 b3).1] at he
  subst he
  rw [(x10 b b2 b3).2] at O
  have H18 := Lib.hid O; clear O
  go_wp2_with fail
  have hr := H18.out.used
  rw [x11] at hr
  refine hr.mono ?_
  clear hr
  rintro e w19 ⟨rfl, O⟩
  have H19 := Lib.hid O; clear O
  go_wp2_with fail
  have hr := H19.out.rename ⟨#[97]⟩ ⟨#[98]⟩
  rw [(x12 b b2 b3).1, (x12 b b2 b3).2] at hr
  refine hr.mono ?_
  clear hr
  rintro e w20 ⟨rfl, O⟩
  have H20 := Lib.hid O; clear O
  go_wp2_with fail
  have hr := H20.out.rename ⟨#[97]⟩ ⟨#[99]⟩
  rw [(x13 b b2 b3).1, (x13 b b2 b3).2] at hr
  refine hr.mono ?_
  clear hr
  rintro e w21 ⟨rfl, O⟩
  have H21 := Lib.hid O; clear O
  go_wp2_with fail
  have hr := H21.out.rename ⟨#[98]⟩ ⟨#[98]⟩
  rw [(x14 b b2 b3).1, (x14 b b2 b3).2] at hr
  refine hr.mono ?_
  clear hr
  rintro e w22 ⟨rfl, O⟩
  have H22 := Lib.hid O; clear O
  go_wp2_with fail
  have hr := H22.out.rename ⟨#[98]⟩ ⟨#[66]⟩
  rw [(x15 b b2 b3).1, (x15 b b2 b3).2] at hr
  refine hr.mono ?_
  clear hr
  rintro e w23 ⟨rfl, O⟩
  have H23 := Lib.hid O; clear O
  go_wp2_with fail
  have hr := H23.out.rename ⟨#[120]⟩ ⟨#[]⟩
  rw [(x16 b b2 b3).1, (x16 b b2 b3).2] at hr
  refine hr.mono ?_
  clear hr
  rintro e w24 ⟨rfl, O⟩
  have H24 := Lib.hid O; clear O
  go_wp2_with fail
  have hr := H24.out.remove nDot
  rw [(x17 b b2 b3).1, (x17 b b2 b3).2] at hr
  refine hr.mono ?_
  clear hr
  rintro e w25 ⟨rfl, O⟩
  have H25 := Lib.hid O; clear O
  go_wp2_with fail
  have hr := H25.out.remove nDot
  rw [(x18 b b2).1, (x18 b b2).2] at hr
  refine hr.mono ?_
  clear hr
  rintro e w26 ⟨rfl, O⟩
  have H26 := Lib.hid O; clear O
  go_wp2_with fail
  refine (own_names H26.out [rep 97 32, ⟨#[98]⟩] (by rw [x20]; rfl) (by simp)).mono ?_
  rintro e w27 ⟨g, cap, rfl, O, hg, hcap, hcl⟩
  have H27 := Lib.hid O; clear O
  have HL := Lib.hid (And.intro hg (And.intro hcap hcl)); clear hg hcap hcl
  go_wp2_with fail
  have hr := own_join H27.out g cap [rep 97 32, ⟨#[98]⟩] HL.out.1 HL.out.2.1 HL.out.2.2 ⟨#[32]⟩ (by decide +kernel) (by simp)
  rw [join2] at hr
  refine hr.mono ?_
  clear hr
  rintro e w28 ⟨rfl, O⟩
  have H28 := Lib.hid O; clear O
  go_wp2_with fail
  have hr := own_repeat H28.out 97 32 (by omega)
  refine hr.mono ?_
  clear hr
  rintro e w29 ⟨rfl, O⟩
  have H29 := Lib.hid O; clear O
  go_wp2_with fail
  have hr := H29.out.synced ⟨#[98]⟩
  rw [x19] at hr
  refine hr.mono ?_
  clear hr
  rintro e w30 ⟨rfl, O⟩
  have H30 := Lib.hid O; clear O
  go_wp2_with fail
  have HB := Lib.hid H30.out.old
  clear H1 H2 H3 H4 H5 H6 H7 H8 H9 H10 H11 H12 H13 H14 H15 H16 H17 H18 H19 H20 H21 H22 H23 H24 H25 H26 H27 H28 H29 H30
  refine (own_new w w30 HB.out 1048576 (by omega) (by omega)).mono ?_
  rintro e wf ⟨af, mf, rfl, O⟩
  have HF := Lib.hid O; clear O HB
  go_wp2_with fail
  go_loopw [3] (fun i wr => RowKit.Below w.heap.size w wr ∧ ∃ (k : Nat) (fs : List Ent), k ≤ 64 ∧ i = .int .i64 k ∧ Hid (Own w wr af mf 1048576 fs ∧ Full k fs)) (fun i _ => 64 - (intOf i).toNat)
  case atStart => exact ⟨HF.out.old, 0, [], by omega, rfl, HF.out, Full.nil⟩
  case round =>
    obtain ⟨_, k, fs, hk, rfl, HO⟩ := hrel
    by_cases hlt : k < 64
    · have hcv := conv_two wr k hlt
      go_wp2_with fail
      rw [two_nm]
      have hal : RowKit.Below wr.heap.size wr (wr.alloc (.cells #[.int .u8 (97 + (k : Int) / 8), .int .u8 (97 + (k : Int) % 8)] 5)) := (Below.refl _ _).alloc (Nat.le_refl _) _
      have HAL := Lib.hid hal; clear hal hcv
      refine ((HO.out.1.below HAL.out).create (nm k)).mono ?_
      rintro e wn ⟨c, he, O⟩
      rw [(HO.out.2.step hlt c).1] at he
      subst he
      have HN := Lib.hid (And.intro O (HO.out.2.step hlt c).2); clear O
      go_wp2_with fail
      exact ⟨⟨HN.out.1.old, k + 1, _, by omega, by go_num, HN⟩, by simp [intOf]; omega⟩
    · obtain rfl : k = 64 := by omega
      clear hlt hk
      go_wp2_with fail
      refine (HO.out.1.create ⟨#[103]⟩).mono ?_
      rintro e wg ⟨c, he, O⟩
      have hmore := HO.out.2.more c
      change createE fs ⟨#[103]⟩ = 7 ∧ createR c ⟨#[103]⟩ fs = fs at hmore
      rw [hmore.1] at he
      subst he
      rw [hmore.2] at O
      have HG := Lib.hid O; clear O hmore
      go_wp2_with fail
      have hr := own_repeat HG.out 120 65536 (by omega)
      obtain ⟨X, hX⟩ : ∃ X, rep 120 65536 = X := ⟨_, rfl⟩
      have hXs : X.size = 65536 := by rw [← hX]; exact rep_size _ _
      rw [hX] at hr
      clear hX
      refine hr.mono ?_
      clear hr
      rintro e wx ⟨rfl, O⟩
      have HX := Lib.hid O; clear O
      have HS := Lib.hid hXs; clear hXs
      go_wp2_with fail
      obtain ⟨he1, hbig, hus⟩ := HO.out.2.faa HX.out.disk.ok.uniq X HS.out
      have hr := HX.out.append sFaa X (by rw [HS.out]; omega)
      rw [he1] at hr
      obtain ⟨fs2, hfs2⟩ : ∃ fs2, appendR 1048576 sFaa X fs = fs2 := ⟨_, rfl⟩
      rw [hfs2] at hr hbig hus
      have HBG := Lib.hid (And.intro hbig hus); clear hbig hus hfs2 he1
      refine hr.mono ?_
      clear hr
      rintro e wp ⟨rfl, O⟩
      have HP := Lib.hid O; clear O
      go_wp2_with fail
      have hr := HP.out.append sFaa s120 (by decide)
      rw [HBG.out.1.faa.1, HBG.out.1.faa.2] at hr
      refine hr.mono ?_
      clear hr
      rintro e wq ⟨rfl, O⟩
      have HQ := Lib.hid O; clear O
      go_wp2_with fail
      have hr := HQ.out.append sFab s120 (by decide)
      rw [HBG.out.1.fab (by rw [HBG.out.2]; omega)] at hr
      refine hr.mono ?_
      clear hr
      rintro e wy ⟨rfl, O⟩
      have HY := Lib.hid O.old; clear O HG HX HP HQ HBG
      go_wp2_with fail
      refine (crash_no none _ (.inl rfl) _ _ _).mono ?_
      rintro e wa ⟨rfl, hB⟩
      have HZ := Lib.hid (zero_lies HY.out _ hB); clear hB
      go_wp2_with fail
      refine (read_no _ _ HZ.out.2 ⟨#[97]⟩).mono ?_
      rintro e wb ⟨rfl, hB⟩
      replace HZ := Lib.hid (HZ.out.step hB); clear hB
      go_wp2_with fail
      refine (new_bad 0 (by omega) _).mono ?_
      rintro e w' ⟨rfl, rfl⟩
      go_wp2_with fail
      refine (new_bad 1048577 (by omega) _).mono ?_
      rintro e w' ⟨rfl, rfl⟩
      go_wp2_with fail
      refine (create_no none _ (.inl rfl) ⟨#[97]⟩).mono ?_
      rintro e wc ⟨rfl, hB⟩
      replace HZ := Lib.hid (HZ.out.step hB); clear hB
      go_wp2_with fail
      refine (create_no _ _ HZ.out.2 ⟨#[]⟩).mono ?_
      rintro e wd ⟨rfl, hB⟩
      replace HZ := Lib.hid (HZ.out.step hB); clear hB
      go_wp2_with fail
      refine (copy_no none _ (.inl rfl)).mono ?_
      rintro e we ⟨rfl, hB⟩
      replace HZ := Lib.hid (HZ.out.step hB); clear hB
      go_wp2_with fail
      refine (copy_no _ _ HZ.out.2).mono ?_
      rintro e wh ⟨rfl, hB⟩
      replace HZ := Lib.hid (HZ.out.step hB); clear hB
      go_wp2_with fail
      refine (list_no _ _ HZ.out.2).mono ?_
      rintro e wi ⟨rfl, hB⟩
      replace HZ := Lib.hid (HZ.out.step hB); clear hB
      go_wp2_with fail
      refine (used_no none _ (.inl rfl)).mono ?_
      rintro e wj ⟨rfl, hB⟩
      replace HZ := Lib.hid (HZ.out.step hB); clear hB
      go_wp2_with fail
      refine (synced_no _ _ HZ.out.2 ⟨#[97]⟩).mono ?_
      rintro e wk ⟨rfl, hB⟩
      replace HZ := Lib.hid (HZ.out.step hB); clear hB
      go_wp2_with fail
      refine (works_any _).mono ?_
      rintro e wl ⟨rfl, hB⟩
      replace HZ := Lib.hid (HZ.out.step hB); clear hB
      go_wp2_with fail
      go_ret
      exact ⟨rfl, HZ.out.1⟩
end Go.Proofs.Ytjdkhclcempafaa
