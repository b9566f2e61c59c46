import Derived.Test.YtjdkhclcempafaaGreatDkPu
set_option linter.unusedVariables false
set_option linter.unusedSimpArgs false
namespace Go.Proofs.YtjdkhclcempafaaGreat
open Go.RowKit Go.Shelf Go.Sort Go.Maps

set_option maxHeartbeats 8000000 in
set_option maxRecDepth 100000 in
theorem cuts_any (w : World) (fuse : Int) (hfu : 0 ≤ fuse ∧ fuse ≤ 255) (kp : Option Addr) (kcap : Nat) (ks : List Int) (hK : (∀ x ∈ ks, -9223372036854775808 ≤ x ∧ x ≤ 9223372036854775807) ∧ (ks = [] ∨ ∃ b off, kp = some ⟨b, off, none⟩ ∧ ∀ j, j < ks.length → w.cell? ⟨b, off + j, none⟩ = some (.int .i64 (ks.getD j 0)))) (p : Option Addr) (cap : Nat) (l : List PAct) (hA : PActsAt w (fun k => w.heap.size ≤ k) p l) :
    Calls Tryz.prog 3 #[.int .u8 fuse, .slice kp ks.length kcap, .slice p l.length cap] w (RB (.bool true) w) := by
  obtain ⟨i0, hi, hz0, hz1, hz2⟩ := info_parts infoAct
  obtain ⟨n, hn⟩ : ∃ n : Nat, fuse % 90 = (n : Int) := ⟨(fuse % 90).toNat, by omega⟩
  have hn89 : n ≤ 89 := by omega
  have HA := Lib.hid hA; clear hA
  have HK := Lib.hid hK; clear hK
  go_enter Tryz.func3, Tryz.ntmps3
  go_wp2_with fail
  refine (pfew_any w _ p cap l HA.out).mono ?_
  rintro e w1 ⟨b, rfl, h80, rfl⟩
  cases b
  · go_wp2_with fail
    refine (awake_any _).mono ?_
    rintro e w2 ⟨rfl, hB⟩
    go_wp2_with fail
    go_ret
    exact ⟨rfl, hB⟩
  · have hl80 := h80 rfl
    clear h80
    by_cases hk20 : ((20 : Int) < ks.length)
    · have hd : decide ((20 : Int) < ks.length) = true := by simpa using hk20
      go_wp2_with fail
      refine (awake_any _).mono ?_
      rintro e w2 ⟨rfl, hB⟩
      go_wp2_with fail
      go_ret
      exact ⟨rfl, hB⟩
    · have hd : decide ((20 : Int) < ks.length) = false := by simpa using hk20
      have hk20' : ks.length ≤ 20 := by omega
      have hKL : ListAt w kp ks := ⟨by omega, HK.out⟩
      replace HK := Lib.hid hKL
      clear hKL
      clear hk20
      go_wp2_with fail
      go_loopw [7, 8] (fun v i wr => ∃ k : Nat, k ≤ l.length ∧ i = .int .i64 k ∧ OwnA w.heap.size wr v (wrs (l.take k)) ∧ Hid (RowKit.Below w.heap.size w wr)) (fun _ i _ => l.length - (intOf i).toNat)
      case atStart => exact ⟨0, Nat.zero_le _, rfl, World.ownsRow_nil _ _ _ _, Below.refl _ _⟩
      case round =>
        obtain ⟨k, hk, rfl, hown, hB⟩ := hrel
        by_cases hlt : k < l.length
        · obtain ⟨ad, b, o, hp, hadd, ha0⟩ := HA.out.1 k hlt
          subst hp
          have ha := ha0.chg (Chg.of_below (S := fun k => w.heap.size ≤ k) hB.out)
          clear ha0
          obtain ⟨A, hAk⟩ : ∃ A, l[k] = A := ⟨_, rfl⟩
          rw [hAk] at ha
          have HAK := Lib.hid hAk; clear hAk
          have HH := Lib.hid (And.intro ha.lt (And.intro ha.c0 (And.intro ha.c1 ha.c2)))
          have h0 := ha.c0
          have h1 := ha.c1
          have h2 := ha.c2
          have hwh := ha.wh
          clear ha
          have HO := Lib.hid hown; clear hown
          go_wp2_with fail
          refine (pwrites_act A wr hwh).mono ?_
          rintro e w2 ⟨rfl, hB2⟩
          replace h0 := (hB2.cell (p := ⟨b, o, none⟩) HH.out.1).trans h0
          replace h1 := (hB2.cell (p := ⟨b, o + 1, none⟩) HH.out.1).trans h1
          replace h2 := (hB2.cell (p := ⟨b, o + 2, none⟩) HH.out.1).trans h2
          have HB2 := Lib.hid (And.intro (hB.out.trans (hB2.mono hB.out.size)) hB2); clear hB2
          by_cases hm : A.writes = true
          · have hlen := wrs_len l k
            have hown2 := HO.out.below HB2.out.2
            have hb0 : w.heap.size ≤ w2.heap.size := HB2.out.1.size
            go_wp2_with (at_builtin; refine wpList_append_own _ rfl _ _ 23 rfl w.heap.size 28 i0 _ 3 40 Tryz.underlying23 hi hz0 hz1 hz2 rfl (by decide) _ _ _ rfl (hown2.alloc _) ⟨w2.heap.size, 0, none⟩ 1 1 (cells3 A) rfl ?c0 ?c1 ?c2 ?c3 ?c4 ?c5 ?_)
            case c0 => rfl
            case c1 =>
              intro j u hj
              match j, hj with
              | 0, hj => simp [cells3] at hj; subst hj; simp [Addr.add]
              | 1, hj => simp [cells3] at hj; subst hj; simp [Addr.add]
              | 2, hj => simp [cells3] at hj; subst hj; simp [Addr.add]
              | j + 3, hj => simp [cells3] at hj
            case c2 => intro u hu; simp [cells3] at hu; rcases hu with rfl | rfl | rfl <;> rfl
            case c3 => unfold maxLen; omega
            case c4 => omega
            case c5 => simp; omega
            intro v' w3 hown3 hgrow _
            have hB3 : RowKit.Below w.heap.size w w3 := (HB2.out.1.alloc hb0 _).grown hgrow (by simp; omega) (fun k hk => (hown2.lt k hk).1)
            have hown4 : OwnA w.heap.size w3 v' (wrs (l.take (k + 1))) := by
              rw [wrs_hit hlt HAK.out hm]
              unfold OwnA
              rw [cellsA_snoc, List.length_append]
              exact hown3
            have H4 := Lib.hid (And.intro hown4 hB3)
            clear hown3 hown4 hgrow hown2 hB3
            go_wp2_with fail
            exact ⟨⟨k + 1, by omega, by go_num, H4.out.1, H4.out.2⟩, by simp [intOf]; omega⟩
          · have hmf : A.writes = false := by simpa using hm
            have hown4 := HO.out.below HB2.out.2
            rw [← wrs_miss hlt HAK.out hmf] at hown4
            have H4 := Lib.hid hown4
            clear hown4 hm
            go_wp2_with fail
            exact ⟨⟨k + 1, by omega, by go_num, H4.out, HB2.out.1⟩, by simp [intOf]; omega⟩
        · obtain rfl : k = l.length := by omega
          rw [List.take_length] at hown
          clear hk hlt hi hz0 hz1 hz2 i0
          have hmem : ∀ A ∈ wrs l, A.writes = true ∧ (0 ≤ A.what ∧ A.what ≤ 255) ∧ A.other.size ≤ 9223372036854775807 := fun A hm => by
            obtain ⟨h1, h2⟩ := List.mem_filter.1 hm
            obtain ⟨i, hi, rfl⟩ := List.getElem_of_mem h1
            obtain ⟨_, _, _, _, _, ha⟩ := HA.out.1 i hi
            exact ⟨h2, ha.wh, ha.sz⟩
          have hlen : (wrs l).length ≤ 80 := Nat.le_trans (List.length_filter_le ..) hl80
          obtain ⟨ls, hls⟩ : ∃ ls, wrs l = ls := ⟨_, rfl⟩
          rw [hls] at hown hmem hlen
          clear hls HA hl80
          obtain ⟨p', cap', rfl, hcap', hacts, hp'⟩ := hown.acts (fun A hm => (hmem A hm).2) (by omega)
          have HL := Lib.hid (And.intro hacts (And.intro hp' hmem)); clear hown hacts hp' hmem
          go_wp2_with fail
          refine (own_new wr wr (Below.refl _ _) 5000 (by omega) (by omega)).mono ?_
          rintro e W1 ⟨a, m, rfl, O1⟩
          have H1 := Lib.hid O1; clear O1
          go_wp2_with fail
          refine (own_new W1 W1 (Below.refl _ _) 5000 (by omega) (by omega)).mono ?_
          rintro e W2 ⟨a2, m2, rfl, O2⟩
          have H2 := Lib.hid O2; clear O2
          have HD := Lib.hid (H1.out.below H2.out.old)
          go_wp2_with fail
          refine (pnew_any HD.out (n : Int) (by omega) (HK.out.below (hB.out.trans (HD.out.old.mono hB.out.size))) kcap).mono ?_
          rintro e W3 ⟨P, hP, rfl, hR, hB3, hpa, hkp⟩
          have H3 := Lib.hid (And.intro hP (And.intro hR (And.intro hB3 (And.intro hpa hkp)))); clear hP hR hB3 hpa hkp
          go_wp2_with fail
          have HE := Lib.hid (twoOwn HD.out H2.out H3.out.2.2.1 H1.out.old.size)
          refine (pnew_any HE.out (-1) (by omega) (HK.out.below (hB.out.trans (HE.out.old.mono hB.out.size))) kcap).mono ?_
          rintro e W4 ⟨Q, hQ, rfl, hR, hB4, hpa, hkp⟩
          have H4 := Lib.hid (bothNew H1.out.disk HD.out H2.out H3.out.1 H3.out.2.1 H3.out.2.2.1 H3.out.2.2.2.1 H3.out.2.2.2.2 hQ hR hB4 hpa hkp)
          have HP := Lib.hid (And.intro H3.out.1 hQ)
          clear hQ hR hB4 hpa hkp
          go_wp2_with fail
          have hrun := run_any (s0 := ⟨[], 0, false⟩) H4.out.p (Alike.refl []) (by simp) p' cap' ls HL.out.1 (by omega) (fun A hm => (HL.out.2.2 A hm).1)
          rw [HP.out.1.2.2.2.1, HP.out.1.2.2.2.2, HP.out.1.2.2.1] at hrun
          by_cases hge : ls.length ≤ n
          · rw [runM_free _ _ _ _ _ _ (fun A hm => (HL.out.2.2 A hm).1) (fun i hi => by omega)] at hrun
            refine hrun.mono ?_
            clear hrun
            rintro e W5 ⟨rfl, f1, ha1, hR, hC, hF⟩
            have H5 := Lib.hid (And.intro ha1 (H4.out.step hR hC hF)); clear ha1 hR hC hF
            have hge' : decide ((ls.length : Int) ≤ n) = true := by simpa using hge
            go_wp2_with fail
            have hrun := run_any (s0 := ⟨[], 0, false⟩) H5.out.2.q (Alike.refl []) (by simp) p' cap' ls HL.out.1 (by omega) (fun A hm => (HL.out.2.2 A hm).1)
            rw [HP.out.2.2.2.2.1, HP.out.2.2.2.2.2, HP.out.2.2.2.1] at hrun
            rw [runM_free _ _ _ _ _ _ (fun A hm => (HL.out.2.2 A hm).1) (fun i hi => by omega)] at hrun
            refine hrun.mono ?_
            clear hrun
            rintro e W6 ⟨rfl, g1, ha2, hR, hC, hF⟩
            have H6 := Lib.hid (And.intro (H5.out.1.trans ha2.symm) (H5.out.2.symm.step hR hC hF).symm); clear ha2 hR hC hF
            go_wp2_with fail
            refine (pdown_any H6.out.2.p.pow).mono ?_
            rintro e w' ⟨rfl, rfl⟩
            simp only [offI, ne_eq, not_true_eq_false, decide_false, Bool.false_eq_true, if_false]
            go_wp2_with fail
            refine (pwrites_any H6.out.2.p.pow).mono ?_
            rintro e w' ⟨rfl, rfl⟩
            simp only [Int.zero_add]
            go_wp2_with fail
            have hs := same_any H6.out.2.p.disk.disk H6.out.2.q.disk.disk H6.out.1
            rw [HP.out.1.1, HP.out.2.1] at hs
            refine hs.mono ?_
            clear hs
            rintro e W7 ⟨rfl, hB7⟩
            have HB7 := Lib.hid ((hB.out.trans (H6.out.2.p.disk.old.mono hB.out.size)).trans (hB7.mono (Nat.le_trans hB.out.size H6.out.2.p.disk.old.size))); clear hB7
            go_wp2_with fail
            refine (awake_any _).mono ?_
            rintro e W8 ⟨rfl, hB8⟩
            go_wp2_with fail
            go_ret
            exact ⟨rfl, HB7.out.trans (hB8.mono HB7.out.size)⟩
          · rw [runM_cut _ _ _ _ (fun A hm => (HL.out.2.2 A hm).1) (by omega)] at hrun
            refine hrun.mono ?_
            clear hrun
            rintro e W5 ⟨rfl, f1, ha1, hR, hC, hF⟩
            have H5 := Lib.hid (And.intro ha1 (H4.out.step hR hC hF)); clear ha1 hR hC hF
            have hge' : decide ((ls.length : Int) ≤ n) = false := by simpa using hge
            obtain ⟨g, rfl⟩ := HL.out.2.1 (fun e => by rw [e] at hge; simp at hge)
            rcases hks : ks with _ | ⟨x, r⟩
            · subst hks
              go_wp2_with fail
              have hd : (if oddK [] then n + 1 else n) = n := by rfl
              rw [hd] at H5
              have hrun := run_any (s0 := ⟨[], 0, false⟩) H5.out.2.q (Alike.refl []) (by simp) (some ⟨g, 0, none⟩) cap' (ls.take (n)) (HL.out.1.take (n)) (by rw [List.length_take]; omega) (fun A hm => (HL.out.2.2 A (List.mem_of_mem_take hm)).1)
              rw [HP.out.2.2.2.2.1, HP.out.2.2.2.2.2, HP.out.2.2.2.1] at hrun
              rw [runM_free _ _ _ _ _ _ (fun A hm => (HL.out.2.2 A (List.mem_of_mem_take hm)).1) (fun i hi => by omega)] at hrun
              rw [List.length_take, Nat.min_eq_left (by omega)] at hrun
              refine hrun.mono ?_
              clear hrun hd
              rintro e W6 ⟨rfl, g1, ha2, hR, hC, hF⟩
              have H6 := Lib.hid (And.intro H5.out.1 (And.intro ha2 (H5.out.2.symm.step hR hC hF))); clear ha2 hR hC hF
              go_wp2_with fail
              refine (pblow_any H6.out.2.2.p).mono ?_
              rintro e W7 ⟨rfl, hR, hC⟩
              simp only [Bool.false_eq_true, if_false] at hR
              rw [HP.out.2.2.2.2.2] at hR
              have H7 := Lib.hid (And.intro (H6.out.1.trans (H6.out.2.1.symm.crash _)) (H6.out.2.2.step hR hC (fun k hk => .inl (by
                rcases hk with hk | hk
                · exact .inl ((foot_crash k).1 hk)
                · exact .inr hk))).symm); clear hR hC
              go_wp2_with fail
              refine (pdown_any H7.out.2.p.pow).mono ?_
              rintro e w' ⟨rfl, rfl⟩
              simp only [offI, if_true, ne_eq, Int.reduceEq, not_false_eq_true, decide_true]
              go_wp2_with fail
              refine (pwrites_any H7.out.2.p.pow).mono ?_
              rintro e w' ⟨rfl, rfl⟩
              go_wp2_with fail
              have hs := same_any H7.out.2.p.disk.disk H7.out.2.q.disk.disk H7.out.1
              rw [HP.out.1.1, HP.out.2.1] at hs
              refine hs.mono ?_
              clear hs
              rintro e W8 ⟨rfl, hB8⟩
              have HB8 := Lib.hid ((hB.out.trans (H7.out.2.p.disk.old.mono hB.out.size)).trans (hB8.mono (Nat.le_trans hB.out.size H7.out.2.p.disk.old.size))); clear hB8
              go_wp2_with fail
              refine (awake_any _).mono ?_
              rintro e W9 ⟨rfl, hB9⟩
              go_wp2_with fail
              go_ret
              exact ⟨rfl, HB8.out.trans (hB9.mono HB8.out.size)⟩
            · subst hks
              obtain ⟨bk, ok, hkp, hcell⟩ : ∃ b off, kp = some ⟨b, off, none⟩ ∧ W5.cell? ⟨b, off, none⟩ = some (.int .i64 x) := by
                obtain ⟨_, _, h2 | ⟨b, off, h1, h2⟩⟩ := HK.out
                · cases h2
                · have h3 := h2 0 (by simp)
                  simp only [List.getD_cons_zero, Nat.add_zero] at h3
                  exact ⟨b, off, h1, ((hB.out.trans (H5.out.2.p.disk.old.mono hB.out.size)).cell (p := ⟨b, off, none⟩) (World.block_lt_of_cell? _ _ h3)).trans h3⟩
              subst hkp
              have hbit := and_one_i64 x
              by_cases ho : x % 2 = 1
              · have hbe : (bits BinOp.and IntKind.i64 x 1 == 1) = true := by rw [hbit, ho]; rfl
                have HOD := Lib.hid ho
                clear hbit ho
                go_wp2_with fail
                have hd : (if oddK (x :: r) then n + 1 else n) = n + 1 := by rw [if_pos (by simp [oddK, HOD.out])]
                rw [hd] at H5
                have hrun := run_any (s0 := ⟨[], 0, false⟩) H5.out.2.q (Alike.refl []) (by simp) (some ⟨g, 0, none⟩) cap' (ls.take (n + 1)) (HL.out.1.take (n + 1)) (by rw [List.length_take]; omega) (fun A hm => (HL.out.2.2 A (List.mem_of_mem_take hm)).1)
                rw [HP.out.2.2.2.2.1, HP.out.2.2.2.2.2, HP.out.2.2.2.1] at hrun
                rw [runM_free _ _ _ _ _ _ (fun A hm => (HL.out.2.2 A (List.mem_of_mem_take hm)).1) (fun i hi => by omega)] at hrun
                rw [List.length_take, Nat.min_eq_left (by omega)] at hrun
                refine hrun.mono ?_
                clear hrun hd
                rintro e W6 ⟨rfl, g1, ha2, hR, hC, hF⟩
                have H6 := Lib.hid (And.intro H5.out.1 (And.intro ha2 (H5.out.2.symm.step hR hC hF))); clear ha2 hR hC hF
                go_wp2_with fail
                refine (pblow_any H6.out.2.2.p).mono ?_
                rintro e W7 ⟨rfl, hR, hC⟩
                simp only [Bool.false_eq_true, if_false] at hR
                rw [HP.out.2.2.2.2.2] at hR
                have H7 := Lib.hid (And.intro (H6.out.1.trans (H6.out.2.1.symm.crash _)) (H6.out.2.2.step hR hC (fun k hk => .inl (by
                  rcases hk with hk | hk
                  · exact .inl ((foot_crash k).1 hk)
                  · exact .inr hk))).symm); clear hR hC
                go_wp2_with fail
                refine (pdown_any H7.out.2.p.pow).mono ?_
                rintro e w' ⟨rfl, rfl⟩
                simp only [offI, if_true, ne_eq, Int.reduceEq, not_false_eq_true, decide_true]
                go_wp2_with fail
                refine (pwrites_any H7.out.2.p.pow).mono ?_
                rintro e w' ⟨rfl, rfl⟩
                go_wp2_with fail
                have hs := same_any H7.out.2.p.disk.disk H7.out.2.q.disk.disk H7.out.1
                rw [HP.out.1.1, HP.out.2.1] at hs
                refine hs.mono ?_
                clear hs
                rintro e W8 ⟨rfl, hB8⟩
                have HB8 := Lib.hid ((hB.out.trans (H7.out.2.p.disk.old.mono hB.out.size)).trans (hB8.mono (Nat.le_trans hB.out.size H7.out.2.p.disk.old.size))); clear hB8
                go_wp2_with fail
                refine (awake_any _).mono ?_
                rintro e W9 ⟨rfl, hB9⟩
                go_wp2_with fail
                go_ret
                exact ⟨rfl, HB8.out.trans (hB9.mono HB8.out.size)⟩
              · have hbe : (bits BinOp.and IntKind.i64 x 1 == 1) = false := by rw [hbit]; simpa using ho
                have HOD := Lib.hid ho
                clear hbit ho
                go_wp2_with fail
                have hd : (if oddK (x :: r) then n + 1 else n) = n := by rw [if_neg (by simp [oddK, HOD.out])]
                rw [hd] at H5
                have hrun := run_any (s0 := ⟨[], 0, false⟩) H5.out.2.q (Alike.refl []) (by simp) (some ⟨g, 0, none⟩) cap' (ls.take (n)) (HL.out.1.take (n)) (by rw [List.length_take]; omega) (fun A hm => (HL.out.2.2 A (List.mem_of_mem_take hm)).1)
                rw [HP.out.2.2.2.2.1, HP.out.2.2.2.2.2, HP.out.2.2.2.1] at hrun
                rw [runM_free _ _ _ _ _ _ (fun A hm => (HL.out.2.2 A (List.mem_of_mem_take hm)).1) (fun i hi => by omega)] at hrun
                rw [List.length_take, Nat.min_eq_left (by omega)] at hrun
                refine hrun.mono ?_
                clear hrun hd
                rintro e W6 ⟨rfl, g1, ha2, hR, hC, hF⟩
                have H6 := Lib.hid (And.intro H5.out.1 (And.intro ha2 (H5.out.2.symm.step hR hC hF))); clear ha2 hR hC hF
                go_wp2_with fail
                refine (pblow_any H6.out.2.2.p).mono ?_
                rintro e W7 ⟨rfl, hR, hC⟩
                simp only [Bool.false_eq_true, if_false] at hR
                rw [HP.out.2.2.2.2.2] at hR
                have H7 := Lib.hid (And.intro (H6.out.1.trans (H6.out.2.1.symm.crash _)) (H6.out.2.2.step hR hC (fun k hk => .inl (by
                  rcases hk with hk | hk
                  · exact .inl ((foot_crash k).1 hk)
                  · exact .inr hk))).symm); clear hR hC
                go_wp2_with fail
                refine (pdown_any H7.out.2.p.pow).mono ?_
                rintro e w' ⟨rfl, rfl⟩
                simp only [offI, if_true, ne_eq, Int.reduceEq, not_false_eq_true, decide_true]
                go_wp2_with fail
                refine (pwrites_any H7.out.2.p.pow).mono ?_
                rintro e w' ⟨rfl, rfl⟩
                go_wp2_with fail
                have hs := same_any H7.out.2.p.disk.disk H7.out.2.q.disk.disk H7.out.1
                rw [HP.out.1.1, HP.out.2.1] at hs
                refine hs.mono ?_
                clear hs
                rintro e W8 ⟨rfl, hB8⟩
                have HB8 := Lib.hid ((hB.out.trans (H7.out.2.p.disk.old.mono hB.out.size)).trans (hB8.mono (Nat.le_trans hB.out.size H7.out.2.p.disk.old.size))); clear hB8
                go_wp2_with fail
                refine (awake_any _).mono ?_
                rintro e W9 ⟨rfl, hB9⟩
                go_wp2_with fail
                go_ret
                exact ⟨rfl, HB8.out.trans (hB9.mono HB8.out.size)⟩
end Go.Proofs.YtjdkhclcempafaaGreat
