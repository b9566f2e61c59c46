import Derived.Test.YtjdkhclcempafaaGreatDkPf
import Derived.Deep.RegionHeld3
import Derived.Deep.RegionWith
import Derived.BigQuiet
import Derived.Laws.BitsAllLaws
import Derived.Outline
set_option linter.unusedVariables false
set_option linter.unusedSimpArgs false
namespace Go.Proofs.YtjdkhclcempafaaGreat
open Go.RowKit Go.Shelf Go.Sort Go.Maps

/-! ### write -/
theorem write_off {w0 W : World} {P : PW} {fs : List Ent} {wr : Int} (h : Rest w0 W P fs wr true) (f : Value) :
    Calls Tryz.prog 32 #[.pointer (some ⟨P.pa, 0, none⟩), f] W fun e W' => e = .returned (.int .i64 8) ∧ W = W' := by
  have c0 := h.pow.c.1
  have HP := Lib.hid h.pow; clear h
  go_enter Tryz.func32, Tryz.ntmps32
  go_wp2_with fail
  refine (pis_yes c0).mono ?_
  rintro e w' ⟨rfl, rfl⟩
  go_wp2_with fail
  refine (pdown_any HP.out).mono ?_
  rintro e w' ⟨rfl, rfl⟩
  simp only [offI, if_true, ne_eq, Int.reduceEq, not_false_eq_true, decide_true]
  go_wp2_with fail
  go_ret
  exact ⟨rfl, rfl⟩

def DoP (v : Value) (w0 W : World) (P : PW) (fs : List Ent) (Q : List Ent → Prop) (wr : Int) (off : Bool) (e : Ending) (W' : World) : Prop :=
  e = .returned v ∧ ∃ fs', Q fs' ∧ Rest w0 W' P fs' wr off ∧ Chg (mfoot P fs) W W' ∧ ∀ k, mfoot P fs' k → mfoot P fs k ∨ W.heap.size ≤ k

set_option maxRecDepth 20000 in
set_option maxHeartbeats 1600000 in
theorem write_go {w0 W : World} {P : PW} {fs : List Ent} {wr : Int} (h : Rest w0 W P fs wr false) (hw : 0 ≤ wr ∧ wr ≤ 1000000) (hne : wr ≠ P.fuse) (K : Nat) (cap : Array Value) (hcf : Enters Tryz.prog K) (v : Value) (Q : List Ent → Prop)
    (hdo : ∀ W1, Chg (fun k => k = P.pa) W W1 → Rest w0 W1 P fs (wr + 1) false → Calls Tryz.prog K cap W1 (DoP v w0 W1 P fs Q (wr + 1) false)) :
    Calls Tryz.prog 32 #[.pointer (some ⟨P.pa, 0, none⟩), .func (.func K) #[] cap] W (DoP v w0 W P fs Q (wr + 1) false) := by
  have c0 := h.pow.c.1
  have c1 := h.pow.c.2.1
  have c3 := h.pow.c.2.2.2.1
  have z3 := h.pow.z 3
  have hs : IntKind.i64.wrap (wr + 1) = wr + 1 := IntWalk.i64_in _ (by omega)
  obtain ⟨F, hF⟩ : ∃ F, IntKind.i64.wrap (P.fuse + 1) = F := ⟨_, rfl⟩
  have hn : (wr + 1 != F) = true := by
    have hfu := h.fu
    have : wr + 1 ≠ F := by
      rw [← hF]
      by_cases hm : P.fuse = 9223372036854775807
      · rw [hm]
        have : IntKind.i64.wrap (9223372036854775807 + 1) = -9223372036854775808 := by decide
        omega
      · rw [IntWalk.i64_in _ (by omega)]; omega
    simpa using this
  have H := Lib.hid (And.intro h (And.intro hw hne)); clear h hw hne
  have HD := Lib.hid hdo; clear hdo
  have hcf := hcf cap
  go_enter Tryz.func32, Tryz.ntmps32
  go_wp2_with fail
  refine (pis_yes c0).mono ?_
  rintro e w' ⟨rfl, rfl⟩
  go_wp2_with fail
  refine (pdown_any H.out.1.pow).mono ?_
  rintro e w' ⟨rfl, rfl⟩
  simp only [offI, ne_eq, not_true_eq_false, decide_false, Bool.false_eq_true, if_false]
  go_wp2_with fail
  first | (go_region_with (go_at_call 49; refine (aadd_any ⟨P.pa, 3, none⟩ wr 1 W.drew c3 z3 hs).mono ?_; rintro e w' ⟨rfl, rfl⟩)) | fail "region"
  all_goals
    have H1 : Rest w0 (W.setCell ⟨P.pa, 3, none⟩ (.int .i64 (wr + 1))).drew P fs (wr + 1) false := (H.out.1.set 3 _ (H.out.1.pow.set3 (wr + 1))).below (Below.refl _ _).drew
    have HC : Chg (fun k => k = P.pa) W (W.setCell ⟨P.pa, 3, none⟩ (.int .i64 (wr + 1))).drew := (Chg.setP (S := fun k => k = P.pa) (Chg.refl _ W) P.pa 3 rfl _).trans (Chg.of_below (Below.refl _ _).drew)
    obtain ⟨W1, hW1⟩ : ∃ W1, (W.setCell ⟨P.pa, 3, none⟩ (.int .i64 (wr + 1))).drew = W1 := ⟨_, rfl⟩
    rw [hW1] at H1 HC ⊢
    clear hW1 c0 c1 c3 z3 hs hF hn
    have H1 := Lib.hid H1
    have HC := Lib.hid HC
    go_wp2_with fail
    refine (HD.out W1 HC.out H1.out).mono ?_
    rintro e W2 ⟨rfl, hq⟩
    have H2 := Lib.hid hq; clear hq
    go_wp2_with fail
    go_ret
    obtain ⟨fs', hQ, hR, hC, hf⟩ := H2.out
    refine ⟨rfl, fs', hQ, hR, (HC.out.mono fun k _ hk => .inr hk).trans hC, fun k hk => (hf k hk).imp id fun h => Nat.le_trans HC.out.size h⟩

theorem and_one_i64 (x : Int) : bits .and .i64 x 1 = x % 2 := by
  have e : (BitVec.ofInt 64 x &&& BitVec.ofInt 64 1).toNat = (x % 2).toNat := by
    rw [BitVec.toNat_and]
    have h1 : (BitVec.ofInt 64 (1 : Int)).toNat = 1 := rfl
    rw [h1, nat_mask1, BitVec.toNat_ofInt]
    omega
  show IntKind.i64.wrap ((BitVec.ofInt 64 x &&& BitVec.ofInt 64 1).toNat : Int) = _
  rw [e, IntWalk.i64_in _ (by omega)]
  omega
def oddK : List Int → Bool
  | [] => false
  | x :: _ => decide (x % 2 = 1)
def HitQ (ks : List Int) (fs : List Ent) (Q : List Ent → Prop) (fs' : List Ent) : Prop :=
  if oddK ks then ∃ f1, Q f1 ∧ fs' = crashR ks f1 else fs' = crashR ks fs
theorem foot_crash {a m : Nat} {ks : List Int} {fs : List Ent} (k : Nat) : foot a m (crashR ks fs) k ↔ foot a m fs k := foot_kv (crashAt_kv ks _ 0 fs) k

set_option maxRecDepth 20000 in
set_option maxHeartbeats 1600000 in
theorem write_hit {w0 W : World} {P : PW} {fs : List Ent} {wr : Int} (h : Rest w0 W P fs wr false) (hw : 0 ≤ wr ∧ wr ≤ 1000000) (he : wr = P.fuse) (K : Nat) (cap : Array Value) (hcf : Enters Tryz.prog K) (v : Value) (Q : List Ent → Prop)
    (hdo : ∀ W1, Chg (fun k => k = P.pa) W W1 → Rest w0 W1 P fs (wr + 1) false → Calls Tryz.prog K cap W1 (DoP v w0 W1 P fs Q (wr + 1) false)) :
    Calls Tryz.prog 32 #[.pointer (some ⟨P.pa, 0, none⟩), .func (.func K) #[] cap] W (DoP (.int .i64 8) w0 W P fs (HitQ P.ks fs Q) (wr + 1) true) := by
  have c0 := h.pow.c.1
  have c1 := h.pow.c.2.1
  have c3 := h.pow.c.2.2.2.1
  have z3 := h.pow.z 3
  have hs : IntKind.i64.wrap (wr + 1) = wr + 1 := IntWalk.i64_in _ (by omega)
  have hF : IntKind.i64.wrap (P.fuse + 1) = wr + 1 := by rw [← he]; exact hs
  have hlt : decide (P.fuse < 0) = false := by simp; omega
  have H := Lib.hid (And.intro h (And.intro hw he)); clear h hw he
  have HD := Lib.hid hdo; clear hdo
  have hcf := hcf cap
  go_enter Tryz.func32, Tryz.ntmps32
  go_wp2_with fail
  refine (pis_yes c0).mono ?_
  rintro e w' ⟨rfl, rfl⟩
  go_wp2_with fail
  refine (pdown_any H.out.1.pow).mono ?_
  rintro e w' ⟨rfl, rfl⟩
  simp only [offI, ne_eq, not_true_eq_false, decide_false, Bool.false_eq_true, if_false]
  go_wp2_with fail
  have hk1 : (W.setCell ⟨P.pa, 3, none⟩ (Value.int .i64 (wr + 1))).drew.cell? ⟨P.pa, 1, none⟩ = some (.int .i64 P.fuse) := by
    rw [World.cell?_drew, World.cell?_setCell_other _ _ _ _ (by simp)]; exact c1
  first | (go_region_held3 (fun w' => w'.cell? ⟨P.pa, 1, none⟩ = some (.int .i64 P.fuse))
    (first | go_keep | exact hk1)
    (first | (go_at_call 49; refine (aadd_any ⟨P.pa, 3, none⟩ wr 1 W.drew c3 z3 hs).mono ?_; rintro e w' ⟨rfl, rfl⟩))) | fail "region"
  have H1 : Rest w0 (W.setCell ⟨P.pa, 3, none⟩ (.int .i64 (wr + 1))).drew P fs (wr + 1) false := (H.out.1.set 3 _ (H.out.1.pow.set3 (wr + 1))).below (Below.refl _ _).drew
  have HC : Chg (fun k => k = P.pa) W (W.setCell ⟨P.pa, 3, none⟩ (.int .i64 (wr + 1))).drew := (Chg.setP (S := fun k => k = P.pa) (Chg.refl _ W) P.pa 3 rfl _).trans (Chg.of_below (Below.refl _ _).drew)
  obtain ⟨W1, hW1⟩ : ∃ W1, (W.setCell ⟨P.pa, 3, none⟩ (.int .i64 (wr + 1))).drew = W1 := ⟨_, rfl⟩
  rw [hW1] at H1 HC ⊢
  clear hW1 hk1 c0 c1 c3 z3 hs hF
  have c2 := H1.pow.c.2.2.1
  have H1 := Lib.hid H1
  have HC := Lib.hid HC
  rcases hks : P.ks with _ | ⟨x, r⟩
  · have HKS := Lib.hid hks
    rw [hks] at c2
    clear hks
    go_wp2_with fail
    refine (pblow_any H1.out).mono ?_
    rintro e W2 ⟨rfl, hR, hC⟩
    have H2 := Lib.hid (And.intro hR hC); clear hR hC
    go_wp2_with fail
    go_ret
    have h2 := H2.out.1
    rw [HKS.out] at h2
    simp only [Bool.false_eq_true, if_false] at h2
    refine ⟨rfl, _, by unfold HitQ; rw [HKS.out, if_neg (by simp [oddK])], h2, (HC.out.mono fun k _ hk => .inr hk).trans H2.out.2, fun k hk => .inl ?_⟩
    rcases hk with hk | hk
    · exact .inl ((foot_crash k).1 hk)
    · exact .inr hk
  · have HKS := Lib.hid hks
    obtain ⟨ad, hp, hl, hn, hcell⟩ := H1.out.keep.1 0 (by rw [hks]; simp)
    have hb := H1.out.keep.2.2 x (by rw [hks]; simp)
    have hb8 := H1.out.kad ad hp
    obtain ⟨g, hg⟩ : ∃ g, ad.block = g := ⟨_, rfl⟩
    rw [hg] at hb8
    subst hb8
    have HN := Lib.hid hn
    rw [hp, hks] at c2
    rw [hks, Addr.add_lit] at hcell
    simp only [List.getD_cons_zero, Nat.add_zero] at hcell
    have hlen : (0 : Int) < ((x :: r).length : Int) := by simp only [List.length_cons]; omega
    obtain ⟨n, hnn⟩ : ∃ n, (x :: r).length = n := ⟨_, rfl⟩
    rw [hnn] at hlen c2
    have hlen2 : decide ((0 : Int) < (n : Int)) = true := by simpa using hlen
    clear hks hp hn hl hnn hg
    have hbit := and_one_i64 x
    by_cases ho : x % 2 = 1
    · have hbe : (bits BinOp.and IntKind.i64 x 1 == 1) = true := by rw [hbit, ho]; rfl
      have HO := Lib.hid ho
      clear hbit ho
      go_wp2_with fail
      refine (HD.out W1 HC.out H1.out).mono ?_
      rintro e W2 ⟨rfl, hq⟩
      obtain ⟨fs', hQ, hR, hC, hf⟩ := hq
      have H2 := Lib.hid (And.intro hQ (And.intro hR (And.intro hC hf))); clear hQ hC hf
      have HR := Lib.hid hR; clear hR
      go_wp2_with fail
      refine (pblow_any HR.out).mono ?_
      rintro e W3 ⟨rfl, hR3, hC3⟩
      have H3 := Lib.hid (And.intro hR3 hC3); clear hR3 hC3
      go_wp2_with fail
      go_ret
      have h3 := H3.out.1
      simp only [Bool.false_eq_true, if_false] at h3
      have hlow := H2.out.2.2.2
      have hc : Chg (mfoot P fs) W W3 := by
        refine ((HC.out.mono fun k _ hk => .inr hk).trans H2.out.2.2.1).trans' H3.out.2 fun k hk => ?_
        rcases hlow k hk with h | h
        · exact .inl h
        · exact .inr (Nat.le_trans HC.out.size h)
      refine ⟨rfl, _, by unfold HitQ; rw [HKS.out, if_pos (by simp [oddK, HO.out])]; exact ⟨fs', H2.out.1, rfl⟩, HKS.out ▸ h3, hc, fun k hk => ?_⟩
      have : mfoot P fs' k := by
        rcases hk with hk | hk
        · exact .inl ((foot_crash k).1 hk)
        · exact .inr hk
      exact (hlow k this).imp id fun h => Nat.le_trans HC.out.size h
    · have hbe : (bits BinOp.and IntKind.i64 x 1 == 1) = false := by rw [hbit]; simpa using ho
      have HO := Lib.hid ho
      clear hbit ho
      go_wp2_with fail
      refine (pblow_any H1.out).mono ?_
      rintro e W2 ⟨rfl, hR, hC⟩
      have H2 := Lib.hid (And.intro hR hC); clear hR hC
      go_wp2_with fail
      go_ret
      have h2 := H2.out.1
      simp only [Bool.false_eq_true, if_false] at h2
      refine ⟨rfl, _, by unfold HitQ; rw [HKS.out, if_neg (by simp [oddK, HO.out])], HKS.out ▸ h2, (HC.out.mono fun k _ hk => .inr hk).trans H2.out.2, fun k hk => .inl ?_⟩
      rcases hk with hk | hk
      · exact .inl ((foot_crash k).1 hk)
      · exact .inr hk
end Go.Proofs.YtjdkhclcempafaaGreat
