import Derived.Test.YtjdkhclcempafaaGreatDkPr
import Derived.Test.YtjdkhclcempafaaGreatDkPi
set_option linter.unusedVariables false
set_option linter.unusedSimpArgs false
namespace Go.Proofs.YtjdkhclcempafaaGreat
open Go.RowKit Go.Shelf Go.Sort Go.Maps

section
variable {w0 W W1 W2 : World} {P : PW} {fs f1 : List Ent} {Q Q' : List Ent → Prop} {wr wr' : Int} {off off' : Bool}
theorem St.refl (h : Rest w0 W P fs wr off) (hq : Q fs) : St w0 W P fs Q wr off W := ⟨fs, hq, h, Chg.refl _ _, fun _ hk => .inl hk⟩
theorem St.trans (hc : Chg (mfoot P fs) W W1) (hf : ∀ k, mfoot P f1 k → mfoot P fs k ∨ W.heap.size ≤ k) (k : St w0 W1 P f1 Q' wr' off' W2) : St w0 W P fs Q' wr' off' W2 := by
  obtain ⟨f2, q2, r2, c2, g2⟩ := k
  refine ⟨f2, q2, r2, hc.trans' c2 hf, fun i hi => ?_⟩
  rcases g2 i hi with h | h
  · exact hf i h
  · exact .inr (Nat.le_trans hc.size h)
theorem HitQ.mono {ks : List Int} (h : ∀ f, Q f → Q' f) {f : List Ent} (hh : HitQ ks fs Q f) : HitQ ks fs Q' f := by
  unfold HitQ at hh ⊢
  split at hh
  · rename_i e; rw [if_pos e]; obtain ⟨g, hg, he⟩ := hh; exact ⟨g, h g hg, he⟩
  · rename_i e; rw [if_neg e]; exact hh
theorem St.mono (h : St w0 W P fs Q wr off W1) (hq : ∀ f, Q f → Q' f) : St w0 W P fs Q' wr off W1 := by
  obtain ⟨f, q, r⟩ := h; exact ⟨f, hq f q, r⟩
theorem WR.step {E r : Int} {s : MS} {A : PAct} (hr : WR E w0 W P fs Q s.wr s.off r W1) (hQ : ∀ f, Q f → StepQ P.q A fs f) (hf : Alike fs s.gs) (hA : A.writes = true) :
    St w0 W P fs (fun f => Alike f (stepM P.fuse P.ks P.q s A).gs) (stepM P.fuse P.ks P.q s A).wr (stepM P.fuse P.ks P.q s A).off W1 := by
  unfold stepM
  rw [if_neg (by rw [hA]; simp)]
  rcases hr with ⟨h1, _, h⟩ | ⟨h1, h2, _, h⟩ | ⟨h1, h2, _, h⟩
  · rw [if_pos h1]; rw [h1]; exact h.mono fun f e => by rw [e]; exact hf
  · rw [if_neg (by rw [h1]; simp), if_pos h2]; exact h.mono fun f e => (HitQ.mono hQ e).alike hf
  · rw [if_neg (by rw [h1]; simp), if_neg h2]; exact h.mono fun f e => (hQ f e).alike hf
end

def RunP (w0 W : World) (P : PW) (fs : List Ent) (s : MS) (e : Ending) (W' : World) : Prop := e = .returned (.tuple #[]) ∧ St w0 W P fs (fun f => Alike f s.gs) s.wr s.off W'
/-- so far -/
structure RunI (w0 W : World) (P : PW) (fs : List Ent) (l : List PAct) (s0 : MS) (k : Nat) (wr : World) : Prop where
  st : St w0 W P fs (fun f => Alike f (runM P.fuse P.ks P.q (l.take k) s0).gs) (runM P.fuse P.ks P.q (l.take k) s0).wr (runM P.fuse P.ks P.q (l.take k) s0).off wr
  lo : s0.wr ≤ (runM P.fuse P.ks P.q (l.take k) s0).wr
  hi : (runM P.fuse P.ks P.q (l.take k) s0).wr ≤ s0.wr + k
theorem stepM_wr (fuse : Int) (ks : List Int) (q : Nat) (s : MS) (A : PAct) : s.wr ≤ (stepM fuse ks q s A).wr ∧ (stepM fuse ks q s A).wr ≤ s.wr + 1 := by
  unfold stepM
  split
  · omega
  · split
    · omega
    · split <;> simp <;> omega
theorem runM_take {fuse : Int} {ks : List Int} {q : Nat} {l : List PAct} {s0 : MS} {k : Nat} (hk : k < l.length) : runM fuse ks q (l.take (k + 1)) s0 = stepM fuse ks q (runM fuse ks q (l.take k) s0) l[k] := by
  rw [List.take_succ_eq_append_getElem hk, runM_append]; rfl
theorem RunI.next {w0 W : World} {P : PW} {fs : List Ent} {l : List PAct} {s0 : MS} {k : Nat} {wr w2 : World} {A : PAct} (hk : k < l.length) (hA : l[k] = A) (h : RunI w0 W P fs l s0 k wr)
    {f1 : List Ent} (hc : Chg (mfoot P fs) W wr) (hf : ∀ k, mfoot P f1 k → mfoot P fs k ∨ W.heap.size ≤ k)
    (hs : St w0 wr P f1 (fun f => Alike f (stepM P.fuse P.ks P.q (runM P.fuse P.ks P.q (l.take k) s0) A).gs) (stepM P.fuse P.ks P.q (runM P.fuse P.ks P.q (l.take k) s0) A).wr (stepM P.fuse P.ks P.q (runM P.fuse P.ks P.q (l.take k) s0) A).off w2) :
    RunI w0 W P fs l s0 (k + 1) w2 := by
  subst hA
  have e := runM_take (fuse := P.fuse) (ks := P.ks) (q := P.q) (s0 := s0) hk
  have hw := stepM_wr P.fuse P.ks P.q (runM P.fuse P.ks P.q (l.take k) s0) l[k]
  have h1 := h.lo
  have h2 := h.hi
  exact ⟨by rw [e]; exact hs.trans hc hf, by rw [e]; omega, by rw [e]; push_cast; omega⟩

set_option maxHeartbeats 4000000 in
set_option maxRecDepth 20000 in
theorem run_any {w0 W : World} {P : PW} {fs : List Ent} {s0 : MS} (h : Rest w0 W P fs s0.wr s0.off) (hal : Alike fs s0.gs) (hw0 : 0 ≤ s0.wr ∧ s0.wr ≤ 1000) (p : Option Addr) (cap : Nat) (l : List PAct)
    (hA : PActsAt w0 (fun k => w0.heap.size ≤ k) p l) (hl : l.length ≤ 1000) (hwr : ∀ A ∈ l, A.writes = true) :
    Calls Tryz.prog 9 #[.pointer (some ⟨P.pa, 0, none⟩), .slice p l.length cap] W (RunP w0 W P fs (runM P.fuse P.ks P.q l s0)) := by
  have HA := Lib.hid hA; clear hA
  have HI0 : RunI w0 W P fs l s0 0 W := ⟨St.refl h hal, by simp [runM], by simp [runM]⟩
  have HI := Lib.hid HI0; clear HI0 h hal
  have HW := Lib.hid hwr; clear hwr
  have HW0 := Lib.hid hw0; clear hw0
  go_enter Tryz.func9, Tryz.ntmps9
  go_wp2_with fail
  go_loopw [4] (fun i wr => ∃ k : Nat, k ≤ l.length ∧ i = .int .i64 k ∧ Hid (RunI w0 W P fs l s0 k wr)) (fun i _ => l.length - (intOf i).toNat)
  case atStart => exact ⟨0, Nat.zero_le _, rfl, HI⟩
  case round =>
    obtain ⟨k, hk, rfl, HO⟩ := hrel
    by_cases hlt : k < l.length
    · obtain ⟨f1, hq, hR, hc, hf⟩ := HO.out.st
      have HS := Lib.hid (And.intro hq (And.intro hR (And.intro hc hf))); clear hq hR hc hf
      obtain ⟨ad, b, o, hp, hadd, ha0⟩ := HA.out.1 k hlt
      subst hp
      have ha := ha0.chg (Chg.of_below (S := fun k => w0.heap.size ≤ k) HS.out.2.1.disk.old)
      clear ha0
      have hm := HW.out l[k] (List.getElem_mem hlt)
      obtain ⟨A, hAk⟩ : ∃ A, l[k] = A := ⟨_, rfl⟩
      rw [hAk] at ha hm
      have HAK := Lib.hid hAk; clear hAk
      have h0 := ha.c0
      have h1 := ha.c1
      have h2 := ha.c2
      have hwh := ha.wh
      have HSZ := Lib.hid ha.sz
      clear ha
      have h8 : A.what.tmod 8 = A.what % 8 := Int.tmod_eq_emod_of_nonneg (by omega)
      have hc5 : A.what % 8 = 0 ∨ A.what % 8 = 1 ∨ A.what % 8 = 2 ∨ A.what % 8 = 3 ∨ A.what % 8 = 4 := by
        have : A.what % 8 < 5 := by simpa [PAct.writes] using hm
        omega
      have HM := Lib.hid hm; clear hm
      have hBal : RowKit.Below wr.heap.size wr (wr.alloc (.cells #[.int .u8 A.what, .string A.name, .string A.other] 28)) := (Below.refl _ _).alloc (Nat.le_refl _) _
      have hR1 := HS.out.2.1.below hBal
      have hlo := HO.out.lo
      have hhi := HO.out.hi
      have hw01 := HW0.out
      have hwb : 0 ≤ (runM P.fuse P.ks P.q (l.take k) s0).wr ∧ (runM P.fuse P.ks P.q (l.take k) s0).wr ≤ 1000000 := by omega
      have HX := Lib.hid (And.intro hBal (And.intro hR1 hwb)); clear hBal hR1 hwb hlo hhi hw01
      rcases hc5 with c | c | c | c | c
      · have hQ : ∀ f, (QC A.name f1) f → StepQ P.q A f1 f := fun f ⟨b, hb⟩ => by unfold StepQ; rw [if_pos c]; exact ⟨b, hb⟩
        have HQ := Lib.hid hQ; clear hQ
        go_wp2_with fail
        refine (pCreate_any HX.out.2.1 HX.out.2.2 A.name).mono ?_
        rintro e W2 ⟨r, rfl, hr⟩
        have HN := Lib.hid (RunI.next hlt HAK.out HO.out HS.out.2.2.1 HS.out.2.2.2 (WR.step (hr.back HX.out.1) HQ.out HS.out.1 HM.out)); clear hr
        go_wp2_with fail
        exact ⟨⟨k + 1, by omega, by go_num, HN⟩, by simp [intOf]; omega⟩
      · have hQ : ∀ f, (fun f => f = appendR P.q A.name A.other f1) f → StepQ P.q A f1 f := fun f e => by unfold StepQ; rw [if_neg (by omega), if_pos c]; exact e
        have HQ := Lib.hid hQ; clear hQ
        go_wp2_with fail
        refine (pAppend_any HX.out.2.1 HX.out.2.2 A.name A.other HSZ.out).mono ?_
        rintro e W2 ⟨r, rfl, hr⟩
        have HN := Lib.hid (RunI.next hlt HAK.out HO.out HS.out.2.2.1 HS.out.2.2.2 (WR.step (hr.back HX.out.1) HQ.out HS.out.1 HM.out)); clear hr
        go_wp2_with fail
        exact ⟨⟨k + 1, by omega, by go_num, HN⟩, by simp [intOf]; omega⟩
      · have hQ : ∀ f, (fun f => f = syncR A.name f1) f → StepQ P.q A f1 f := fun f e => by unfold StepQ; rw [if_neg (by omega), if_neg (by omega), if_pos c]; exact e
        have HQ := Lib.hid hQ; clear hQ
        go_wp2_with fail
        refine (pSync_any HX.out.2.1 HX.out.2.2 A.name).mono ?_
        rintro e W2 ⟨r, rfl, hr⟩
        have HN := Lib.hid (RunI.next hlt HAK.out HO.out HS.out.2.2.1 HS.out.2.2.2 (WR.step (hr.back HX.out.1) HQ.out HS.out.1 HM.out)); clear hr
        go_wp2_with fail
        exact ⟨⟨k + 1, by omega, by go_num, HN⟩, by simp [intOf]; omega⟩
      · have hQ : ∀ f, (fun f => f = renameR A.name A.other f1) f → StepQ P.q A f1 f := fun f e => by unfold StepQ; rw [if_neg (by omega), if_neg (by omega), if_neg (by omega), if_pos c]; exact e
        have HQ := Lib.hid hQ; clear hQ
        go_wp2_with fail
        refine (pRename_any HX.out.2.1 HX.out.2.2 A.name A.other).mono ?_
        rintro e W2 ⟨r, rfl, hr⟩
        have HN := Lib.hid (RunI.next hlt HAK.out HO.out HS.out.2.2.1 HS.out.2.2.2 (WR.step (hr.back HX.out.1) HQ.out HS.out.1 HM.out)); clear hr
        go_wp2_with fail
        exact ⟨⟨k + 1, by omega, by go_num, HN⟩, by simp [intOf]; omega⟩
      · have hQ : ∀ f, (fun f => f = removeR A.name f1) f → StepQ P.q A f1 f := fun f e => by unfold StepQ; rw [if_neg (by omega), if_neg (by omega), if_neg (by omega), if_neg (by omega)]; exact e
        have HQ := Lib.hid hQ; clear hQ
        go_wp2_with fail
        refine (pRemove_any HX.out.2.1 HX.out.2.2 A.name).mono ?_
        rintro e W2 ⟨r, rfl, hr⟩
        have HN := Lib.hid (RunI.next hlt HAK.out HO.out HS.out.2.2.1 HS.out.2.2.2 (WR.step (hr.back HX.out.1) HQ.out HS.out.1 HM.out)); clear hr
        go_wp2_with fail
        exact ⟨⟨k + 1, by omega, by go_num, HN⟩, by simp [intOf]; omega⟩
    · obtain rfl : k = l.length := by omega
      go_wp2
      go_end0
      have := HO.out.st
      rw [List.take_length] at this
      exact ⟨rfl, this⟩
end Go.Proofs.YtjdkhclcempafaaGreat
