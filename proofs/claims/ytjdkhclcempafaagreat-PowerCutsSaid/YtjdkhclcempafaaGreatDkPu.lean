import Derived.Test.YtjdkhclcempafaaGreatDkPt
import Derived.Test.YtjdkhclcempafaaGreatDkPk
set_option linter.unusedVariables false
set_option linter.unusedSimpArgs false
namespace Go.Proofs.YtjdkhclcempafaaGreat
open Go.RowKit Go.Shelf Go.Sort Go.Maps

/-! ### two machines beside each other -/
structure Both (w0 W : World) (P Q : PW) (fs gs : List Ent) (wr : Int) (off : Bool) (wr' : Int) (off' : Bool) : Prop where
  p : Rest w0 W P fs wr off
  q : Rest w0 W Q gs wr' off'
  ap : ∀ k, mfoot P fs k → ¬ mfoot Q gs k
  kp : ∀ ad, P.kp = some ad → P.ks ≠ [] → ¬ mfoot Q gs ad.block
  kq : ∀ ad, Q.kp = some ad → Q.ks ≠ [] → ¬ mfoot P fs ad.block
section
variable {w0 W W' : World} {P Q : PW} {fs gs fs' : List Ent} {wr wr' wr2 : Int} {off off' off2 : Bool}
theorem Both.symm (h : Both w0 W P Q fs gs wr off wr' off') : Both w0 W Q P gs fs wr' off' wr off := ⟨h.q, h.p, fun k hq hp => h.ap k hp hq, h.kq, h.kp⟩
theorem mfoot_low (h : Rest w0 W P fs wr off) : ∀ k, mfoot P fs k → w0.heap.size ≤ k := by
  rintro k (hk | rfl)
  · exact h.disk.low k hk
  · exact h.plow
theorem Both.step (h : Both w0 W P Q fs gs wr off wr' off') (hR : Rest w0 W' P fs' wr2 off2) (hc : Chg (mfoot P fs) W W') (hf : ∀ k, mfoot P fs' k → mfoot P fs k ∨ W.heap.size ≤ k) : Both w0 W' P Q fs' gs wr2 off2 wr' off' := by
  refine ⟨hR, h.q.chg hc (fun k hk hp => h.ap k hp hk) h.kq (mfoot_low h.p), fun k hk hq => ?_, h.kp, fun ad ha hne hk => ?_⟩
  · rcases hf k hk with h1 | h1
    · exact h.ap k h1 hq
    · exact absurd (h.q.lt k hq) (by omega)
  · rcases hf _ hk with h1 | h1
    · exact h.kq ad ha hne h1
    · exact absurd (h.q.keepLt ha hne).1 (by omega)
theorem Both.below (h : Both w0 W P Q fs gs wr off wr' off') (hB : Below W.heap.size W W') : Both w0 W' P Q fs gs wr off wr' off' := ⟨h.p.below hB, h.q.below hB, h.ap, h.kp, h.kq⟩
end

theorem twoOwn {w0 W1 W2 W3 : World} {a m a2 m2 q q2 : Nat} {fs gs : List Ent} (h1 : Own w0 W2 a m q fs) (h2 : Own W1 W2 a2 m2 q2 gs) (hB : Below W2.heap.size W2 W3) (hs : w0.heap.size ≤ W1.heap.size) : Own w0 W3 a2 m2 q2 gs :=
  ⟨h2.disk.below hB, fun k hk => Nat.le_trans hs (h2.low k hk), h1.old.trans (hB.mono h1.old.size)⟩
theorem bothNew {w0 W1 W2 W3 W4 : World} {a m a2 m2 q q2 : Nat} {fuse fuse2 : Int} {ks : List Int} {P Q : PW} (hd : DiskAt W1 a m q []) (h1 : Own w0 W2 a m q []) (h2 : Own W1 W2 a2 m2 q2 [])
    (hP : P.a = a ∧ P.m = m ∧ P.q = q ∧ P.fuse = fuse ∧ P.ks = ks) (hR : Rest w0 W3 P [] 0 false) (hB3 : Below W2.heap.size W2 W3) (hpa : W2.heap.size ≤ P.pa) (hkp : ∀ ad, P.kp = some ad → P.ks ≠ [] → W2.heap.size ≤ ad.block)
    (hQ : Q.a = a2 ∧ Q.m = m2 ∧ Q.q = q2 ∧ Q.fuse = fuse2 ∧ Q.ks = ks) (hR2 : Rest w0 W4 Q [] 0 false) (hB4 : Below W3.heap.size W3 W4) (hpa2 : W3.heap.size ≤ Q.pa) (hkp2 : ∀ ad, Q.kp = some ad → Q.ks ≠ [] → W3.heap.size ≤ ad.block) :
    Both w0 W4 P Q [] [] 0 false 0 false := by
  have hA : ∀ k, foot P.a P.m [] k → k < W1.heap.size := fun k hk => by rw [hP.1, hP.2.1] at hk; exact hd.lt k hk
  have hE : ∀ k, foot Q.a Q.m [] k → W1.heap.size ≤ k ∧ k < W2.heap.size := fun k hk => by rw [hQ.1, hQ.2.1] at hk; exact ⟨h2.low k hk, h2.disk.lt k hk⟩
  have s12 := h2.old.size
  have s23 := hB3.size
  have hpl := hR.plt
  refine ⟨hR.below hB4, hR2, fun k hp hq => ?_, fun ad ha hne hq => ?_, fun ad ha hne hp => ?_⟩
  · rcases hp with hp | hp <;> rcases hq with hq | hq
    · have := hA k hp; have := hE k hq; omega
    · have := hA k hp; omega
    · have := hE k hq; omega
    · omega
  · have h1 := hkp ad ha hne
    have h2 := (hR.keepLt ha hne).1
    rcases hq with hq | hq
    · have := hE _ hq; omega
    · omega
  · have h1 := hkp2 ad ha hne
    rcases hp with hp | hp
    · have := hA _ hp; omega
    · omega

/-! ### the list of acts that the law makes -/
def cells3 (A : PAct) : List Value := [.int .u8 A.what, .string A.name, .string A.other]
def cellsA (l : List PAct) : List Value := l.flatMap cells3
theorem cellsA_length (l : List PAct) : (cellsA l).length = l.length * 3 := by
  induction l with
  | nil => rfl
  | cons A r ih => simp only [cellsA, List.flatMap_cons, List.length_append, List.length_cons] at ih ⊢; simp only [cells3, List.length_cons, List.length_nil]; omega
theorem cellsA_get : ∀ (l : List PAct) (i : Nat) (hi : i < l.length) (j : Nat), j < 3 → (cellsA l)[i * 3 + j]? = (cells3 l[i])[j]?
  | A :: r, 0, _, j, hj => by
    have e : cellsA (A :: r) = cells3 A ++ cellsA r := rfl
    rw [e, List.getElem?_append_left (by simp [cells3]; omega)]
    simp
  | A :: r, i + 1, hi, j, hj => by
    have e : cellsA (A :: r) = cells3 A ++ cellsA r := rfl
    rw [e, List.getElem?_append_right (by simp [cells3]; omega)]
    have := cellsA_get r i (by simpa using hi) j hj
    simp only [List.getElem_cons_succ]
    rw [← this]
    congr 1
    simp [cells3]; omega
theorem cellsA_snoc (l : List PAct) (A : PAct) : cellsA (l ++ [A]) = cellsA l ++ cells3 A := by simp [cellsA]

def OwnA (B : Nat) (wr : World) (v : Value) (l : List PAct) : Prop := wr.ownsRow B 28 3 v l.length (cellsA l)
/-- a row of acts is a list of acts -/
theorem OwnA.acts {B : Nat} {wr : World} {v : Value} {l : List PAct} (h : OwnA B wr v l) (hwh : ∀ A ∈ l, (0 ≤ A.what ∧ A.what ≤ 255) ∧ A.other.size ≤ 9223372036854775807) (hl : l.length ≤ 1000) :
    ∃ p cap, v = .slice p l.length cap ∧ l.length ≤ cap ∧ PActsAt wr (fun k => wr.heap.size ≤ k) p l ∧ (l ≠ [] → ∃ g, p = some ⟨g, 0, none⟩) := by
  rcases h.2 with ⟨rfl, hz⟩ | ⟨g, cap, cur, rfl, hg, hh, hn, hcap, hsz, ht⟩
  · have : l = [] := List.eq_nil_of_length_eq_zero hz
    subst this
    exact ⟨none, 0, rfl, Nat.le_refl _, ⟨fun i hi => absurd hi (by simp), by simp⟩, fun h => absurd rfl h⟩
  · refine ⟨some ⟨g, 0, none⟩, cap, rfl, hn, ⟨fun i hi => ⟨⟨g, 0, none⟩, g, 0 + i * 3, rfl, Addr.add_lit .., ?_⟩, by omega⟩, fun _ => ⟨g, rfl⟩⟩
    have key : ∀ j, j < 3 → wr.cell? ⟨g, 0 + i * 3 + j, none⟩ = (cells3 l[i])[j]? := fun j hj => by
      rw [cell_of_heap hh, Nat.zero_add, ← Array.getElem?_toList]
      have h2 := congrArg (fun x => x[i * 3 + j]?) ht
      simp only [List.getElem?_take] at h2
      rw [if_pos (by omega)] at h2
      rw [h2, cellsA_get l i hi j hj]
    have hw := hwh l[i] (List.getElem_mem hi)
    exact ⟨by have := key 0 (by omega); simpa [cells3] using this, by have := key 1 (by omega); simpa [cells3] using this, by have := key 2 (by omega); simpa [cells3] using this, lt_of_heap hh, by have := lt_of_heap hh; simp; omega, hw.1, hw.2⟩
theorem OwnA.below {B : Nat} {wr w2 : World} {v : Value} {l : List PAct} (h : OwnA B wr v l) (hB : Below wr.heap.size wr w2) : OwnA B w2 v l := by
  refine ⟨h.1, h.2.imp id ?_⟩
  rintro ⟨g, cap, cur, e, hg, hh, r⟩
  exact ⟨g, cap, cur, e, hg, (hB.block g (lt_of_heap hh)).trans hh, r⟩
theorem infoAct : (Tryz.prog.info? 28).map (fun i => (i.zero, i.size, i.bytes)) = some (some (.agg #[.int .u8 0, .string ⟨#[]⟩, .string ⟨#[]⟩]), 3, 40) := by kernel_rfl
/-- those of the first acts that are writes -/
def wrs (l : List PAct) : List PAct := l.filter PAct.writes
theorem wrs_hit {l : List PAct} {k : Nat} (hk : k < l.length) {A : PAct} (hA : l[k] = A) (h : A.writes = true) : wrs (l.take (k + 1)) = wrs (l.take k) ++ [A] := by
  subst hA
  unfold wrs
  rw [List.take_succ_eq_append_getElem hk, List.filter_append, List.filter_cons_of_pos h, List.filter_nil]
theorem wrs_miss {l : List PAct} {k : Nat} (hk : k < l.length) {A : PAct} (hA : l[k] = A) (h : A.writes = false) : wrs (l.take (k + 1)) = wrs (l.take k) := by
  subst hA
  unfold wrs
  rw [List.take_succ_eq_append_getElem hk, List.filter_append, List.filter_cons_of_neg (by rw [h]; simp), List.filter_nil, List.append_nil]
theorem wrs_len (l : List PAct) (k : Nat) : (wrs (l.take k)).length ≤ k := by
  have h1 : (wrs (l.take k)).length ≤ (l.take k).length := List.length_filter_le ..
  rw [List.length_take] at h1
  omega
end Go.Proofs.YtjdkhclcempafaaGreat
