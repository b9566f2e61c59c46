import Derived.Test.YtjdkhclcempafaaDkPh
set_option linter.unusedVariables false
set_option linter.unusedSimpArgs false
namespace Go.Proofs.Ytjdkhclcempafaa
open Go.RowKit Go.Shelf Go.Sort Go.Maps

/-! ### List -/
section
variable {p : Option Addr} {w : World}
theorem plist_no (h : NoP w p) : Calls Try.prog 21 #[.pointer p] w fun e w' => e = .returned (.slice none 0 0) ∧ w = w' := by
  have H := Lib.hid h; clear h
  go_enter Try.func21, Try.ntmps21
  go_wp2_with fail
  refine (pis_no p w H.out).mono ?_
  rintro e w' ⟨rfl, rfl⟩
  go_wp2_with fail
  go_ret
  exact ⟨rfl, rfl⟩
end
theorem plist_on {W : World} {pa d : Nat} {fuse : Int} {kp : Option Addr} {kn kcap : Nat} {wr done mu : Int} (h : PowerAt W pa d fuse kp kn kcap wr 0 done mu) {fs : List Ent}
    (hl : Calls Try.prog 13 #[.pointer (some ⟨d, 0, none⟩)] W (LPost fs W)) : Calls Try.prog 21 #[.pointer (some ⟨pa, 0, none⟩)] W (LPost fs W) := by
  have c0 := h.c.1
  have H := Lib.hid (And.intro h hl); clear h hl
  go_enter Try.func21, Try.ntmps21
  go_wp2_with fail
  refine (pis_yes c0).mono ?_
  rintro e w' ⟨rfl, rfl⟩
  go_wp2_with fail
  refine (pdown_any H.out.1).mono ?_
  rintro e w' ⟨rfl, rfl⟩
  simp only [ne_eq, not_true_eq_false, decide_false]
  go_wp2_with fail
  refine H.out.2.mono ?_
  rintro e W1 ⟨v, rfl, hv⟩
  have HV := Lib.hid hv; clear hv
  go_wp2_with fail
  go_ret
  exact ⟨v, rfl, HV.out⟩
theorem plist_off {W : World} {pa d : Nat} {fuse : Int} {kp : Option Addr} {kn kcap : Nat} {wr done mu : Int} (h : PowerAt W pa d fuse kp kn kcap wr 1 done mu) :
    Calls Try.prog 21 #[.pointer (some ⟨pa, 0, none⟩)] W fun e W' => e = .returned (.slice none 0 0) ∧ W = W' := by
  have c0 := h.c.1
  have H := Lib.hid h; clear h
  go_enter Try.func21, Try.ntmps21
  go_wp2_with fail
  refine (pis_yes c0).mono ?_
  rintro e w' ⟨rfl, rfl⟩
  go_wp2_with fail
  refine (pdown_any H.out).mono ?_
  rintro e w' ⟨rfl, rfl⟩
  simp only [ne_eq, Int.reduceEq, not_false_eq_true, decide_true]
  go_wp2_with fail
  go_ret
  exact ⟨rfl, rfl⟩
/-- the names' list, as cells -/
def NamesAt (W : World) (g cap : Nat) (ns : List ByteArray) : Prop :=
  g < W.heap.size ∧ ns.length ≤ cap ∧ ∀ (j : Nat) x, ns[j]? = some x → W.cell? ⟨g, 0 + j, none⟩ = some (.string x)
theorem LPost.names {fs : List Ent} {w : World} {e : Ending} {W' : World} (h : LPost fs w e W') (ns : List ByteArray) (hn : (sortKV (kvOf fs)).map (·.1) = ns) :
    Below w.heap.size w W' ∧ ((ns = [] ∧ ∃ p c, e = .returned (.slice p 0 c)) ∨ ∃ g cap, w.heap.size ≤ g ∧ e = .returned (.slice (some ⟨g, 0, none⟩) ns.length cap) ∧ NamesAt W' g cap ns) := by
  obtain ⟨v, he, ho, hB⟩ := h
  have hl : fs.length = ns.length := by
    have := (sortKV_perm (kvOf fs)).length_eq
    rw [← hn]
    simpa [kvOf] using this.symm
  rw [hl] at ho
  refine ⟨hB, ?_⟩
  rcases ho.2 with ⟨hv, hz⟩ | ⟨g, cap, cur, rfl, hg, hh, hc, _, _, ht⟩
  · exact .inl ⟨List.eq_nil_of_length_eq_zero hz, none, 0, by rw [he, hv]⟩
  · refine .inr ⟨g, cap, hg, he, lt_of_heap hh, hc, fun j x hx => ?_⟩
    rw [cell_of_heap hh, Nat.zero_add]
    have hj : j < ns.length := (List.getElem?_eq_some_iff.1 hx).1
    have h1 : (cur.toList.take (ns.length * 1))[j]? = some (.string x) := by
      rw [ht]
      rw [show ((sortKV (kvOf fs)).map fun p => Value.string p.1) = ns.map Value.string by rw [← hn, List.map_map]; rfl]
      rw [List.getElem?_map, hx]; rfl
    rw [List.getElem?_take, if_pos (by omega)] at h1
    simpa using h1
end Go.Proofs.Ytjdkhclcempafaa
