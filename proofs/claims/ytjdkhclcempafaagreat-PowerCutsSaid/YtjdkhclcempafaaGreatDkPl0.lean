import Derived.Test.YtjdkhclcempafaaGreatDkP
set_option linter.unusedVariables false
set_option linter.unusedSimpArgs false
namespace Go.Proofs.YtjdkhclcempafaaGreat
open Go.RowKit Go.Shelf Go.Sort Go.Maps

/-- the names' list, as cells -/
def NamesAt (W : World) (g cap : Nat) (ns : List ByteArray) : Prop :=
  g < W.heap.size ∧ ns.length ≤ cap ∧ ∀ (j : Nat) x, ns[j]? = some x → W.cell? ⟨g, 0 + j, none⟩ = some (.string x)
theorem LPost.names {fs : List Ent} {w : World} {e : Ending} {W' : World} (h : LPost fs w e W') (ns : List ByteArray) (hn : (sortKV (kvOf fs)).map (·.1) = ns) :
    Below w.heap.size w W' ∧ ((ns = [] ∧ ∃ p c, e = .returned (.slice p 0 c)) ∨ ∃ g cap, w.heap.size ≤ g ∧ e = .returned (.slice (some ⟨g, 0, none⟩) ns.length cap) ∧ NamesAt W' g cap ns) := by
  obtain ⟨v, he, ho, hB⟩ := h
  have hl : fs.length = ns.length := by
    have := (sortKV_perm (kvOf fs)).length_eq
    rw [← hn]
    simpa [kvOf] using this.symm
  rw [hl] at ho
  refine ⟨hB, ?_⟩
  rcases ho.2 with ⟨hv, hz⟩ | ⟨g, cap, cur, rfl, hg, hh, hc, _, _, ht⟩
  · exact .inl ⟨List.eq_nil_of_length_eq_zero hz, none, 0, by rw [he, hv]⟩
  · refine .inr ⟨g, cap, hg, he, lt_of_heap hh, hc, fun j x hx => ?_⟩
    rw [cell_of_heap hh, Nat.zero_add]
    have hj : j < ns.length := (List.getElem?_eq_some_iff.1 hx).1
    have h1 : (cur.toList.take (ns.length * 1))[j]? = some (.string x) := by
      rw [ht]
      rw [show ((sortKV (kvOf fs)).map fun p => Value.string p.1) = ns.map Value.string by rw [← hn, List.map_map]; rfl]
      rw [List.getElem?_map, hx]; rfl
    rw [List.getElem?_take, if_pos (by omega)] at h1
    simpa using h1
end Go.Proofs.YtjdkhclcempafaaGreat
