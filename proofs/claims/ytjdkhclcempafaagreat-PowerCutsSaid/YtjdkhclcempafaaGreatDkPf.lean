import Derived.Test.YtjdkhclcempafaaGreatDkPe
import Derived.Test.YtjdkhclcempafaaGreatDkPs
set_option linter.unusedVariables false
set_option linter.unusedSimpArgs false
namespace Go.Proofs.YtjdkhclcempafaaGreat
open Go.RowKit Go.Shelf Go.Sort Go.Maps

/-! ### New -/
/-- a copied list: where it lies -/
def ClonePost (w : World) (ks : List Int) (e : Ending) (w' : World) : Prop :=
  ∃ kp' kcap', e = .returned (.slice kp' ks.length kcap') ∧ KeepAt w' (fun k => k < w.heap.size) kp' ks ∧ Below w.heap.size w w' ∧ ∀ ad, kp' = some ad → ad = ⟨ad.block, 0, none⟩
theorem clone_some (b off kcap : Nat) (ks : List Int) (w : World) (hbig : ks.length * 8 ≤ 140737488355328) (hk : ∀ x ∈ ks, -9223372036854775808 ≤ x ∧ x ≤ 9223372036854775807)
    (hc : ∀ j, j < ks.length → w.cell? ⟨b, off + j, none⟩ = some (.int .i64 (ks.getD j 0))) :
    Calls Tryz.prog 15 #[.slice (some ⟨b, off, none⟩) ks.length kcap] w (ClonePost w ks) := by
  refine (Tryz.slices_Clone_int b off ks.length kcap ks w (Nat.le_refl _) hbig hc).mono ?_
  rintro e w' ⟨v, rfl, hown, hnn, hB⟩
  rcases hown.2 with ⟨hv, _⟩ | ⟨g, cap, cur, rfl, hg, hheap, hn, hcap, hsz, htake⟩
  · exact absurd hv hnn
  refine ⟨some ⟨g, 0, none⟩, cap, rfl, ⟨fun j hj => ⟨⟨g, 0, none⟩, rfl, lt_of_heap hheap, by simp; omega, ?_⟩, by omega, hk⟩, hB, fun ad h => by cases h; rfl⟩
  rw [Addr.add_lit, cell_of_heap hheap]
  have h2 := congrArg (fun l => l[j]?) htake
  simp only [List.getElem?_take, List.getElem?_map, Nat.mul_one, hj, if_true] at h2
  rw [List.getElem?_eq_getElem hj] at h2
  rw [Nat.zero_add, ← Array.getElem?_toList, h2]
  simp [List.getD, List.getElem?_eq_getElem hj]
theorem clone_zero (a : Addr) (c : Nat) (w : World) : Calls Tryz.prog 15 #[.slice (some a) 0 c] w (ClonePost w []) := by
  refine (Tryz.slices_Clone_int_zero a c w).mono ?_
  rintro e w' ⟨v, rfl, hown, hnn, hB⟩
  rcases hown.2 with ⟨hv, _⟩ | ⟨g, cap, cur, rfl, hg, hheap, hn, hcap, hsz, htake⟩
  · exact absurd hv hnn
  · exact ⟨some ⟨g, 0, none⟩, cap, rfl, ⟨fun j hj => absurd hj (by simp), by simp, by simp⟩, hB, fun ad h => by cases h; rfl⟩
theorem clone_nil (n c : Nat) (w : World) : Calls Tryz.prog 15 #[.slice none n c] w (ClonePost w []) := by
  refine (Tryz.slices_Clone_int_nil n c w).mono ?_
  rintro e w' ⟨rfl, rfl⟩
  exact ⟨none, 0, rfl, ⟨fun j hj => absurd hj (by simp), by simp, by simp⟩, Below.refl _ _, fun ad h => by cases h⟩

/-- a list in memory that may be copied -/
def ListAt (w : World) (p : Option Addr) (ks : List Int) : Prop :=
  ks.length * 8 ≤ 140737488355328 ∧ (∀ x ∈ ks, -9223372036854775808 ≤ x ∧ x ≤ 9223372036854775807) ∧
    (ks = [] ∨ ∃ b off, p = some ⟨b, off, none⟩ ∧ ∀ j, j < ks.length → w.cell? ⟨b, off + j, none⟩ = some (.int .i64 (ks.getD j 0)))
theorem ListAt.below {w w' : World} {p : Option Addr} {ks : List Int} (h : ListAt w p ks) (hB : Below w.heap.size w w') : ListAt w' p ks := by
  refine ⟨h.1, h.2.1, h.2.2.imp id ?_⟩
  rintro ⟨b, off, rfl, hc⟩
  exact ⟨b, off, rfl, fun j hj => (hB.cell (p := ⟨b, off + j, none⟩) (World.block_lt_of_cell? w _ (hc j hj))).trans (hc j hj)⟩
theorem clone_any {w : World} {p : Option Addr} {ks : List Int} (h : ListAt w p ks) (kcap : Nat) : Calls Tryz.prog 15 #[.slice p ks.length kcap] w (ClonePost w ks) := by
  obtain ⟨h1, h2, rfl | ⟨b, off, rfl, hc⟩⟩ := h
  · cases p with
    | none => exact clone_nil _ _ _
    | some a => exact clone_zero a _ _
  · exact clone_some b off kcap ks w h1 h2 hc

def NewP (w0 W : World) (a m q : Nat) (fs : List Ent) (fuse : Int) (ks : List Int) (e : Ending) (W' : World) : Prop :=
  ∃ P : PW, (P.a = a ∧ P.m = m ∧ P.q = q ∧ P.fuse = fuse ∧ P.ks = ks) ∧ e = .returned (.pointer (some ⟨P.pa, 0, none⟩)) ∧ Rest w0 W' P fs 0 false ∧ Below W.heap.size W W' ∧
    W.heap.size ≤ P.pa ∧ ∀ ad, P.kp = some ad → P.ks ≠ [] → W.heap.size ≤ ad.block

set_option maxHeartbeats 1000000 in
theorem pnew_any {w0 W : World} {a m q : Nat} {fs : List Ent} (O : Own w0 W a m q fs) (fuse : Int) (hf : -9223372036854775808 ≤ fuse ∧ fuse ≤ 9223372036854775807) {p : Option Addr} {ks : List Int} (hk : ListAt W p ks) (kcap : Nat) :
    Calls Tryz.prog 8 #[.pointer (some ⟨a, 0, none⟩), .int .i64 fuse, .slice p ks.length kcap] W (NewP w0 W a m q fs fuse ks) := by
  have HO := Lib.hid O; clear O
  have HK := Lib.hid hk; clear hk
  have HF := Lib.hid hf; clear hf
  go_enter Tryz.func8, Tryz.ntmps8
  go_wp2_with fail
  refine (clone_any HK.out kcap).mono ?_
  rintro e W1 ⟨kp, kcap', rfl, hk, hB, hkad⟩
  have H1 := Lib.hid (And.intro hk hB); clear hk hB
  have HKAD := Lib.hid hkad; clear hkad
  go_wp2_with fail
  go_ret
  have hB2 : Below W1.heap.size W1 (W1.alloc (.cells #[.pointer (some ⟨a, 0, none⟩), .int .i64 fuse, .slice kp ks.length kcap', .int .i64 0, .int .i64 0, .int .u32 0, .int .i32 0, .int .u32 0] 58)) := (Below.refl _ _).alloc (Nat.le_refl _) _
  have hs := H1.out.2.size
  have O2 := (HO.out.below H1.out.2).below hB2
  have hapart : ¬ foot a m fs W1.heap.size := fun hf => absurd ((HO.out.below H1.out.2).disk.lt _ hf) (by omega)
  refine ⟨⟨W1.heap.size, a, m, q, fuse, kp, kcap', ks⟩, ⟨rfl, rfl, rfl, rfl, rfl⟩, rfl, ⟨⟨?_⟩, O2, ?_, hapart, ?_, HF.out, HKAD.out⟩, H1.out.2.trans (hB2.mono hs), hs, ?_⟩
  · exact (MapKept.heap_alloc W1 _).1
  · exact Nat.le_trans HO.out.old.size hs
  · have hkb := H1.out.1.below hB2
    refine ⟨fun k hlt => ?_, hkb.2⟩
    obtain ⟨ad, hp, hl, hn, hc⟩ := hkb.1 k hlt
    obtain ⟨ad', hp', hl', hn', _⟩ := H1.out.1.1 k hlt
    rw [hp] at hp'; cases hp'
    refine ⟨ad, hp, hl, ?_, hc⟩
    rintro (hk | hk)
    · exact hn (HO.out.disk.lt _ hk)
    · have hk : ad.block = W1.heap.size := hk
      omega
  · rintro ad hp hne
    have hl : 0 < ks.length := by cases ks with
      | nil => exact absurd rfl hne
      | cons => simp
    obtain ⟨ad', hp', hl', hn', _⟩ := H1.out.1.1 0 hl
    have hp2 : kp = some ad := hp
    rw [hp2] at hp'; cases hp'
    simpa using hn'
end Go.Proofs.YtjdkhclcempafaaGreat
