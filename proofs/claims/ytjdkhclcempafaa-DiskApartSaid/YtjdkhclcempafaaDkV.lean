import Derived.Test.YtjdkhclcempafaaDkU
import Derived.Test.YtjdkhclcempafaaRows
import Derived.OpenShut
import Derived.Deep.Slices
import Derived.Carry
set_option linter.unusedVariables false
set_option linter.unusedSimpArgs false
namespace Go.Proofs.Ytjdkhclcempafaa.diskApart
open Go.ChangeShapes Go.WideShapes Go.ChangeAt Go.RowKit Go.Proofs.Ytjdkhclcempafaa
open Go.ChangeMaps (open_string shut_string)

theorem own : ownKnob Try.prog.godebug = none := by kernel_rfl
theorem cells1 : Try.prog.cellsOf 5 = 1 ∧ Try.prog.cellsOf 9 = 1 ∧ Try.prog.cellsOf 34 = 1 ∧ Try.prog.cellsOf 3 = 1 ∧ Try.prog.cellsOf 36 = 5 := by
  refine ⟨?_, ?_, ?_, ?_, ?_⟩ <;> kernel_rfl

section
variable {H : Type} {enc : TypeId × Value → H} {W : World} {base : Nat} {spare : Nat → Bool} {held : Bool} {n : Nat}

theorem open_keep {cs : List Value} {x : DataW H × List MemPlace} (h : DataW.trod enc Try.prog W base spare held n 34 cs = some x) :
    ∃ (p : Option Addr) (ks : List Int) (cap : Nat), cs = [.slice p ks.length cap] ∧ KeepAt W (fun k => W.heap.size ≤ k) p ks := by
  rcases open_ints Try.underlying34 Try.underlying3 cells1.2.2.2.1 h with ⟨rfl, _⟩ | ⟨a, len, cap, zs, rfl, _, hl, hm, hz, _, hc, hw⟩
  · exact ⟨none, [], 0, rfl, fun k hk => absurd hk (by simp), by simp, by simp⟩
  · have hle : len ≤ zs.length := by rw [hz]; split <;> omega
    have hmx : cap ≤ 9223372036854775807 := hm
    have hll : (zs.take len).length = len := by rw [List.length_take]; omega
    refine ⟨some a, zs.take len, cap, by rw [hll], fun k hk => ?_, by omega, fun z hz => ?_⟩
    · rw [hll] at hk
      have h1 := hc k (by omega)
      have h2 := World.block_lt_of_cell? _ _ h1
      rw [show (a.add k).block = a.block by unfold Addr.add; split <;> rfl] at h2
      refine ⟨a, rfl, h2, by omega, ?_⟩
      rw [h1]
      simp [List.getD, List.getElem?_take, hk]
    · exact bounds_i64 (hw z (List.mem_of_mem_take hz))

set_option maxRecDepth 100000 in
theorem open_act {cs : List Value} {x : DataW H × List MemPlace} (h : DataW.trod enc Try.prog W base spare held n 36 cs = some x) :
    ∃ A : ActV, cs = [.int .u8 A.what, .string A.name, .string A.dest, .string A.bytes, .slice A.kp A.keep.length A.kcap] ∧ (0 ≤ A.what ∧ A.what ≤ 255) ∧ A.bytes.size ≤ 9223372036854775807 ∧ KeepAt W (fun k => W.heap.size ≤ k) A.kp A.keep := by
  obtain ⟨xs, m, rfl, rfl, hl, hx, hf⟩ := DataW.trod_struct Try.underlying36 h
  rw [cells1.2.2.2.2] at hl
  match cs, hl with
  | [c0, c1, c2, c3, c4], _ =>
    have hxl : xs.length = 5 := hx
    have f0 := hf 0 _ rfl
    have f1 := hf 1 _ rfl
    have f2 := hf 2 _ rfl
    have f3 := hf 3 _ rfl
    have f4 := hf 4 _ rfl
    simp only [List.getElem_toArray, List.getElem_cons_zero, List.getElem_cons_succ] at f0 f1 f2 f3 f4
    simp only [cells1.1, cells1.2.1, cells1.2.2.1, List.drop_zero, List.drop_succ_cons, List.take_succ_cons, List.take_zero] at f0 f1 f2 f3 f4
    rw [List.getElem?_eq_getElem (by omega)] at f0 f1 f2 f3 f4
    obtain ⟨z, e0, _, w0⟩ := DataW.trod_int Try.underlying5 f0
    obtain ⟨s1, e1, _, w1⟩ := DataW.trod_string Try.underlying9 f1
    obtain ⟨s2, e2, _, w2⟩ := DataW.trod_string Try.underlying9 f2
    obtain ⟨s3, e3, _, w3⟩ := DataW.trod_string Try.underlying9 f3
    obtain ⟨p, ks, cap, e4, hk⟩ := open_keep f4
    cases e0; cases e1; cases e2; cases e3; cases e4
    exact ⟨⟨z, s1, s2, s3, p, cap, ks⟩, rfl, bounds_u8 w0, w3, hk⟩

instance : Inhabited ActV := ⟨⟨0, ⟨#[]⟩, ⟨#[]⟩, ⟨#[]⟩, none, 0, []⟩⟩

theorem open_acts {cs : List Value} {x : DataW H × List MemPlace} (h : DataW.trod enc Try.prog W base spare held n 22 cs = some x) :
    ∃ (p : Option Addr) (l : List ActV) (cap : Nat), cs = [.slice p l.length cap] ∧ ActsAt W (fun k => W.heap.size ≤ k) p l := by
  rcases Deep.open_slice Try.underlying22 h with ⟨rfl, _⟩ | ⟨a, len, cap, m, n', D, Pl, rfl, _, hl, hm, hmm, _, hx⟩
  · exact ⟨none, [], 0, rfl, fun i hi => absurd hi (by simp), by simp⟩
  · have hle : len ≤ m := by rw [hmm]; split <;> omega
    have hmx : cap ≤ 9223372036854775807 := hm
    obtain ⟨f, hf⟩ := Deep.choose_lt (n := len) (p := fun i A => ∃ b o, a.add (i * 5) = ⟨b, o, none⟩ ∧ ActAt W (fun k => W.heap.size ≤ k) b o A) (fun i hi => by
      obtain ⟨cs', h1, h2⟩ := hx i (by omega)
      obtain ⟨A, rfl, hw, hs, hk⟩ := open_act h2
      rw [cells1.2.2.2.2] at h1
      obtain ⟨_, _, hc⟩ := World.cells?_some h1
      have g0 := hc 0 (by omega)
      have g1 := hc 1 (by omega)
      have g2 := hc 2 (by omega)
      have g3 := hc 3 (by omega)
      have g4 := hc 4 (by omega)
      generalize a.add (i * 5) = ad at g0 g1 g2 g3 g4
      obtain ⟨b, o, sp⟩ := ad
      have g0' : W.cell? ⟨b, o, sp⟩ = some (.int .u8 A.what) := g0
      have hsp : sp = none := by
        unfold World.cell? at g0'
        cases hh : W.heap[b]? with
        | none => simp [hh] at g0'
        | some ob =>
          cases ob <;> simp [hh] at g0'
          rcases sp with _ | sp
          · rfl
          · simp at g0'
      subst hsp
      have hlt := World.block_lt_of_cell? _ _ g0'
      exact ⟨A, b, o, rfl, g0', g1, g2, g3, g4, hlt, by show ¬ W.heap.size ≤ b; exact Nat.not_le.2 hlt, hk, hw, hs⟩)
    have hll : ((List.range len).map f).length = len := by simp
    refine ⟨some a, (List.range len).map f, cap, by rw [hll], fun i hi => ?_, by omega⟩
    obtain ⟨b, o, h1, h2⟩ := hf i (by simpa using hi)
    exact ⟨a, b, o, rfl, h1, by simpa using h2⟩
end
end Go.Proofs.Ytjdkhclcempafaa.diskApart
