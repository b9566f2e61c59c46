/- PowerCuts returns true for every fuse, every list of numbers to keep and every list of acts: a disk behind a fuse ends as one without a fuse, on which just the writes ahead of the fuse's were done (and that one, if the first number is odd), and which crashed then. Conditions: none. -/
import Derived.Test.YtjdkhclcempafaaGreatDkPv
import Derived.Test.YtjdkhclcempafaaGreatRows
import Derived.OpenShut
import Derived.Deep.Slices
import Derived.Carry
import Derived.WalkKit
import Derived.ProofKit
import Derived.Lib.SmallJoins
set_option linter.unusedVariables false
set_option linter.unusedSimpArgs false
namespace Go.Proofs.YtjdkhclcempafaaGreat.powerCuts
open Go.ChangeShapes Go.WideShapes Go.ChangeAt Go.RowKit Go.Proofs.YtjdkhclcempafaaGreat
open Go.ChangeMaps (open_string shut_string)

theorem own : ownKnob Tryz.prog.godebug = none := by kernel_rfl
theorem cells1 : Tryz.prog.cellsOf 5 = 1 ∧ Tryz.prog.cellsOf 9 = 1 ∧ Tryz.prog.cellsOf 3 = 1 ∧ Tryz.prog.cellsOf 28 = 3 := by
  refine ⟨?_, ?_, ?_, ?_⟩ <;> kernel_rfl

section
variable {H : Type} {enc : TypeId × Value → H} {W : World} {base : Nat} {spare : Nat → Bool} {held : Bool} {n : Nat}

theorem plain_addr {W : World} {b o : Nat} {sp} {v : Value} (h : W.cell? ⟨b, o, sp⟩ = some v) : sp = none := by
  unfold World.cell? at h
  cases hh : W.heap[b]? with
  | none => simp [hh] at h
  | some ob =>
    cases ob <;> simp [hh] at h
    rcases sp with _ | sp
    · rfl
    · simp at h
theorem open_keep {cs : List Value} {x : DataW H × List MemPlace} (h : DataW.trod enc Tryz.prog W base spare held n 22 cs = some x) :
    ∃ (p : Option Addr) (ks : List Int) (cap : Nat), cs = [.slice p ks.length cap] ∧ (∀ x ∈ ks, -9223372036854775808 ≤ x ∧ x ≤ 9223372036854775807) ∧
      (ks = [] ∨ ∃ b off, p = some ⟨b, off, none⟩ ∧ ∀ j, j < ks.length → W.cell? ⟨b, off + j, none⟩ = some (.int .i64 (ks.getD j 0))) := by
  rcases open_ints Tryz.underlying22 Tryz.underlying3 cells1.2.2.1 h with ⟨rfl, _⟩ | ⟨a, len, cap, zs, rfl, _, hl, hm, hz, _, hc, hw⟩
  · exact ⟨none, [], 0, rfl, by simp, .inl rfl⟩
  · have hle : len ≤ zs.length := by rw [hz]; split <;> omega
    have hll : (zs.take len).length = len := by rw [List.length_take]; omega
    refine ⟨some a, zs.take len, cap, by rw [hll], fun z hz => bounds_i64 (hw z (List.mem_of_mem_take hz)), ?_⟩
    by_cases h0 : len = 0
    · exact .inl (List.eq_nil_of_length_eq_zero (by omega))
    · obtain ⟨b, o, sp⟩ := a
      have hsp : sp = none := by
        have h1 := hc 0 (by omega)
        rcases sp with _ | sp
        · rfl
        · have e : (⟨b, o, some sp⟩ : Addr).add 0 = ⟨b, o, some sp⟩ := by simp [Addr.add]
          rw [e] at h1
          exact absurd (plain_addr h1) (by simp)
      subst hsp
      refine .inr ⟨b, o, rfl, fun k hk => ?_⟩
      rw [hll] at hk
      have h1 := hc k (by omega)
      rw [Addr.add_lit] at h1
      rw [h1]
      simp [List.getD, List.getElem?_take, hk]

set_option maxRecDepth 100000 in
theorem open_act {cs : List Value} {x : DataW H × List MemPlace} (h : DataW.trod enc Tryz.prog W base spare held n 28 cs = some x) :
    ∃ A : PAct, cs = [.int .u8 A.what, .string A.name, .string A.other] ∧ (0 ≤ A.what ∧ A.what ≤ 255) ∧ A.other.size ≤ 9223372036854775807 := by
  obtain ⟨xs, m, rfl, rfl, hl, hx, hf⟩ := DataW.trod_struct Tryz.underlying28 h
  rw [cells1.2.2.2] at hl
  match cs, hl with
  | [c0, c1, c2], _ =>
    have hxl : xs.length = 3 := hx
    have f0 := hf 0 _ rfl
    have f1 := hf 1 _ rfl
    have f2 := hf 2 _ rfl
    simp only [List.getElem_toArray, List.getElem_cons_zero, List.getElem_cons_succ] at f0 f1 f2
    simp only [cells1.1, cells1.2.1, List.drop_zero, List.drop_succ_cons, List.take_succ_cons, List.take_zero] at f0 f1 f2
    rw [List.getElem?_eq_getElem (by omega)] at f0 f1 f2
    obtain ⟨z, e0, _, w0⟩ := DataW.trod_int Tryz.underlying5 f0
    obtain ⟨s1, e1, _, w1⟩ := DataW.trod_string Tryz.underlying9 f1
    obtain ⟨s2, e2, _, w2⟩ := DataW.trod_string Tryz.underlying9 f2
    cases e0; cases e1; cases e2
    exact ⟨⟨z, s1, s2⟩, rfl, bounds_u8 w0, w2⟩

instance : Inhabited PAct := ⟨⟨0, ⟨#[]⟩, ⟨#[]⟩⟩⟩

theorem open_acts {cs : List Value} {x : DataW H × List MemPlace} (h : DataW.trod enc Tryz.prog W base spare held n 23 cs = some x) :
    ∃ (p : Option Addr) (l : List PAct) (cap : Nat), cs = [.slice p l.length cap] ∧ PActsAt W (fun k => W.heap.size ≤ k) p l := by
  rcases Deep.open_slice Tryz.underlying23 h with ⟨rfl, _⟩ | ⟨a, len, cap, m, n', D, Pl, rfl, _, hl, hm, hmm, _, hx⟩
  · exact ⟨none, [], 0, rfl, fun i hi => absurd hi (by simp), by simp⟩
  · have hle : len ≤ m := by rw [hmm]; split <;> omega
    have hmx : cap ≤ 9223372036854775807 := hm
    obtain ⟨f, hf⟩ := Deep.choose_lt (n := len) (p := fun i A => ∃ b o, a.add (i * 3) = ⟨b, o, none⟩ ∧ PActAt W (fun k => W.heap.size ≤ k) b o A) (fun i hi => by
      obtain ⟨cs', h1, h2⟩ := hx i (by omega)
      obtain ⟨A, rfl, hw, hs⟩ := open_act h2
      rw [cells1.2.2.2] at h1
      obtain ⟨_, _, hc⟩ := World.cells?_some h1
      have g0 := hc 0 (by omega)
      have g1 := hc 1 (by omega)
      have g2 := hc 2 (by omega)
      generalize a.add (i * 3) = ad at g0 g1 g2
      obtain ⟨b, o, sp⟩ := ad
      have g0' : W.cell? ⟨b, o, sp⟩ = some (.int .u8 A.what) := g0
      have hsp := plain_addr g0'
      subst hsp
      have hlt := World.block_lt_of_cell? _ _ g0'
      exact ⟨A, b, o, rfl, g0', g1, g2, hlt, by show ¬ W.heap.size ≤ b; exact Nat.not_le.2 hlt, hw, hs⟩)
    have hll : ((List.range len).map f).length = len := by simp
    refine ⟨some a, (List.range len).map f, cap, by rw [hll], fun i hi => ?_, by omega⟩
    obtain ⟨b, o, h1, h2⟩ := hf i (by simpa using hi)
    exact ⟨a, b, o, rfl, h1, by simpa using h2⟩
end

theorem laid : laidOutB Tryz.prog = true := by kernel_rfl
theorem rec3 : Tryz.prog.readableRec 5 = true ∧ Tryz.prog.readableRec 22 = true ∧ Tryz.prog.readableRec 23 = true := by
  refine ⟨?_, ?_, ?_⟩ <;> kernel_rfl
theorem row3 : 5 < Tryz.prog.types.size ∧ 22 < Tryz.prog.types.size ∧ 23 < Tryz.prog.types.size := by
  refine ⟨?_, ?_, ?_⟩ <;> exact of_decide_eq_true (by kernel_rfl)

set_option maxRecDepth 20000 in
theorem contract (H : Type) (enc : TypeId × Value → H) (W : World) (base : Nat) (args : Array Value) (ds gs : List (DataW H)) (before : List MemPlace)
    (hval : ∀ (j : Nat) t v, Tryz.f3.params[j]? = some t → args[j]? = some v → Value.okWide Tryz.prog W .any base t v)
    (hW : DataW.Whole enc Tryz.prog Tryz.f3.params.toList Rows.powerCutsSpec.vars false W args.toList ds gs before) :
    Calls Tryz.prog 3 args W fun e W' => ∃ v, e = .returned v ∧ Rows.powerCutsSpec.post enc Tryz.prog Tryz.f3 false true false false W args v W' := by
  have hW' := hW
  have hlt := hW.lt
  obtain ⟨p, q, hA0, hV, rfl, hfz, hnd⟩ := hW
  have hA : DataW.TrodAll enc Tryz.prog W 0 (fun _ => true) true Tryz.f3.params.toList args.toList ds p := hA0
  rw [Tryz.params3] at hA hval
  obtain ⟨v0, vs0, d0, ds0, p0, q0, hargs, rfl, rfl, h0, r0⟩ := trodAll_cons hA
  obtain ⟨v1, vs1, d1, ds1, p1, q1, rfl, rfl, rfl, h1, r1⟩ := trodAll_cons r0
  obtain ⟨v2, vs2, d2, ds2, p2, q2, rfl, rfl, rfl, h2, r2⟩ := trodAll_cons r1
  obtain ⟨rfl, rfl, rfl⟩ := trodAll_nil r2
  obtain rfl : args = #[v0, v1, v2] := by cases args; simp_all
  obtain ⟨rfl, rfl⟩ := trodVars_none hV
  have g0 := h0
  have g1 := h1
  have g2 := h2
  obtain ⟨a0, rfl, rfl, rfl, w0⟩ := open_int Tryz.underlying5 (hval 0 5 v0 rfl rfl) h0
  obtain ⟨kp, ks, kcap, rfl, hkeep⟩ : ∃ (kp : Option Addr) (ks : List Int) (kcap : Nat), v1 = .slice kp ks.length kcap ∧ ((∀ x ∈ ks, -9223372036854775808 ≤ x ∧ x ≤ 9223372036854775807) ∧
      (ks = [] ∨ ∃ b off, kp = some ⟨b, off, none⟩ ∧ ∀ j, j < ks.length → W.cell? ⟨b, off + j, none⟩ = some (.int .i64 (ks.getD j 0)))) := by
    obtain ⟨fuel, hf⟩ := h1
    obtain ⟨pp, l, cap, hc, ha, hb⟩ := open_keep hf
    obtain ⟨x, y, z, rfl⟩ := okWide_slice Tryz.underlying22 (hval 1 22 v1 rfl rfl)
    have : [Value.slice x y z] = [.slice pp l.length cap] := hc
    exact ⟨pp, l, cap, by simpa using this, ha, hb⟩
  obtain ⟨pp, l, cap, rfl, hacts⟩ : ∃ (pp : Option Addr) (l : List PAct) (cap : Nat), v2 = .slice pp l.length cap ∧ PActsAt W (fun k => W.heap.size ≤ k) pp l := by
    obtain ⟨fuel, hf⟩ := h2
    obtain ⟨pp, l, cap, hc, ha⟩ := open_acts hf
    obtain ⟨x, y, z, rfl⟩ := okWide_slice Tryz.underlying23 (hval 2 23 v2 rfl rfl)
    have : [Value.slice x y z] = [.slice pp l.length cap] := hc
    exact ⟨pp, l, cap, by simpa using this, ha⟩
  clear hA0
  refine (cuts_any W a0 (bounds_u8 w0) kp kcap ks hkeep pp cap l hacts).mono fun e W' ⟨he, hB⟩ => ?_
  subst he
  refine ⟨_, rfl, _, _, _, [], [] ++ (p1 ++ (p2 ++ [])), [], hW', ?_, ?_, ?_, hB.frame _, fun h => by cases h⟩
  · exact trodAll_cons_mk (shut_bool Tryz.underlying4 _) trodAll_mk0
  · refine trodAll_cons_mk (Below.trod laid rec3.1 row3.1 g0 hB (fun x hx => absurd hx (by simp))) (trodAll_cons_mk (Below.trod laid rec3.2.1 row3.2.1 g1 hB (fun x hx => hlt x (by simp [hx]))) (trodAll_cons_mk (Below.trod laid rec3.2.2 row3.2.2 g2 hB (fun x hx => hlt x (by simp [hx]))) trodAll_mk0))
  · rfl

set_option maxRecDepth 100000 in
theorem lifted (os : Os) (started : os.Started) (H : Type) (enc : TypeId × Value → H) :
    ReturnsInHanded {} Tryz.checked os 3 .any (Rows.powerCutsSpec.pre6 enc Tryz.prog Tryz.f3 Rows.powerCutsRow.domain false) (Rows.powerCutsSpec.post enc Tryz.prog Tryz.f3 false true false false) := by
  refine returnsInHanded_of_change (C := Tryz.checked) (s := Rows.powerCutsSpec) own started (by kernel_rfl) Tryz.func3
    (ChangeSpec.witness6 (enc := enc) (C := Tryz.checked) (s := Rows.powerCutsSpec) false ⟨#[], #[.int .u8 0, .slice none 0 0, .slice none 0 0], []⟩ 8 (by kernel_rfl) (by kernel_rfl) (by kernel_rfl) (by kernel_rfl)) ?_
  intro W base args ds gs before hval hW _ _
  exact contract H enc W base args ds gs before hval hW

theorem proved : Rows.PowerCutsSaid :=
  OpenClaim.holds_of_wide 3 Tryz.f3 rfl rfl rfl rfl rfl rfl rfl ⟨rfl, rfl, rfl, rfl, rfl⟩ rfl rfl rfl rfl rfl (by kernel_rfl) Tryz.func3 (by kernel_rfl)
    (of_decide_eq_true (by kernel_rfl)) (by unfold Func.isWrapper; first | (rw [if_pos (by decide +kernel)]; kernel_rfl) | (rw [if_neg (by decide +kernel)]; exact ⟨rfl, rfl⟩))
    (fun os started H enc _ => lifted os started H enc)
end Go.Proofs.YtjdkhclcempafaaGreat.powerCuts
