import Derived.Test.YtjdkhclcempafaaGreatDkPp
import Derived.Test.YtjdkhclcempafaaGreatDkPl0
import Derived.Deep.RegionHeld3
import Derived.BigQuiet
import Derived.Deep.QuietTactic
import Derived.Deep.DeepCutAuto
set_option linter.unusedVariables false
set_option linter.unusedSimpArgs false
namespace Go.Proofs.YtjdkhclcempafaaGreat
open Go.RowKit Go.Shelf Go.Sort Go.Maps

/-! ### acts in memory -/
structure PActAt (w : World) (S : Nat → Prop) (b o : Nat) (A : PAct) : Prop where
  c0 : w.cell? ⟨b, o, none⟩ = some (.int .u8 A.what)
  c1 : w.cell? ⟨b, o + 1, none⟩ = some (.string A.name)
  c2 : w.cell? ⟨b, o + 2, none⟩ = some (.string A.other)
  lt : b < w.heap.size
  off : ¬ S b
  wh : 0 ≤ A.what ∧ A.what ≤ 255
  sz : A.other.size ≤ 9223372036854775807
def PActsAt (w : World) (S : Nat → Prop) (p : Option Addr) (l : List PAct) : Prop :=
  (∀ i (h : i < l.length), ∃ ad b o, p = some ad ∧ ad.add (i * 3) = ⟨b, o, none⟩ ∧ PActAt w S b o l[i]) ∧ l.length ≤ 9223372036854775807
theorem PActAt.chg {w w' : World} {S : Nat → Prop} {b o : Nat} {A : PAct} (h : PActAt w S b o A) (hc : Chg S w w') : PActAt w' S b o A := by
  have key : ∀ k, w'.cell? ⟨b, k, none⟩ = w.cell? ⟨b, k, none⟩ := fun k => World.cell?_of_block (hc.block _ h.lt h.off)
  exact ⟨(key _).trans h.c0, (key _).trans h.c1, (key _).trans h.c2, Nat.lt_of_lt_of_le h.lt hc.size, h.off, h.wh, h.sz⟩
theorem PActsAt.chg {w w' : World} {S : Nat → Prop} {p : Option Addr} {l : List PAct} (h : PActsAt w S p l) (hc : Chg S w w') : PActsAt w' S p l :=
  ⟨fun i hi => let ⟨ad, b, o, hp, ho, ha⟩ := h.1 i hi; ⟨ad, b, o, hp, ho, ha.chg hc⟩, h.2⟩
theorem PActsAt.mono {w : World} {S T : Nat → Prop} {p : Option Addr} {l : List PAct} (h : PActsAt w S p l) (hs : ∀ k, k < w.heap.size → T k → S k) : PActsAt w T p l :=
  ⟨fun i hi => let ⟨ad, b, o, hp, ho, ha⟩ := h.1 i hi; ⟨ad, b, o, hp, ho, ha.c0, ha.c1, ha.c2, ha.lt, fun ht => ha.off (hs _ ha.lt ht), ha.wh, ha.sz⟩, h.2⟩
theorem PActsAt.take {w : World} {S : Nat → Prop} {p : Option Addr} {l : List PAct} (h : PActsAt w S p l) (n : Nat) : PActsAt w S p (l.take n) :=
  ⟨fun i hi => by
    have hi' : i < l.length := by rw [List.length_take] at hi; omega
    obtain ⟨ad, b, o, hp, ho, ha⟩ := h.1 i hi'
    exact ⟨ad, b, o, hp, ho, by simpa using ha⟩, by have := h.2; rw [List.length_take]; omega⟩

/-! ### few -/
def FewP (l : List PAct) (w : World) (e : Ending) (w' : World) : Prop := ∃ b : Bool, e = .returned (.bool b) ∧ (b = true → l.length ≤ 80) ∧ w = w'
set_option maxHeartbeats 1000000 in
set_option maxRecDepth 20000 in
theorem pfew_any (w : World) (S : Nat → Prop) (p : Option Addr) (cap : Nat) (l : List PAct) (h : PActsAt w S p l) :
    Calls Tryz.prog 4 #[.slice p l.length cap] w (FewP l w) := by
  have HL := Lib.hid h; clear h
  have hlm := HL.out.2
  go_enter Tryz.func4, Tryz.ntmps4
  go_wp2
  go_loop [3] (fun i => ∃ k : Nat, k ≤ l.length ∧ k ≤ 90 ∧ i = .int .i64 k) (fun i => 90 - (intOf i).toNat)
  case atStart => exact ⟨0, Nat.zero_le _, Nat.zero_le _, rfl⟩
  case round =>
    obtain ⟨k, hk, hk2, rfl⟩ := hrel
    by_cases hlt : k < l.length
    · by_cases h120 : k < 90
      · obtain ⟨ad, b, o, hp, hadd, ha⟩ := HL.out.1 k hlt
        subst hp
        have h1 := ha.c1
        have h2 := ha.c2
        generalize l[k] = A at ha h1 h2
        have HA := Lib.hid ha; clear ha
        by_cases t1 : (2000 : Int) < A.name.size
        · have d1 : decide ((2000 : Int) < A.name.size) = true := by simpa using t1
          go_wp2
          go_ret
          exact ⟨false, rfl, by simp, rfl⟩
        · have d1 : decide ((2000 : Int) < A.name.size) = false := by simpa using t1
          by_cases t2 : (2000 : Int) < A.other.size
          · have d2 : decide ((2000 : Int) < A.other.size) = true := by simpa using t2
            go_wp2
            go_ret
            exact ⟨false, rfl, by simp, rfl⟩
          · have d2 : decide ((2000 : Int) < A.other.size) = false := by simpa using t2
            go_wp2
            go_round
            case rel => exact ⟨k + 1, by omega, by omega, by go_num⟩
            case measure => simp [intOf]; omega
      · go_wp2
        go_ret
        exact ⟨_, rfl, fun h => by simp at h; omega, rfl⟩
    · go_wp2
      go_ret
      exact ⟨_, rfl, fun h => by simp at h; omega, rfl⟩
theorem pwrites_act (A : PAct) (w : World) (hw : 0 ≤ A.what ∧ A.what ≤ 255) :
    Calls Tryz.prog 6 #[.agg #[.int .u8 A.what, .string A.name, .string A.other]] w (RB (.bool A.writes) w) := by
  have hB : Below w.heap.size w (w.alloc (.cells #[.int .u8 A.what, .string A.name, .string A.other] 28)) := (Below.refl _ _).alloc (Nat.le_refl _) _
  have HB := Lib.hid hB; clear hB
  go_enter Tryz.func6, Tryz.ntmps6
  have h8 : A.what.tmod 8 = A.what % 8 := Int.tmod_eq_emod_of_nonneg (by omega)
  go_wp2_with fail
  go_ret
  exact ⟨rfl, HB.out⟩
end Go.Proofs.YtjdkhclcempafaaGreat
