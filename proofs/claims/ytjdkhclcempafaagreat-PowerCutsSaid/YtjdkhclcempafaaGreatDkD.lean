import Derived.Test.YtjdkhclcempafaaGreatDkC
import Derived.Outline
set_option linter.unusedVariables false
set_option linter.unusedSimpArgs false
namespace Go.Proofs.YtjdkhclcempafaaGreat
open Go.RowKit

/-- what a name is told: 2 no name, 5 no file, 0 -/
def errS (fs : List Ent) (s : ByteArray) : Int := if nameOk s then (if (lookF s fs).isSome then 0 else 5) else 2
def readS (fs : List Ent) (s : ByteArray) : ByteArray := if nameOk s then (match lookF s fs with | some f => f.bytes | none => ⟨#[]⟩) else ⟨#[]⟩
def syncS (fs : List Ent) (s : ByteArray) : Nat := if nameOk s then (match lookF s fs with | some f => f.sync | none => 0) else 0

theorem find_cases (fs : List Ent) (s : ByteArray) : nameOk s = false ∨ (nameOk s = true ∧ lookF s fs = none) ∨ (nameOk s = true ∧ ∃ f, lookF s fs = some f) := by
  cases nameOk s
  · exact .inl rfl
  · cases h : lookF s fs
    · exact .inr (.inl ⟨rfl, rfl⟩)
    · exact .inr (.inr ⟨rfl, _, rfl⟩)

set_option maxHeartbeats 800000 in
theorem read_any {w : World} {a m q : Nat} {fs : List Ent} (h : DiskAt w a m q fs) (s : ByteArray) :
    Calls Tryz.prog 25 #[.pointer (some ⟨a, 0, none⟩), .string s] w (RB (.tuple #[.string (readS fs s), .int .i64 (errS fs s)]) w) := by
  have hD := Lib.hid h; clear h
  rcases find_cases fs s with hs | ⟨hs, hl⟩ | ⟨hs, f, hl⟩
  · have e1 : readS fs s = ⟨#[]⟩ := by simp [readS, hs]
    have e2 : errS fs s = 2 := by simp [errS, hs]
    rw [e1, e2]; clear e1 e2
    have HS := Lib.hid hs; clear hs
    go_enter Tryz.func25, Tryz.ntmps25
    go_wp2_with fail
    refine (find_bad hD.out s HS.out).mono ?_
    rintro e w' ⟨rfl, hB⟩
    go_wp2_with fail
    go_ret2
    exact ⟨rfl, hB⟩
  · have e1 : readS fs s = ⟨#[]⟩ := by simp [readS, hl]
    have e2 : errS fs s = 5 := by simp [errS, hs, hl]
    rw [e1, e2]; clear e1 e2
    have HS := Lib.hid hs; clear hs
    have HL := Lib.hid hl; clear hl
    go_enter Tryz.func25, Tryz.ntmps25
    go_wp2_with fail
    refine (find_none hD.out s HS.out HL.out).mono ?_
    rintro e w' ⟨rfl, hB⟩
    go_wp2_with fail
    go_ret2
    exact ⟨rfl, hB⟩
  · have e1 : readS fs s = f.bytes := by simp [readS, hs, hl]
    have e2 : errS fs s = 0 := by simp [errS, hs, hl]
    rw [e1, e2]; clear e1 e2
    have HS := Lib.hid hs; clear hs
    have HL := Lib.hid hl; clear hl
    go_enter Tryz.func25, Tryz.ntmps25
    go_wp2_with fail
    refine (find_some hD.out s HS.out f HL.out).mono ?_
    rintro e w' ⟨rfl, hB⟩
    have hc := (hD.out.below hB).b0 (lookF_mem HL.out).1
    go_wp2_with fail
    go_ret2
    exact ⟨rfl, hB⟩

set_option maxHeartbeats 800000 in
theorem synced_any {w : World} {a m q : Nat} {fs : List Ent} (h : DiskAt w a m q fs) (s : ByteArray) :
    Calls Tryz.prog 26 #[.pointer (some ⟨a, 0, none⟩), .string s] w (RB (.int .i64 (syncS fs s : Int)) w) := by
  have hD := Lib.hid h; clear h
  rcases find_cases fs s with hs | ⟨hs, hl⟩ | ⟨hs, f, hl⟩
  · have e1 : syncS fs s = 0 := by simp [syncS, hs]
    rw [e1]; clear e1
    have HS := Lib.hid hs; clear hs
    go_enter Tryz.func26, Tryz.ntmps26
    go_wp2_with fail
    refine (find_bad hD.out s HS.out).mono ?_
    rintro e w' ⟨rfl, hB⟩
    go_wp2_with fail
    go_ret
    exact ⟨rfl, hB⟩
  · have e1 : syncS fs s = 0 := by simp [syncS, hl]
    rw [e1]; clear e1
    have HS := Lib.hid hs; clear hs
    have HL := Lib.hid hl; clear hl
    go_enter Tryz.func26, Tryz.ntmps26
    go_wp2_with fail
    refine (find_none hD.out s HS.out HL.out).mono ?_
    rintro e w' ⟨rfl, hB⟩
    go_wp2_with fail
    go_ret
    exact ⟨rfl, hB⟩
  · have e1 : syncS fs s = f.sync := by simp [syncS, hs, hl]
    rw [e1]; clear e1
    have HS := Lib.hid hs; clear hs
    have HL := Lib.hid hl; clear hl
    go_enter Tryz.func26, Tryz.ntmps26
    go_wp2_with fail
    refine (find_some hD.out s HS.out f HL.out).mono ?_
    rintro e w' ⟨rfl, hB⟩
    have hc := (hD.out.below hB).b1 (lookF_mem HL.out).1
    go_wp2_with fail
    go_ret
    exact ⟨rfl, hB⟩
end Go.Proofs.YtjdkhclcempafaaGreat
