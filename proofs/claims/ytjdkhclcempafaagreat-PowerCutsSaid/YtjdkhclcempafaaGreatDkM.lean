import Derived.Test.YtjdkhclcempafaaGreatDkL
import Derived.Deep.RegionHeld3
import Derived.Outline
import Derived.BigQuiet
import Derived.Deep.QuietTactic
set_option linter.unusedVariables false
set_option linter.unusedSimpArgs false
namespace Go.Proofs.YtjdkhclcempafaaGreat
open Go.RowKit

def appG (s : ByteArray) (f : Ent) : Ent := { f with bytes := f.bytes ++ s }
def appendE (q : Nat) (fs : List Ent) (s b : ByteArray) : Int :=
  if nameOk s then (match lookF s fs with | none => 5 | some f => if 65536 < b.size + f.bytes.size ∨ q < b.size + usedF fs then 7 else 0) else 2
def appendR (q : Nat) (s b : ByteArray) (fs : List Ent) : List Ent := if appendE q fs s b = 0 then setF s (appG b) fs else fs

theorem wrap_small' {x : Int} (h0 : -9223372036854775808 ≤ x) (h1 : x ≤ 9223372036854775807) : IntKind.i64.wrap x = x := IntWalk.i64_in _ (by omega)
theorem belowN {B : Nat} {w W : World} (h : Below B w W) (n : Nat) : Below B w (W.drewN n) := ⟨h.os, h.tape, h.output, h.size, h.block⟩
theorem sapp1 {W W' w0 : World} {a m q : Nat} {fs : List Ent} {f : Ent} (hf : f ∈ fs)
    (h : W.cell? ⟨a, 0, none⟩ = some (.int .i64 (q : Int)) ∧ W.cell? ⟨f.blk, 0, none⟩ = some (.string f.bytes) ∧ Hid (DiskAt W a m q fs ∧ Below w0.heap.size w0 W))
    (hB : Below W.heap.size W W') : W'.cell? ⟨a, 0, none⟩ = some (.int .i64 (q : Int)) ∧ W'.cell? ⟨f.blk, 0, none⟩ = some (.string f.bytes) ∧ Hid (DiskAt W' a m q fs ∧ Below w0.heap.size w0 W') := by
  have hd := h.2.2.out.1.below hB
  exact ⟨hd.c0, hd.b0 hf, hd, h.2.2.out.2.trans (hB.mono h.2.2.out.2.size)⟩
theorem sapp0 {W : World} {a m q : Nat} {fs : List Ent} {f : Ent} (hf : f ∈ fs) (h : DiskAt W a m q fs) :
    W.drew.cell? ⟨a, 0, none⟩ = some (.int .i64 (q : Int)) ∧ W.drew.cell? ⟨f.blk, 0, none⟩ = some (.string f.bytes) ∧ Hid (DiskAt W.drew a m q fs ∧ Below W.heap.size W W.drew) :=
  ⟨h.c0, h.b0 hf, h.kept (fun _ _ => rfl), (Below.refl _ _).drew⟩

set_option maxHeartbeats 1600000 in
theorem append_any {w : World} {a m q : Nat} {fs : List Ent} (h : DiskAt w a m q fs) (s b : ByteArray) (hb : b.size ≤ 9223372036854775807) :
    Calls Tryz.prog 36 #[.pointer (some ⟨a, 0, none⟩), .string s, .string b] w (DPost (.int .i64 (appendE q fs s b)) a m q fs (appendR q s b fs) w) := by
  have hD := Lib.hid h; clear h
  rcases find_cases fs s with hs | ⟨hs, hl⟩ | ⟨hs, f, hl⟩
  · have e2 : appendE q fs s b = 2 := by simp [appendE, hs]
    have e1 : appendR q s b fs = fs := by simp [appendR, e2]
    rw [e1, e2]; clear e1 e2
    have HS := Lib.hid hs; clear hs
    go_enter Tryz.func36, Tryz.ntmps36
    go_wp2_with fail
    refine (find_bad hD.out s HS.out).mono ?_
    rintro e w' ⟨rfl, hB⟩
    go_wp2_with fail
    go_ret
    exact DPost.same hD.out rfl hB
  · have e2 : appendE q fs s b = 5 := by simp [appendE, hs, hl]
    have e1 : appendR q s b fs = fs := by simp [appendR, e2]
    rw [e1, e2]; clear e1 e2
    have HS := Lib.hid hs; clear hs
    have HL := Lib.hid hl; clear hl
    go_enter Tryz.func36, Tryz.ntmps36
    go_wp2_with fail
    refine (find_none hD.out s HS.out HL.out).mono ?_
    rintro e w' ⟨rfl, hB⟩
    go_wp2_with fail
    go_ret
    exact DPost.same hD.out rfl hB
  · have hf := (lookF_mem hl).1
    have hsz := hD.out.ok.size f hf
    have hus := hD.out.ok.used
    have hq := hD.out.ok.q2
    have HS := Lib.hid hs; clear hs
    have HL := Lib.hid hl; clear hl
    have HF := Lib.hid hf; clear hf
    by_cases h1 : 65536 < b.size + f.bytes.size
    · have e2 : appendE q fs s b = 7 := by simp [appendE, HS.out, HL.out, h1]
      have e1 : appendR q s b fs = fs := by simp [appendR, e2]
      rw [e1, e2]; clear e1 e2
      go_enter Tryz.func36, Tryz.ntmps36
      go_wp2_with fail
      refine (find_some hD.out s HS.out f HL.out).mono ?_
      rintro e w' ⟨rfl, hB⟩
      have HD := Lib.hid (hD.out.below hB)
      have hc := HD.out.b0 HF.out
      have hd : decide ((65536 : Int) - f.bytes.size < b.size) = true := by simp; omega
      go_wp2_with fail
      have hw1 : IntKind.i64.wrap ((65536 : Int) - f.bytes.size) = 65536 - f.bytes.size := wrap_small' (by omega) (by omega)
      go_quiet (fail)
      go_wp2_with fail
      go_ret
      exact DPost.same hD.out rfl (hB.trans (belowN (Below.refl _ _) nq))
    · have hd1 : decide ((65536 : Int) - f.bytes.size < b.size) = false := by simp; omega
      by_cases h2 : q < b.size + usedF fs
      · have e2 : appendE q fs s b = 7 := by simp [appendE, HS.out, HL.out, h2]
        have e1 : appendR q s b fs = fs := by simp [appendR, e2]
        rw [e1, e2]; clear e1 e2
        go_enter Tryz.func36, Tryz.ntmps36
        go_wp2_with fail
        refine (find_some hD.out s HS.out f HL.out).mono ?_
        rintro e w' ⟨rfl, hB⟩
        have HD := Lib.hid (hD.out.below hB)
        have hc := HD.out.b0 HF.out
        have hc0 := HD.out.c0
        have hd : decide ((q : Int) - usedF fs < b.size) = true := by simp; omega
        go_wp2_with fail
        have hw1 : IntKind.i64.wrap ((65536 : Int) - f.bytes.size) = 65536 - f.bytes.size := wrap_small' (by omega) (by omega)
        have hw2 : IntKind.i64.wrap ((q : Int) - usedF fs) = q - usedF fs := wrap_small' (by omega) (by omega)
        have HS0 := Lib.hid (sapp0 HF.out HD.out)
        go_region_held3 (fun W => W.cell? ⟨a, 0, none⟩ = some (.int .i64 (q : Int)) ∧ W.cell? ⟨f.blk, 0, none⟩ = some (.string f.bytes) ∧ Hid (DiskAt W a m q fs ∧ Below w'.heap.size w' W)) (first | exact HS0.out | exact sapp1 HF.out HS0.out hB2)
          ((go_at_call 50; refine (used_any HS0.out.2.2.out.1).mono ?_; rintro e w2 ⟨rfl, hB2⟩))
        go_wp2_with fail
        go_ret
        exact DPost.same hD.out rfl (hB.trans (((Below.refl _ _).drew.trans (hB2.mono (Nat.le_refl _))).mono hB.size))
      · have e2 : appendE q fs s b = 0 := by simp only [appendE, HS.out, HL.out, if_true]; rw [if_neg (by omega)]
        have e1 : appendR q s b fs = setF s (appG b) fs := by simp [appendR, e2]
        rw [e1, e2]; clear e1 e2
        go_enter Tryz.func36, Tryz.ntmps36
        go_wp2_with fail
        refine (find_some hD.out s HS.out f HL.out).mono ?_
        rintro e w' ⟨rfl, hB⟩
        have HD := Lib.hid (hD.out.below hB)
        have hc := HD.out.b0 HF.out
        have hc0 := HD.out.c0
        have hd : decide ((q : Int) - usedF fs < b.size) = false := by simp; omega
        go_wp2_with fail
        have hw1 : IntKind.i64.wrap ((65536 : Int) - f.bytes.size) = 65536 - f.bytes.size := wrap_small' (by omega) (by omega)
        have hw2 : IntKind.i64.wrap ((q : Int) - usedF fs) = q - usedF fs := wrap_small' (by omega) (by omega)
        have HS0 := Lib.hid (sapp0 HF.out HD.out)
        go_region_held3 (fun W => W.cell? ⟨a, 0, none⟩ = some (.int .i64 (q : Int)) ∧ W.cell? ⟨f.blk, 0, none⟩ = some (.string f.bytes) ∧ Hid (DiskAt W a m q fs ∧ Below w'.heap.size w' W)) (first | exact HS0.out | exact sapp1 HF.out HS0.out hB2)
          ((go_at_call 50; refine (used_any HS0.out.2.2.out.1).mono ?_; rintro e w2 ⟨rfl, hB2⟩))
        have HD2 := Lib.hid ((HS0.out.2.2.out.1).below hB2)
        have hc2 := HD2.out.b0 HF.out
        have hfz := frozen_of_heap (HD2.out.files f HF.out) 0
        go_wp2_with fail
        go_ret
        refine ⟨rfl, HD2.out.set HL.out (fun _ => rfl) (fun _ => rfl) (by rw [heap_setCell_at (HD2.out.files f HF.out)]; rfl) (fun k _ hk => Below.heap_setCell _ _ _ _ hk)
          (HD2.out.ok.set HL.out (fun _ => rfl) (fun _ => rfl) (by show (f.bytes ++ b).size ≤ _; rw [ByteArray.size_append]; omega)
            (by have := HD2.out.ok.sync f HF.out; show f.sync ≤ (f.bytes ++ b).size; rw [ByteArray.size_append]; omega)
            (by show usedF fs + (f.bytes ++ b).size ≤ _; rw [ByteArray.size_append]; omega)), ?_⟩
        exact ((Chg.of_below (hB.trans (((Below.refl _ _).drew.trans (hB2.mono (Nat.le_refl _))).mono hB.size)))).setCell (fun _ => .inr (.inr ⟨f, HF.out, rfl⟩)) _
end Go.Proofs.YtjdkhclcempafaaGreat
