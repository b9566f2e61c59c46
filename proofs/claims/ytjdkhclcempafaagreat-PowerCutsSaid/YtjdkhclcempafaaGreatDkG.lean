import Derived.Test.YtjdkhclcempafaaGreatDkF
import Derived.Outline
set_option linter.unusedVariables false
set_option linter.unusedSimpArgs false
namespace Go.Proofs.YtjdkhclcempafaaGreat
open Go.RowKit

def createE (fs : List Ent) (s : ByteArray) : Int := if nameOk s then (if (lookF s fs).isSome then 6 else if 64 ≤ fs.length then 7 else 0) else 2
def createR (b : Nat) (s : ByteArray) (fs : List Ent) : List Ent := if createE fs s = 0 then putF ⟨s, b, ⟨#[]⟩, 0⟩ fs else fs
/-- as DPost; the new file's block is any new one -/
def CPost (v : Value) (a m q : Nat) (fs : List Ent) (r : Nat → List Ent) (w : World) (e : Ending) (w' : World) : Prop :=
  ∃ b, w.heap.size ≤ b ∧ e = .returned v ∧ DiskAt w' a m q (r b) ∧ Chg (foot a m fs) w w'
theorem CPost.same {v : Value} {a m q : Nat} {fs : List Ent} {r : Nat → List Ent} {w : World} (h : DiskAt w a m q fs) (hr : ∀ b, r b = fs) {e : Ending} {w' : World} (he : e = .returned v) (hB : Below w.heap.size w w') : CPost v a m q fs r w e w' :=
  ⟨w.heap.size, Nat.le_refl _, he, by rw [hr]; exact h.below hB, Chg.of_below hB⟩

set_option maxHeartbeats 1600000 in
theorem create_any {w : World} {a m q : Nat} {fs : List Ent} (h : DiskAt w a m q fs) (s : ByteArray) :
    Calls Tryz.prog 34 #[.pointer (some ⟨a, 0, none⟩), .string s] w (CPost (.int .i64 (createE fs s)) a m q fs (fun b => createR b s fs) w) := by
  have hD := Lib.hid h; clear h
  rcases find_cases fs s with hs | ⟨hs, hl⟩ | ⟨hs, f, hl⟩
  · have e2 : createE fs s = 2 := by simp [createE, hs]
    have e1 : ∀ b, createR b s fs = fs := fun b => by simp [createR, e2]
    rw [e2]; clear e2
    have E1 := Lib.hid e1; clear e1
    have HS := Lib.hid hs; clear hs
    go_enter Tryz.func34, Tryz.ntmps34
    go_wp2_with fail
    refine (find_bad hD.out s HS.out).mono ?_
    rintro e w' ⟨rfl, hB⟩
    go_wp2_with fail
    go_ret
    exact CPost.same hD.out E1.out rfl hB
  · by_cases h64 : 64 ≤ fs.length
    · have e2 : createE fs s = 7 := by simp [createE, hs, hl, h64]
      have e1 : ∀ b, createR b s fs = fs := fun b => by simp [createR, e2]
      rw [e2]; clear e2
      have E1 := Lib.hid e1; clear e1
      have HS := Lib.hid hs; clear hs
      have HL := Lib.hid hl; clear hl
      go_enter Tryz.func34, Tryz.ntmps34
      go_wp2_with fail
      refine (find_none hD.out s HS.out HL.out).mono ?_
      rintro e w' ⟨rfl, hB⟩
      have HD := Lib.hid (hD.out.below hB)
      have hc := HD.out.c1
      have hlen := fun ty => HD.out.map.len (P := Tryz.prog) Tryz.underlying38 ty
      simp only [kvOf, List.length_map] at hlen
      have hd : decide (64 ≤ (fs.length : Int)) = true := by simp; omega
      go_wp2_with fail
      go_ret
      exact CPost.same hD.out E1.out rfl hB
    · have e2 : createE fs s = 0 := by simp [createE, hs, hl, h64]
      have e1 : ∀ b, createR b s fs = putF ⟨s, b, ⟨#[]⟩, 0⟩ fs := fun b => by simp [createR, e2]
      rw [e2]; clear e2
      have E1 := Lib.hid e1; clear e1
      have HS := Lib.hid hs; clear hs
      have HL := Lib.hid hl; clear hl
      go_enter Tryz.func34, Tryz.ntmps34
      go_wp2_with fail
      refine (find_none hD.out s HS.out HL.out).mono ?_
      rintro e w' ⟨rfl, hB⟩
      have HD := Lib.hid (hD.out.below hB)
      have hc := HD.out.c1
      have hlen := fun ty => HD.out.map.len (P := Tryz.prog) Tryz.underlying38 ty
      simp only [kvOf, List.length_map] at hlen
      have hd : decide (64 ≤ (fs.length : Int)) = false := by simp; omega
      have HA := Lib.hid (HD.out.below ((Below.refl _ _).alloc (Nat.le_refl _) (Obj.cells #[.string ⟨#[]⟩, .int .i64 0] 84)))
      have hc2 := HA.out.c1
      obtain ⟨w2, hrun, hM, hG⟩ := HA.out.map.update (P := Tryz.prog) Tryz.underlying38 Tryz.underlying9 s w'.heap.size
      have HM := Lib.hid hM; clear hM
      have HG := Lib.hid hG; clear hG
      go_wp2_with fail
      go_ret
      have hm := HM.out
      have e3 : putB s w'.heap.size (kvOf fs) = kvOf (putF ⟨s, w'.heap.size, ⟨#[]⟩, 0⟩ fs) := (kvOf_putF ⟨s, w'.heap.size, ⟨#[]⟩, 0⟩ fs).symm
      rw [e3] at hm
      have hk : ∀ k, k < w'.heap.size + 1 → k ≠ m → w2.heap[k]? = (w'.alloc (Obj.cells #[.string ⟨#[]⟩, .int .i64 0] 84)).heap[k]? := fun k hk hne => HG.out.block k (by simpa using hk) (fun e => hne (by cases e; rfl))
      have hmlt : m < w'.heap.size := HD.out.lt m (.inr (.inl rfl))
      refine ⟨w'.heap.size, hB.size, rfl, ?_, ?_⟩
      · show DiskAt _ _ _ _ (createR _ _ _)
        rw [E1.out]
        refine HA.out.remap hm (fun k hk' hne => hk k (by simpa using hk') hne) ?_ ?_
        · intro x hx
          rcases mem_putF hx with rfl | hx
          · unfold FileAt
            rw [hk _ (by simp) (by simp; omega)]
            exact (MapKept.heap_alloc w' _).1
          · exact (hk _ (by have := HD.out.lt _ (.inr (.inr ⟨x, hx, rfl⟩)); omega) (HD.out.ne_m hx)).trans (HA.out.files x hx)
        · refine HD.out.ok.put HS.out (fun f hf => ?_) (Nat.zero_le _) (Nat.le_refl _) (by omega) (HD.out.ok.used)
          have := HD.out.lt _ (.inr (.inr ⟨f, hf, rfl⟩)); simp; omega
      · exact (chg_of hB ((Chg.of_below ((Below.refl _ w').alloc (Nat.le_refl _) _)).trans (Chg.of_grownBy HG.out (.inr (.inl rfl)))))
  · have e2 : createE fs s = 6 := by simp [createE, hs, hl]
    have e1 : ∀ b, createR b s fs = fs := fun b => by simp [createR, e2]
    rw [e2]; clear e2
    have E1 := Lib.hid e1; clear e1
    have HS := Lib.hid hs; clear hs
    have HL := Lib.hid hl; clear hl
    go_enter Tryz.func34, Tryz.ntmps34
    go_wp2_with fail
    refine (find_some hD.out s HS.out f HL.out).mono ?_
    rintro e w' ⟨rfl, hB⟩
    go_wp2_with fail
    go_ret
    exact CPost.same hD.out E1.out rfl hB
end Go.Proofs.YtjdkhclcempafaaGreat
