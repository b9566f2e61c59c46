import Derived.Test.YtjdkhclcempafaaGreatDkE
import Derived.Outline
set_option linter.unusedVariables false
set_option linter.unusedSimpArgs false
namespace Go.Proofs.YtjdkhclcempafaaGreat
open Go.RowKit

def syncG (f : Ent) : Ent := { f with sync := f.bytes.size }
def syncR (s : ByteArray) (fs : List Ent) : List Ent := if nameOk s then setF s syncG fs else fs
def removeR (s : ByteArray) (fs : List Ent) : List Ent := if nameOk s then delF s fs else fs

theorem chg_of {S : Nat → Prop} {w w1 w2 : World} (h : Below w.heap.size w w1) (k : Chg S w1 w2) : Chg S w w2 := (Chg.of_below h).trans k

set_option maxHeartbeats 800000 in
theorem sync_any {w : World} {a m q : Nat} {fs : List Ent} (h : DiskAt w a m q fs) (s : ByteArray) :
    Calls Tryz.prog 38 #[.pointer (some ⟨a, 0, none⟩), .string s] w (DPost (.int .i64 (errS fs s)) a m q fs (syncR s fs) w) := by
  have hD := Lib.hid h; clear h
  rcases find_cases fs s with hs | ⟨hs, hl⟩ | ⟨hs, f, hl⟩
  · have e1 : syncR s fs = fs := by simp [syncR, hs]
    have e2 : errS fs s = 2 := by simp [errS, hs]
    rw [e1, e2]; clear e1 e2
    have HS := Lib.hid hs; clear hs
    go_enter Tryz.func38, Tryz.ntmps38
    go_wp2_with fail
    refine (find_bad hD.out s HS.out).mono ?_
    rintro e w' ⟨rfl, hB⟩
    go_wp2_with fail
    go_ret
    exact DPost.same hD.out rfl hB
  · have e1 : syncR s fs = fs := by unfold syncR; rw [if_pos hs]; exact setF_absent (lookF_none hl)
    have e2 : errS fs s = 5 := by simp [errS, hs, hl]
    rw [e1, e2]; clear e1 e2
    have HS := Lib.hid hs; clear hs
    have HL := Lib.hid hl; clear hl
    go_enter Tryz.func38, Tryz.ntmps38
    go_wp2_with fail
    refine (find_none hD.out s HS.out HL.out).mono ?_
    rintro e w' ⟨rfl, hB⟩
    go_wp2_with fail
    go_ret
    exact DPost.same hD.out rfl hB
  · have e1 : syncR s fs = setF s syncG fs := by unfold syncR; rw [if_pos hs]
    have e2 : errS fs s = 0 := by simp [errS, hs, hl]
    rw [e1, e2]; clear e1 e2
    have HS := Lib.hid hs; clear hs
    have HL := Lib.hid hl; clear hl
    go_enter Tryz.func38, Tryz.ntmps38
    go_wp2_with fail
    refine (find_some hD.out s HS.out f HL.out).mono ?_
    rintro e w' ⟨rfl, hB⟩
    have hf := (lookF_mem HL.out).1
    have HD := Lib.hid (hD.out.below hB)
    have hc := HD.out.b0 hf
    have hc1 := HD.out.b1 hf
    have hz := frozen_of_heap (HD.out.files f hf) 1
    have HF := Lib.hid hf; clear hf
    go_wp2_with fail
    go_ret
    refine ⟨rfl, HD.out.set HL.out (fun _ => rfl) (fun _ => rfl) (by rw [heap_setCell_at (HD.out.files f HF.out)]; rfl) (fun k _ hk => Below.heap_setCell _ _ _ _ hk)
      (HD.out.ok.set HL.out (fun _ => rfl) (fun _ => rfl) (HD.out.ok.size f HF.out) (Nat.le_refl _) (by have := HD.out.ok.used; show usedF fs + f.bytes.size ≤ _; omega)), ?_⟩
    exact (Chg.of_below hB).setCell (fun _ => .inr (.inr ⟨f, HF.out, rfl⟩)) _

set_option maxHeartbeats 800000 in
theorem remove_any {w : World} {a m q : Nat} {fs : List Ent} (h : DiskAt w a m q fs) (s : ByteArray) :
    Calls Tryz.prog 42 #[.pointer (some ⟨a, 0, none⟩), .string s] w (DPost (.int .i64 (errS fs s)) a m q fs (removeR s fs) w) := by
  have hD := Lib.hid h; clear h
  rcases find_cases fs s with hs | ⟨hs, hl⟩ | ⟨hs, f, hl⟩
  · have e1 : removeR s fs = fs := by simp [removeR, hs]
    have e2 : errS fs s = 2 := by simp [errS, hs]
    rw [e1, e2]; clear e1 e2
    have HS := Lib.hid hs; clear hs
    go_enter Tryz.func42, Tryz.ntmps42
    go_wp2_with fail
    refine (find_bad hD.out s HS.out).mono ?_
    rintro e w' ⟨rfl, hB⟩
    go_wp2_with fail
    go_ret
    exact DPost.same hD.out rfl hB
  · have e1 : removeR s fs = fs := by
      unfold removeR; rw [if_pos hs]
      have : ∀ l : List Ent, lookF s l = none → delF s l = l := by
        intro l; induction l with
        | nil => intro _; rfl
        | cons x r ih => intro h; simp only [lookF] at h; simp only [delF]; split at h; cases h; rename_i hn; rw [if_neg hn, ih h]
      exact this fs hl
    have e2 : errS fs s = 5 := by simp [errS, hs, hl]
    rw [e1, e2]; clear e1 e2
    have HS := Lib.hid hs; clear hs
    have HL := Lib.hid hl; clear hl
    go_enter Tryz.func42, Tryz.ntmps42
    go_wp2_with fail
    refine (find_none hD.out s HS.out HL.out).mono ?_
    rintro e w' ⟨rfl, hB⟩
    go_wp2_with fail
    go_ret
    exact DPost.same hD.out rfl hB
  · have e1 : removeR s fs = delF s fs := by unfold removeR; rw [if_pos hs]
    have e2 : errS fs s = 0 := by simp [errS, hs, hl]
    rw [e1, e2]; clear e1 e2
    have HS := Lib.hid hs; clear hs
    have HL := Lib.hid hl; clear hl
    go_enter Tryz.func42, Tryz.ntmps42
    go_wp2_with fail
    refine (find_some hD.out s HS.out f HL.out).mono ?_
    rintro e w' ⟨rfl, hB⟩
    have HD := Lib.hid (hD.out.below hB)
    have hc := HD.out.c1
    obtain ⟨w2, hrun, hM, hG⟩ := HD.out.map.delete Tryz.underlying38 Tryz.underlying9 s
    have HM := Lib.hid hM; clear hM
    have HG := Lib.hid hG; clear hG
    go_wp2_with fail
    go_ret
    have hm := HM.out
    rw [← kvOf_delF] at hm
    have hk : ∀ k, k < w'.heap.size → k ≠ m → w2.heap[k]? = w'.heap[k]? := fun k hk hne => HG.out.block k hk (fun e => hne (by cases e; rfl))
    exact ⟨rfl, HD.out.remap hm hk (fun x hx => (hk _ (HD.out.lt _ (.inr (.inr ⟨x, mem_delF hx, rfl⟩))) (HD.out.ne_m (mem_delF hx))).trans (HD.out.files x (mem_delF hx))) (HD.out.ok.del s),
      chg_of hB (Chg.of_grownBy HG.out (.inr (.inl rfl)))⟩
end Go.Proofs.YtjdkhclcempafaaGreat
