import Derived.Test.YtjdkhclcempafaaGreatDkG
import Derived.Outline
set_option linter.unusedVariables false
set_option linter.unusedSimpArgs false
namespace Go.Proofs.YtjdkhclcempafaaGreat
open Go.RowKit

def renameE (fs : List Ent) (s t : ByteArray) : Int := if nameOk s && nameOk t then (if (lookF s fs).isSome then 0 else 5) else 2
def renameR (s t : ByteArray) (fs : List Ent) : List Ent := if nameOk s && nameOk t then (match lookF s fs with | some f => putF { f with name := t } (delF s fs) | none => fs) else fs

theorem rename_cases (fs : List Ent) (s t : ByteArray) : (nameOk s && nameOk t) = false ∨ ((nameOk s && nameOk t) = true ∧ lookF s fs = none) ∨ ((nameOk s && nameOk t) = true ∧ ∃ f, lookF s fs = some f) := by
  cases (nameOk s && nameOk t)
  · exact .inl rfl
  · cases h : lookF s fs
    · exact .inr (.inl ⟨rfl, rfl⟩)
    · exact .inr (.inr ⟨rfl, _, rfl⟩)

theorem delF_blk_ne {fs : List Ent} (hb : (fs.map (·.blk)).Nodup) {s : ByteArray} {f : Ent} (hl : lookF s fs = some f) : ∀ x ∈ delF s fs, x.blk ≠ f.blk := by
  induction fs with
  | nil => cases hl
  | cons g r ih =>
    rw [List.map_cons, List.nodup_cons] at hb
    simp only [lookF] at hl
    simp only [delF]
    split at hl
    · rename_i he; cases hl; rw [if_pos he]
      exact fun x hx e => hb.1 (by rw [← e]; exact List.mem_map_of_mem hx)
    · rename_i he; rw [if_neg he]
      intro x hx
      rcases List.mem_cons.1 hx with rfl | hx
      · exact fun e => hb.1 (by rw [e]; exact List.mem_map_of_mem (lookF_mem hl).1)
      · exact ih hb.2 hl x hx

set_option maxHeartbeats 1600000 in
theorem rename_any {w : World} {a m q : Nat} {fs : List Ent} (h : DiskAt w a m q fs) (s t : ByteArray) :
    Calls Tryz.prog 40 #[.pointer (some ⟨a, 0, none⟩), .string s, .string t] w (DPost (.int .i64 (renameE fs s t)) a m q fs (renameR s t fs) w) := by
  have hw : (w.alloc (Obj.cells #[.string t] 9)).cell? ⟨w.heap.size, 0, none⟩ = some (.string t) := by simp
  have hB0 : Below w.heap.size w (w.alloc (Obj.cells #[.string t] 9)) := (Below.refl _ _).alloc (Nat.le_refl _) _
  have hD := Lib.hid (h.below hB0)
  have hD0 := Lib.hid h; clear h
  rcases rename_cases fs s t with hs | ⟨hs, hl⟩ | ⟨hs, f, hl⟩
  · have e1 : renameR s t fs = fs := by simp [renameR, hs]
    have e2 : renameE fs s t = 2 := by simp [renameE, hs]
    rw [e1, e2]; clear e1 e2
    have HS := Lib.hid hs; clear hs
    have HW := Lib.hid hw; clear hw
    go_enter Tryz.func40, Tryz.ntmps40
    go_wp2_with fail
    refine (find2_bad hD.out s t w.heap.size HW.out HS.out).mono ?_
    rintro e w' ⟨rfl, hB⟩
    go_wp2_with fail
    go_ret
    exact DPost.same hD0.out rfl (hB0.trans (hB.mono (by simp)))
  · have e1 : renameR s t fs = fs := by simp [renameR, hs, hl]
    have e2 : renameE fs s t = 5 := by simp [renameE, hs, hl]
    rw [e1, e2]; clear e1 e2
    have HS := Lib.hid hs; clear hs
    have HL := Lib.hid hl; clear hl
    have HW := Lib.hid hw; clear hw
    go_enter Tryz.func40, Tryz.ntmps40
    go_wp2_with fail
    refine (find2_none hD.out s t w.heap.size HW.out HS.out HL.out).mono ?_
    rintro e w' ⟨rfl, hB⟩
    go_wp2_with fail
    go_ret
    exact DPost.same hD0.out rfl (hB0.trans (hB.mono (by simp)))
  · have e1 : renameR s t fs = putF { f with name := t } (delF s fs) := by simp [renameR, hs, hl]
    have e2 : renameE fs s t = 0 := by simp [renameE, hs, hl]
    rw [e1, e2]; clear e1 e2
    have HS := Lib.hid hs; clear hs
    have HL := Lib.hid hl; clear hl
    have HW := Lib.hid hw; clear hw
    go_enter Tryz.func40, Tryz.ntmps40
    go_wp2_with fail
    refine (find2_some hD.out s t w.heap.size HW.out HS.out f HL.out).mono ?_
    rintro e w' ⟨rfl, hB⟩
    have hB2 := hB0.trans (hB.mono (by simp))
    have HD := Lib.hid (hD.out.below hB)
    have hc := HD.out.c1
    obtain ⟨w2, hrun, hM, hG⟩ := HD.out.map.delete (P := Tryz.prog) Tryz.underlying38 Tryz.underlying9 s
    obtain ⟨w3, hrun3, hM3, hG3⟩ := hM.update (P := Tryz.prog) Tryz.underlying38 Tryz.underlying9 t f.blk
    have hk2 : ∀ k, k < w'.heap.size → k ≠ m → w2.heap[k]? = w'.heap[k]? := fun k hk hne => hG.block k hk (fun e => hne (by cases e; rfl))
    have hk : ∀ k, k < w'.heap.size → k ≠ m → w3.heap[k]? = w'.heap[k]? := fun k hk hne => (hG3.block k (by have := hG.size; omega) (fun e => hne (by cases e; rfl))).trans (hk2 k hk hne)
    have hc2 : w2.cell? ⟨a, 1, none⟩ = some (.map (some m)) := by
      rw [cell_of_heap ((hk2 a (HD.out.lt a (.inl rfl)) HD.out.ne_am).trans HD.out.head)]; rfl
    have HK := Lib.hid hk; clear hk hk2
    have HM := Lib.hid hM3; clear hM3 hM
    have HG := Lib.hid hG; clear hG
    have HG3 := Lib.hid hG3; clear hG3
    go_wp2_with fail
    go_ret
    have hm := HM.out
    rw [← kvOf_delF] at hm
    have e3 : putB t f.blk (kvOf (delF s fs)) = kvOf (putF { f with name := t } (delF s fs)) := (kvOf_putF { f with name := t } _).symm
    rw [e3] at hm
    have hf := lookF_mem HL.out
    have hso : nameOk t = true := by have := HS.out; simp at this; exact this.2
    have hus := usedF_delF_some HL.out
    refine ⟨rfl, HD.out.remap hm HK.out ?_ ?_, ?_⟩
    · intro x hx
      rcases mem_putF hx with rfl | hx
      · exact (HK.out f.blk (HD.out.lt _ (.inr (.inr ⟨f, hf.1, rfl⟩))) (HD.out.ne_m hf.1)).trans (HD.out.files f hf.1)
      · exact (HK.out _ (HD.out.lt _ (.inr (.inr ⟨x, mem_delF hx, rfl⟩))) (HD.out.ne_m (mem_delF hx))).trans (HD.out.files x (mem_delF hx))
    · refine (HD.out.ok.del s).put hso (fun x hx => delF_blk_ne HD.out.ok.blks HL.out x hx) (HD.out.ok.size f hf.1) (HD.out.ok.sync f hf.1) (by have := HD.out.ok.n64; omega) ?_
      show usedF (delF s fs) + f.bytes.size ≤ q
      have := HD.out.ok.used; omega
    · exact chg_of hB2 ((Chg.of_grownBy HG.out (.inr (.inl rfl))).trans (Chg.of_grownBy HG3.out (.inr (.inl rfl))))
end Go.Proofs.YtjdkhclcempafaaGreat
