import Derived.Test.YtjdkhclcempafaaGreatDkPh
import Derived.StillTailTactics
set_option linter.unusedVariables false
set_option linter.unusedSimpArgs false
namespace Go.Proofs.YtjdkhclcempafaaGreat
open Go.RowKit Go.Shelf Go.Sort Go.Maps

/-! ### Rename -/
set_option maxRecDepth 20000 in
theorem pRename1_any {w0 W : World} {P : PW} {fs : List Ent} {wr : Int} {off : Bool} (h : Rest w0 W P fs wr off) (s t : ByteArray) (bp bs bt : Nat) (hbp : W.cell? ⟨bp, 0, none⟩ = some (.pointer (some ⟨P.pa, 0, none⟩))) (hbs : W.cell? ⟨bs, 0, none⟩ = some (.string s)) (hbt : W.cell? ⟨bt, 0, none⟩ = some (.string t)) :
    Calls Tryz.prog 39 #[.pointer (some ⟨bp, 0, none⟩), .pointer (some ⟨bs, 0, none⟩), .pointer (some ⟨bt, 0, none⟩)] W (DoP (.int .i64 (renameE fs s t)) w0 W P fs (fun f => f = renameR s t fs) wr off) := by
  have H := Lib.hid h
  have c0 := h.pow.c.1
  clear h
  go_enter Tryz.func39, Tryz.ntmps39
  go_upto_region 1 with fail
  go_still_tail 6, (by kernel_rfl)
  go_wp2_with fail
  have HD : Rest w0 W.drew P fs wr off := H.out.below (Below.refl _ W).drew
  have HD := Lib.hid HD
  refine (rename_any HD.out.disk.disk s t).mono ?_
  rintro e W1 ⟨rfl, hd, hc⟩
  have HS := Lib.hid (St.of HD.out (Q := fun f => f = renameR s t fs) hd hc (fun f hf => .inl (blk_renameR s t f hf)) rfl)
  clear hd hc
  go_wp2_with fail
  go_ret
  exact ⟨rfl, HS.out.drew⟩

set_option maxRecDepth 20000 in
set_option maxHeartbeats 1600000 in
theorem pRename_any {w0 W : World} {P : PW} {fs : List Ent} {wr : Int} {off : Bool} (h : Rest w0 W P fs wr off) (hw : 0 ≤ wr ∧ wr ≤ 1000000) (s t : ByteArray) :
    Calls Tryz.prog 19 #[.pointer (some ⟨P.pa, 0, none⟩), .string s, .string t] W (WPost (renameE fs s t) w0 W P fs (fun f => f = renameR s t fs) wr off) := by
  have hB : Below W.heap.size W (((W.alloc (.cells #[.pointer (some ⟨P.pa, 0, none⟩)] 31)).alloc (.cells #[.string s] 9)).alloc (.cells #[.string t] 9)) := (((Below.refl _ W).alloc (Nat.le_refl _) _).alloc (by simp) _).alloc (by simp; omega) _
  have hp0 : (((W.alloc (.cells #[.pointer (some ⟨P.pa, 0, none⟩)] 31)).alloc (.cells #[.string s] 9)).alloc (.cells #[.string t] 9)).cell? ⟨W.heap.size, 0, none⟩ = some (.pointer (some ⟨P.pa, 0, none⟩)) := (boxes3 W _ _ _ _ _ _).1
  have hp1 : (((W.alloc (.cells #[.pointer (some ⟨P.pa, 0, none⟩)] 31)).alloc (.cells #[.string s] 9)).alloc (.cells #[.string t] 9)).cell? ⟨W.heap.size + 1, 0, none⟩ = some (.string s) := (boxes3 W _ _ _ _ _ _).2.1
  have hp2 : (((W.alloc (.cells #[.pointer (some ⟨P.pa, 0, none⟩)] 31)).alloc (.cells #[.string s] 9)).alloc (.cells #[.string t] 9)).cell? ⟨W.heap.size + 1 + 1, 0, none⟩ = some (.string t) := (boxes3 W _ _ _ _ _ _).2.2
  have hmf : ∀ (fn : Fn) (first cap : Array Value) (w : World), (Instr.makeFunc fn first cap).run Tryz.prog w = .ok (.func fn first cap) w := fun _ _ _ _ => rfl
  have H := Lib.hid (And.intro h hw); clear h hw
  have HB := Lib.hid hB; clear hB
  go_enter Tryz.func19, Tryz.ntmps19
  go_wp2_with fail
  obtain ⟨W1, hW1⟩ : ∃ W1, (((W.alloc (.cells #[.pointer (some ⟨P.pa, 0, none⟩)] 31)).alloc (.cells #[.string s] 9)).alloc (.cells #[.string t] 9)) = W1 := ⟨_, rfl⟩
  have HB := HB.out
  rw [hW1] at HB hp0 hp1 hp2 ⊢
  clear hW1
  have h1 := H.out.1.below HB
  have hlow : ∀ k, mfoot P fs k → k < W.heap.size := H.out.1.lt
  refine (write_all h1 H.out.2 39 _ (enters_of Tryz.func39 (by kernel_rfl) rfl) (renameE fs s t) (fun f => f = renameR s t fs) ?_).mono ?_
  · intro _ W2 hc2 h2
    have keep : ∀ b v, W.heap.size ≤ b → W1.cell? ⟨b, 0, none⟩ = some v → W2.cell? ⟨b, 0, none⟩ = some v := fun b v hb hv => by
      have hlt : b < W1.heap.size := World.block_lt_of_cell? W1 _ hv
      have hpa : P.pa < W.heap.size := hlow _ (.inr rfl)
      rw [World.cell?_of_block (w := W1) (hc2.block b hlt (fun e => by omega))]; exact hv
    exact pRename1_any h2 s t _ _ _ (keep _ _ (by omega) hp0) (keep _ _ (by omega) hp1) (keep _ _ (by omega) hp2)
  rintro e W2 ⟨r, rfl, hr⟩
  have HR := Lib.hid (hr.back HB); clear hr
  go_wp2_with fail
  go_ret
  exact ⟨r, rfl, HR.out⟩

/-! ### Remove -/
set_option maxRecDepth 20000 in
theorem pRemove1_any {w0 W : World} {P : PW} {fs : List Ent} {wr : Int} {off : Bool} (h : Rest w0 W P fs wr off) (s : ByteArray) (bp bs : Nat) (hbp : W.cell? ⟨bp, 0, none⟩ = some (.pointer (some ⟨P.pa, 0, none⟩))) (hbs : W.cell? ⟨bs, 0, none⟩ = some (.string s)) :
    Calls Tryz.prog 41 #[.pointer (some ⟨bp, 0, none⟩), .pointer (some ⟨bs, 0, none⟩)] W (DoP (.int .i64 (errS fs s)) w0 W P fs (fun f => f = removeR s fs) wr off) := by
  have H := Lib.hid h
  have c0 := h.pow.c.1
  clear h
  go_enter Tryz.func41, Tryz.ntmps41
  go_upto_region 1 with fail
  go_still_tail 5, (by kernel_rfl)
  go_wp2_with fail
  have HD : Rest w0 W.drew P fs wr off := H.out.below (Below.refl _ W).drew
  have HD := Lib.hid HD
  refine (remove_any HD.out.disk.disk s).mono ?_
  rintro e W1 ⟨rfl, hd, hc⟩
  have HS := Lib.hid (St.of HD.out (Q := fun f => f = removeR s fs) hd hc (fun f hf => .inl (blk_removeR s f hf)) rfl)
  clear hd hc
  go_wp2_with fail
  go_ret
  exact ⟨rfl, HS.out.drew⟩

set_option maxRecDepth 20000 in
set_option maxHeartbeats 1600000 in
theorem pRemove_any {w0 W : World} {P : PW} {fs : List Ent} {wr : Int} {off : Bool} (h : Rest w0 W P fs wr off) (hw : 0 ≤ wr ∧ wr ≤ 1000000) (s : ByteArray) :
    Calls Tryz.prog 20 #[.pointer (some ⟨P.pa, 0, none⟩), .string s] W (WPost (errS fs s) w0 W P fs (fun f => f = removeR s fs) wr off) := by
  have hB : Below W.heap.size W ((W.alloc (.cells #[.pointer (some ⟨P.pa, 0, none⟩)] 31)).alloc (.cells #[.string s] 9)) := ((Below.refl _ W).alloc (Nat.le_refl _) _).alloc (by simp) _
  have hp0 : ((W.alloc (.cells #[.pointer (some ⟨P.pa, 0, none⟩)] 31)).alloc (.cells #[.string s] 9)).cell? ⟨W.heap.size, 0, none⟩ = some (.pointer (some ⟨P.pa, 0, none⟩)) := (boxes2 W _ _ _ _).1
  have hp1 : ((W.alloc (.cells #[.pointer (some ⟨P.pa, 0, none⟩)] 31)).alloc (.cells #[.string s] 9)).cell? ⟨W.heap.size + 1, 0, none⟩ = some (.string s) := (boxes2 W _ _ _ _).2
  have hmf : ∀ (fn : Fn) (first cap : Array Value) (w : World), (Instr.makeFunc fn first cap).run Tryz.prog w = .ok (.func fn first cap) w := fun _ _ _ _ => rfl
  have H := Lib.hid (And.intro h hw); clear h hw
  have HB := Lib.hid hB; clear hB
  go_enter Tryz.func20, Tryz.ntmps20
  go_wp2_with fail
  obtain ⟨W1, hW1⟩ : ∃ W1, ((W.alloc (.cells #[.pointer (some ⟨P.pa, 0, none⟩)] 31)).alloc (.cells #[.string s] 9)) = W1 := ⟨_, rfl⟩
  have HB := HB.out
  rw [hW1] at HB hp0 hp1 ⊢
  clear hW1
  have h1 := H.out.1.below HB
  have hlow : ∀ k, mfoot P fs k → k < W.heap.size := H.out.1.lt
  refine (write_all h1 H.out.2 41 _ (enters_of Tryz.func41 (by kernel_rfl) rfl) (errS fs s) (fun f => f = removeR s fs) ?_).mono ?_
  · intro _ W2 hc2 h2
    have keep : ∀ b v, W.heap.size ≤ b → W1.cell? ⟨b, 0, none⟩ = some v → W2.cell? ⟨b, 0, none⟩ = some v := fun b v hb hv => by
      have hlt : b < W1.heap.size := World.block_lt_of_cell? W1 _ hv
      have hpa : P.pa < W.heap.size := hlow _ (.inr rfl)
      rw [World.cell?_of_block (w := W1) (hc2.block b hlt (fun e => by omega))]; exact hv
    exact pRemove1_any h2 s _ _ (keep _ _ (by omega) hp0) (keep _ _ (by omega) hp1)
  rintro e W2 ⟨r, rfl, hr⟩
  have HR := Lib.hid (hr.back HB); clear hr
  go_wp2_with fail
  go_ret
  exact ⟨r, rfl, HR.out⟩
end Go.Proofs.YtjdkhclcempafaaGreat
