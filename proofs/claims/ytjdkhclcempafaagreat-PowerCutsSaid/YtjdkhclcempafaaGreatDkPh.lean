import Derived.Test.YtjdkhclcempafaaGreatDkPg
import Derived.StillTailTactics
set_option linter.unusedVariables false
set_option linter.unusedSimpArgs false
namespace Go.Proofs.YtjdkhclcempafaaGreat
open Go.RowKit Go.Shelf Go.Sort Go.Maps

def St (w0 W : World) (P : PW) (fs : List Ent) (Q : List Ent → Prop) (wr : Int) (off : Bool) (W' : World) : Prop :=
  ∃ fs', Q fs' ∧ Rest w0 W' P fs' wr off ∧ Chg (mfoot P fs) W W' ∧ ∀ k, mfoot P fs' k → mfoot P fs k ∨ W.heap.size ≤ k
section
variable {w0 W W1 W' : World} {P : PW} {fs fs' : List Ent} {Q : List Ent → Prop} {wr : Int} {off : Bool}
theorem St.of (h : Rest w0 W P fs wr off) (hd : DiskAt W' P.a P.m P.q fs') (hc : Chg (foot P.a P.m fs) W W') (hb : ∀ f ∈ fs', (∃ g ∈ fs, g.blk = f.blk) ∨ W.heap.size ≤ f.blk) (hQ : Q fs') : St w0 W P fs Q wr off W' :=
  ⟨fs', hQ, h.op hd hc hb, hc.mono fun k _ hk => .inl hk, by
    rintro k ((hk | hk | ⟨f, hf, rfl⟩) | hk)
    · exact .inl (.inl (.inl hk))
    · exact .inl (.inl (.inr (.inl hk)))
    · rcases hb f hf with ⟨g, hg, he⟩ | h
      · exact .inl (.inl (.inr (.inr ⟨g, hg, he⟩)))
      · exact .inr h
    · exact .inl (.inr hk)⟩
theorem St.back (h : St w0 W1 P fs Q wr off W') (hB : Below W.heap.size W W1) : St w0 W P fs Q wr off W' := by
  obtain ⟨f, hQ, hR, hC, hk⟩ := h
  exact ⟨f, hQ, hR, (Chg.of_below hB).trans hC, fun k h => (hk k h).imp id fun h => Nat.le_trans hB.size h⟩
theorem St.drew (h : St w0 W.drew P fs Q wr off W') : St w0 W P fs Q wr off W' := h.back (Below.refl _ W).drew
/-- what a write tells (r), and leaves: the power is off; or just this write blows it; or it is done -/
def WR (E : Int) (w0 W : World) (P : PW) (fs : List Ent) (Q : List Ent → Prop) (wr : Int) (off : Bool) (r : Int) (W' : World) : Prop :=
  (off = true ∧ r = 8 ∧ St w0 W P fs (fun f => f = fs) wr true W') ∨ (off = false ∧ wr = P.fuse ∧ r = 8 ∧ St w0 W P fs (HitQ P.ks fs Q) (wr + 1) true W') ∨
    (off = false ∧ wr ≠ P.fuse ∧ r = E ∧ St w0 W P fs Q (wr + 1) false W')
theorem WR.back {E r : Int} (h : WR E w0 W1 P fs Q wr off r W') (hB : Below W.heap.size W W1) : WR E w0 W P fs Q wr off r W' := by
  rcases h with ⟨a, b, c⟩ | ⟨a, b, c, d⟩ | ⟨a, b, c, d⟩
  · exact .inl ⟨a, b, c.back hB⟩
  · exact .inr (.inl ⟨a, b, c, d.back hB⟩)
  · exact .inr (.inr ⟨a, b, c, d.back hB⟩)
def WPost (E : Int) (w0 W : World) (P : PW) (fs : List Ent) (Q : List Ent → Prop) (wr : Int) (off : Bool) (e : Ending) (W' : World) : Prop :=
  ∃ r : Int, e = .returned (.int .i64 r) ∧ WR E w0 W P fs Q wr off r W'
theorem write_all (h : Rest w0 W P fs wr off) (hw : 0 ≤ wr ∧ wr ≤ 1000000) (K : Nat) (cap : Array Value) (hcf : Enters Tryz.prog K) (E : Int) (Q : List Ent → Prop)
    (hdo : off = false → ∀ W1, Chg (fun k => k = P.pa) W W1 → Rest w0 W1 P fs (wr + 1) false → Calls Tryz.prog K cap W1 (DoP (.int .i64 E) w0 W1 P fs Q (wr + 1) false)) :
    Calls Tryz.prog 32 #[.pointer (some ⟨P.pa, 0, none⟩), .func (.func K) #[] cap] W (WPost E w0 W P fs Q wr off) := by
  cases off with
  | true =>
    refine (write_off h _).mono ?_
    rintro e w' ⟨rfl, rfl⟩
    exact ⟨8, rfl, .inl ⟨rfl, rfl, fs, rfl, h, Chg.refl _ _, fun k hk => .inl hk⟩⟩
  | false =>
    by_cases he : wr = P.fuse
    · refine (write_hit h hw he K cap hcf _ Q (hdo rfl)).mono ?_
      rintro e w' ⟨rfl, hs⟩
      exact ⟨8, rfl, .inr (.inl ⟨rfl, he, rfl, hs⟩)⟩
    · refine (write_go h hw he K cap hcf _ Q (hdo rfl)).mono ?_
      rintro e w' ⟨rfl, hs⟩
      exact ⟨E, rfl, .inr (.inr ⟨rfl, he, rfl, hs⟩)⟩
end
theorem boxes2 (W : World) (x y : Value) (s t : TypeId) : ((W.alloc (.cells #[x] s)).alloc (.cells #[y] t)).cell? ⟨W.heap.size, 0, none⟩ = some x ∧ ((W.alloc (.cells #[x] s)).alloc (.cells #[y] t)).cell? ⟨W.heap.size + 1, 0, none⟩ = some y := by
  have h1 := (One.new W x s).alloc (.cells #[y] t)
  have h2 := One.new (W.alloc (.cells #[x] s)) y t
  rw [World.size_alloc] at h2
  exact ⟨by rw [cell_of_heap h1]; rfl, by rw [cell_of_heap h2]; rfl⟩
theorem boxes3 (W : World) (x y z : Value) (s t u : TypeId) : (((W.alloc (.cells #[x] s)).alloc (.cells #[y] t)).alloc (.cells #[z] u)).cell? ⟨W.heap.size, 0, none⟩ = some x ∧
    (((W.alloc (.cells #[x] s)).alloc (.cells #[y] t)).alloc (.cells #[z] u)).cell? ⟨W.heap.size + 1, 0, none⟩ = some y ∧
    (((W.alloc (.cells #[x] s)).alloc (.cells #[y] t)).alloc (.cells #[z] u)).cell? ⟨W.heap.size + 1 + 1, 0, none⟩ = some z := by
  have h1 := ((One.new W x s).alloc (.cells #[y] t)).alloc (.cells #[z] u)
  have h2 := (One.new (W.alloc (.cells #[x] s)) y t).alloc (.cells #[z] u)
  have h3 := One.new ((W.alloc (.cells #[x] s)).alloc (.cells #[y] t)) z u
  rw [World.size_alloc] at h2
  rw [World.size_alloc, World.size_alloc] at h3
  exact ⟨by rw [cell_of_heap h1]; rfl, by rw [cell_of_heap h2]; rfl, by rw [cell_of_heap h3]; rfl⟩
def QC (s : ByteArray) (fs fs' : List Ent) : Prop := ∃ b, fs' = createR b s fs

/-! ### Create -/
set_option maxRecDepth 20000 in
theorem pCreate1_any {w0 W : World} {P : PW} {fs : List Ent} {wr : Int} {off : Bool} (h : Rest w0 W P fs wr off) (s : ByteArray) (bp bs : Nat) (hbp : W.cell? ⟨bp, 0, none⟩ = some (.pointer (some ⟨P.pa, 0, none⟩))) (hbs : W.cell? ⟨bs, 0, none⟩ = some (.string s)) :
    Calls Tryz.prog 33 #[.pointer (some ⟨bp, 0, none⟩), .pointer (some ⟨bs, 0, none⟩)] W (DoP (.int .i64 (createE fs s)) w0 W P fs (QC s fs) wr off) := by
  have H := Lib.hid h
  have c0 := h.pow.c.1
  clear h
  go_enter Tryz.func33, Tryz.ntmps33
  go_upto_region 1 with fail
  go_still_tail 5, (by kernel_rfl)
  go_wp2_with fail
  have HD : Rest w0 W.drew P fs wr off := H.out.below (Below.refl _ W).drew
  have HD := Lib.hid HD
  refine (create_any HD.out.disk.disk s).mono ?_
  rintro e W1 ⟨b, hb, rfl, hd, hc⟩
  have HS := Lib.hid (St.of HD.out (Q := QC s fs) hd hc (fun f hf => (blk_createR b s f hf).imp id fun (e : f.blk = b) => by omega) ⟨b, rfl⟩)
  clear hd hc
  go_wp2_with fail
  go_ret
  exact ⟨rfl, HS.out.drew⟩

set_option maxRecDepth 20000 in
set_option maxHeartbeats 1600000 in
theorem pCreate_any {w0 W : World} {P : PW} {fs : List Ent} {wr : Int} {off : Bool} (h : Rest w0 W P fs wr off) (hw : 0 ≤ wr ∧ wr ≤ 1000000) (s : ByteArray) :
    Calls Tryz.prog 16 #[.pointer (some ⟨P.pa, 0, none⟩), .string s] W (WPost (createE fs s) w0 W P fs (QC s fs) wr off) := by
  have hB : Below W.heap.size W ((W.alloc (.cells #[.pointer (some ⟨P.pa, 0, none⟩)] 31)).alloc (.cells #[.string s] 9)) := ((Below.refl _ W).alloc (Nat.le_refl _) _).alloc (by simp) _
  have hp0 : ((W.alloc (.cells #[.pointer (some ⟨P.pa, 0, none⟩)] 31)).alloc (.cells #[.string s] 9)).cell? ⟨W.heap.size, 0, none⟩ = some (.pointer (some ⟨P.pa, 0, none⟩)) := (boxes2 W _ _ _ _).1
  have hp1 : ((W.alloc (.cells #[.pointer (some ⟨P.pa, 0, none⟩)] 31)).alloc (.cells #[.string s] 9)).cell? ⟨W.heap.size + 1, 0, none⟩ = some (.string s) := (boxes2 W _ _ _ _).2
  have hmf : ∀ (fn : Fn) (first cap : Array Value) (w : World), (Instr.makeFunc fn first cap).run Tryz.prog w = .ok (.func fn first cap) w := fun _ _ _ _ => rfl
  have H := Lib.hid (And.intro h hw); clear h hw
  have HB := Lib.hid hB; clear hB
  go_enter Tryz.func16, Tryz.ntmps16
  go_wp2_with fail
  obtain ⟨W1, hW1⟩ : ∃ W1, ((W.alloc (.cells #[.pointer (some ⟨P.pa, 0, none⟩)] 31)).alloc (.cells #[.string s] 9)) = W1 := ⟨_, rfl⟩
  have HB := HB.out
  rw [hW1] at HB hp0 hp1 ⊢
  clear hW1
  have h1 := H.out.1.below HB
  have hlow : ∀ k, mfoot P fs k → k < W.heap.size := H.out.1.lt
  refine (write_all h1 H.out.2 33 _ (enters_of Tryz.func33 (by kernel_rfl) rfl) (createE fs s) (QC s fs) ?_).mono ?_
  · intro _ W2 hc2 h2
    have keep : ∀ b v, W.heap.size ≤ b → W1.cell? ⟨b, 0, none⟩ = some v → W2.cell? ⟨b, 0, none⟩ = some v := fun b v hb hv => by
      have hlt : b < W1.heap.size := World.block_lt_of_cell? W1 _ hv
      have hpa : P.pa < W.heap.size := hlow _ (.inr rfl)
      rw [World.cell?_of_block (w := W1) (hc2.block b hlt (fun e => by omega))]; exact hv
    exact pCreate1_any h2 s _ _ (keep _ _ (by omega) hp0) (keep _ _ (by omega) hp1)
  rintro e W2 ⟨r, rfl, hr⟩
  have HR := Lib.hid (hr.back HB); clear hr
  go_wp2_with fail
  go_ret
  exact ⟨r, rfl, HR.out⟩

/-! ### Append -/
set_option maxRecDepth 20000 in
theorem pAppend1_any {w0 W : World} {P : PW} {fs : List Ent} {wr : Int} {off : Bool} (h : Rest w0 W P fs wr off) (s t : ByteArray) (hsz : t.size ≤ 9223372036854775807) (bp bs bt : Nat) (hbp : W.cell? ⟨bp, 0, none⟩ = some (.pointer (some ⟨P.pa, 0, none⟩))) (hbs : W.cell? ⟨bs, 0, none⟩ = some (.string s)) (hbt : W.cell? ⟨bt, 0, none⟩ = some (.string t)) :
    Calls Tryz.prog 35 #[.pointer (some ⟨bp, 0, none⟩), .pointer (some ⟨bs, 0, none⟩), .pointer (some ⟨bt, 0, none⟩)] W (DoP (.int .i64 (appendE P.q fs s t)) w0 W P fs (fun f => f = appendR P.q s t fs) wr off) := by
  have H := Lib.hid h
  have c0 := h.pow.c.1
  clear h
  go_enter Tryz.func35, Tryz.ntmps35
  go_upto_region 1 with fail
  go_still_tail 6, (by kernel_rfl)
  go_wp2_with fail
  have HD : Rest w0 W.drew P fs wr off := H.out.below (Below.refl _ W).drew
  have HD := Lib.hid HD
  refine (append_any HD.out.disk.disk s t hsz).mono ?_
  rintro e W1 ⟨rfl, hd, hc⟩
  have HS := Lib.hid (St.of HD.out (Q := fun f => f = appendR P.q s t fs) hd hc (fun f hf => .inl (blk_appendR s t f hf)) rfl)
  clear hd hc
  go_wp2_with fail
  go_ret
  exact ⟨rfl, HS.out.drew⟩

set_option maxRecDepth 20000 in
set_option maxHeartbeats 1600000 in
theorem pAppend_any {w0 W : World} {P : PW} {fs : List Ent} {wr : Int} {off : Bool} (h : Rest w0 W P fs wr off) (hw : 0 ≤ wr ∧ wr ≤ 1000000) (s t : ByteArray) (hsz : t.size ≤ 9223372036854775807) :
    Calls Tryz.prog 17 #[.pointer (some ⟨P.pa, 0, none⟩), .string s, .string t] W (WPost (appendE P.q fs s t) w0 W P fs (fun f => f = appendR P.q s t fs) wr off) := by
  have hB : Below W.heap.size W (((W.alloc (.cells #[.pointer (some ⟨P.pa, 0, none⟩)] 31)).alloc (.cells #[.string s] 9)).alloc (.cells #[.string t] 9)) := (((Below.refl _ W).alloc (Nat.le_refl _) _).alloc (by simp) _).alloc (by simp; omega) _
  have hp0 : (((W.alloc (.cells #[.pointer (some ⟨P.pa, 0, none⟩)] 31)).alloc (.cells #[.string s] 9)).alloc (.cells #[.string t] 9)).cell? ⟨W.heap.size, 0, none⟩ = some (.pointer (some ⟨P.pa, 0, none⟩)) := (boxes3 W _ _ _ _ _ _).1
  have hp1 : (((W.alloc (.cells #[.pointer (some ⟨P.pa, 0, none⟩)] 31)).alloc (.cells #[.string s] 9)).alloc (.cells #[.string t] 9)).cell? ⟨W.heap.size + 1, 0, none⟩ = some (.string s) := (boxes3 W _ _ _ _ _ _).2.1
  have hp2 : (((W.alloc (.cells #[.pointer (some ⟨P.pa, 0, none⟩)] 31)).alloc (.cells #[.string s] 9)).alloc (.cells #[.string t] 9)).cell? ⟨W.heap.size + 1 + 1, 0, none⟩ = some (.string t) := (boxes3 W _ _ _ _ _ _).2.2
  have hmf : ∀ (fn : Fn) (first cap : Array Value) (w : World), (Instr.makeFunc fn first cap).run Tryz.prog w = .ok (.func fn first cap) w := fun _ _ _ _ => rfl
  have H := Lib.hid (And.intro h hw); clear h hw
  have HB := Lib.hid hB; clear hB
  go_enter Tryz.func17, Tryz.ntmps17
  go_wp2_with fail
  obtain ⟨W1, hW1⟩ : ∃ W1, (((W.alloc (.cells #[.pointer (some ⟨P.pa, 0, none⟩)] 31)).alloc (.cells #[.string s] 9)).alloc (.cells #[.string t] 9)) = W1 := ⟨_, rfl⟩
  have HB := HB.out
  rw [hW1] at HB hp0 hp1 hp2 ⊢
  clear hW1
  have h1 := H.out.1.below HB
  have hlow : ∀ k, mfoot P fs k → k < W.heap.size := H.out.1.lt
  refine (write_all h1 H.out.2 35 _ (enters_of Tryz.func35 (by kernel_rfl) rfl) (appendE P.q fs s t) (fun f => f = appendR P.q s t fs) ?_).mono ?_
  · intro _ W2 hc2 h2
    have keep : ∀ b v, W.heap.size ≤ b → W1.cell? ⟨b, 0, none⟩ = some v → W2.cell? ⟨b, 0, none⟩ = some v := fun b v hb hv => by
      have hlt : b < W1.heap.size := World.block_lt_of_cell? W1 _ hv
      have hpa : P.pa < W.heap.size := hlow _ (.inr rfl)
      rw [World.cell?_of_block (w := W1) (hc2.block b hlt (fun e => by omega))]; exact hv
    exact pAppend1_any h2 s t hsz _ _ _ (keep _ _ (by omega) hp0) (keep _ _ (by omega) hp1) (keep _ _ (by omega) hp2)
  rintro e W2 ⟨r, rfl, hr⟩
  have HR := Lib.hid (hr.back HB); clear hr
  go_wp2_with fail
  go_ret
  exact ⟨r, rfl, HR.out⟩

/-! ### Sync -/
set_option maxRecDepth 20000 in
theorem pSync1_any {w0 W : World} {P : PW} {fs : List Ent} {wr : Int} {off : Bool} (h : Rest w0 W P fs wr off) (s : ByteArray) (bp bs : Nat) (hbp : W.cell? ⟨bp, 0, none⟩ = some (.pointer (some ⟨P.pa, 0, none⟩))) (hbs : W.cell? ⟨bs, 0, none⟩ = some (.string s)) :
    Calls Tryz.prog 37 #[.pointer (some ⟨bp, 0, none⟩), .pointer (some ⟨bs, 0, none⟩)] W (DoP (.int .i64 (errS fs s)) w0 W P fs (fun f => f = syncR s fs) wr off) := by
  have H := Lib.hid h
  have c0 := h.pow.c.1
  clear h
  go_enter Tryz.func37, Tryz.ntmps37
  go_upto_region 1 with fail
  go_still_tail 5, (by kernel_rfl)
  go_wp2_with fail
  have HD : Rest w0 W.drew P fs wr off := H.out.below (Below.refl _ W).drew
  have HD := Lib.hid HD
  refine (sync_any HD.out.disk.disk s).mono ?_
  rintro e W1 ⟨rfl, hd, hc⟩
  have HS := Lib.hid (St.of HD.out (Q := fun f => f = syncR s fs) hd hc (fun f hf => .inl (blk_syncR s f hf)) rfl)
  clear hd hc
  go_wp2_with fail
  go_ret
  exact ⟨rfl, HS.out.drew⟩

set_option maxRecDepth 20000 in
set_option maxHeartbeats 1600000 in
theorem pSync_any {w0 W : World} {P : PW} {fs : List Ent} {wr : Int} {off : Bool} (h : Rest w0 W P fs wr off) (hw : 0 ≤ wr ∧ wr ≤ 1000000) (s : ByteArray) :
    Calls Tryz.prog 18 #[.pointer (some ⟨P.pa, 0, none⟩), .string s] W (WPost (errS fs s) w0 W P fs (fun f => f = syncR s fs) wr off) := by
  have hB : Below W.heap.size W ((W.alloc (.cells #[.pointer (some ⟨P.pa, 0, none⟩)] 31)).alloc (.cells #[.string s] 9)) := ((Below.refl _ W).alloc (Nat.le_refl _) _).alloc (by simp) _
  have hp0 : ((W.alloc (.cells #[.pointer (some ⟨P.pa, 0, none⟩)] 31)).alloc (.cells #[.string s] 9)).cell? ⟨W.heap.size, 0, none⟩ = some (.pointer (some ⟨P.pa, 0, none⟩)) := (boxes2 W _ _ _ _).1
  have hp1 : ((W.alloc (.cells #[.pointer (some ⟨P.pa, 0, none⟩)] 31)).alloc (.cells #[.string s] 9)).cell? ⟨W.heap.size + 1, 0, none⟩ = some (.string s) := (boxes2 W _ _ _ _).2
  have hmf : ∀ (fn : Fn) (first cap : Array Value) (w : World), (Instr.makeFunc fn first cap).run Tryz.prog w = .ok (.func fn first cap) w := fun _ _ _ _ => rfl
  have H := Lib.hid (And.intro h hw); clear h hw
  have HB := Lib.hid hB; clear hB
  go_enter Tryz.func18, Tryz.ntmps18
  go_wp2_with fail
  obtain ⟨W1, hW1⟩ : ∃ W1, ((W.alloc (.cells #[.pointer (some ⟨P.pa, 0, none⟩)] 31)).alloc (.cells #[.string s] 9)) = W1 := ⟨_, rfl⟩
  have HB := HB.out
  rw [hW1] at HB hp0 hp1 ⊢
  clear hW1
  have h1 := H.out.1.below HB
  have hlow : ∀ k, mfoot P fs k → k < W.heap.size := H.out.1.lt
  refine (write_all h1 H.out.2 37 _ (enters_of Tryz.func37 (by kernel_rfl) rfl) (errS fs s) (fun f => f = syncR s fs) ?_).mono ?_
  · intro _ W2 hc2 h2
    have keep : ∀ b v, W.heap.size ≤ b → W1.cell? ⟨b, 0, none⟩ = some v → W2.cell? ⟨b, 0, none⟩ = some v := fun b v hb hv => by
      have hlt : b < W1.heap.size := World.block_lt_of_cell? W1 _ hv
      have hpa : P.pa < W.heap.size := hlow _ (.inr rfl)
      rw [World.cell?_of_block (w := W1) (hc2.block b hlt (fun e => by omega))]; exact hv
    exact pSync1_any h2 s _ _ (keep _ _ (by omega) hp0) (keep _ _ (by omega) hp1)
  rintro e W2 ⟨r, rfl, hr⟩
  have HR := Lib.hid (hr.back HB); clear hr
  go_wp2_with fail
  go_ret
  exact ⟨r, rfl, HR.out⟩

/-! ### Read -/
def RdP (v : Value) (w0 W : World) (P : PW) (fs : List Ent) (wr : Int) (off : Bool) (e : Ending) (W' : World) : Prop :=
  e = .returned v ∧ Rest w0 W' P fs wr off ∧ Below W.heap.size W W'
theorem pread_on {W : World} {pa d : Nat} {fuse : Int} {kp : Option Addr} {kn kcap : Nat} {wr done mu : Int} (h : PowerAt W pa d fuse kp kn kcap wr 0 done mu) (s r : ByteArray) (x : Int)
    (hrd : Calls Tryz.prog 25 #[.pointer (some ⟨d, 0, none⟩), .string s] W (RB (.tuple #[.string r, .int .i64 x]) W)) :
    Calls Tryz.prog 31 #[.pointer (some ⟨pa, 0, none⟩), .string s] W (RB (.tuple #[.string r, .int .i64 x]) W) := by
  have c0 := h.c.1
  have H := Lib.hid (And.intro h hrd); clear h hrd
  go_enter Tryz.func31, Tryz.ntmps31
  go_wp2_with fail
  refine (pis_yes c0).mono ?_
  rintro e w' ⟨rfl, rfl⟩
  go_wp2_with fail
  refine (pdown_any H.out.1).mono ?_
  rintro e w' ⟨rfl, rfl⟩
  simp only [ne_eq, not_true_eq_false, decide_false]
  go_wp2_with fail
  refine H.out.2.mono ?_
  rintro e W1 ⟨rfl, hB⟩
  have HB := Lib.hid hB; clear hB
  go_wp2_with fail
  go_ret2
  exact ⟨rfl, HB.out⟩
theorem pread_off {W : World} {pa d : Nat} {fuse : Int} {kp : Option Addr} {kn kcap : Nat} {wr done mu : Int} (h : PowerAt W pa d fuse kp kn kcap wr 1 done mu) (s : ByteArray) :
    Calls Tryz.prog 31 #[.pointer (some ⟨pa, 0, none⟩), .string s] W (RB (.tuple #[.string ⟨#[]⟩, .int .i64 8]) W) := by
  have c0 := h.c.1
  have H := Lib.hid h; clear h
  go_enter Tryz.func31, Tryz.ntmps31
  go_wp2_with fail
  refine (pis_yes c0).mono ?_
  rintro e w' ⟨rfl, rfl⟩
  go_wp2_with fail
  refine (pdown_any H.out).mono ?_
  rintro e w' ⟨rfl, rfl⟩
  simp only [ne_eq, Int.reduceEq, not_false_eq_true, decide_true]
  go_wp2_with fail
  go_ret2
  exact ⟨rfl, Below.refl _ _⟩
theorem pread_any {w0 W : World} {P : PW} {fs : List Ent} {wr : Int} {off : Bool} (h : Rest w0 W P fs wr off) (s : ByteArray) :
    Calls Tryz.prog 31 #[.pointer (some ⟨P.pa, 0, none⟩), .string s] W (RdP (.tuple #[.string (if off then ⟨#[]⟩ else readS fs s), .int .i64 (if off then 8 else errS fs s)]) w0 W P fs wr off) := by
  cases off
  · exact (pread_on h.pow s _ _ (read_any h.disk.disk s)).mono fun e W' ⟨he, hB⟩ => ⟨he, h.below hB, hB⟩
  · exact (pread_off h.pow s).mono fun e W' ⟨he, hB⟩ => ⟨he, h.below hB, hB⟩
end Go.Proofs.YtjdkhclcempafaaGreat
