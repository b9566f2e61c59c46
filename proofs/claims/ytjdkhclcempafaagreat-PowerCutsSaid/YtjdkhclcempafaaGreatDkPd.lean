import Derived.Test.YtjdkhclcempafaaGreatDkPc
import Derived.StillTailTactics
set_option linter.unusedVariables false
set_option linter.unusedSimpArgs false
namespace Go.Proofs.YtjdkhclcempafaaGreat
open Go.RowKit Go.Shelf Go.Sort Go.Maps

/-- what stays of a power: where it lies, its disk's places and quota, the fuse, the list that is kept -/
structure PW where
  pa : Nat
  a : Nat
  m : Nat
  q : Nat
  fuse : Int
  kp : Option Addr
  kcap : Nat
  ks : List Int
/-- the blocks of a power and its disk -/
def mfoot (P : PW) (fs : List Ent) (k : Nat) : Prop := foot P.a P.m fs k ∨ k = P.pa
/-- a whole machine: a power over a disk, both made since w0 -/
structure Mach (w0 W : World) (P : PW) (fs : List Ent) (wr off done mu : Int) : Prop where
  pow : PowerAt W P.pa P.a P.fuse P.kp P.ks.length P.kcap wr off done mu
  disk : Own w0 W P.a P.m P.q fs
  plow : w0.heap.size ≤ P.pa
  apart : ¬ foot P.a P.m fs P.pa
  keep : KeepAt W (mfoot P fs) P.kp P.ks
  fu : -9223372036854775808 ≤ P.fuse ∧ P.fuse ≤ 9223372036854775807
  kad : ∀ ad, P.kp = some ad → ad = ⟨ad.block, 0, none⟩

section
variable {w0 W W' : World} {P : PW} {fs fs' : List Ent} {wr off done mu : Int}
theorem Mach.plt (h : Mach w0 W P fs wr off done mu) : P.pa < W.heap.size := lt_of_heap h.pow.at_
theorem Mach.lt (h : Mach w0 W P fs wr off done mu) : ∀ k, mfoot P fs k → k < W.heap.size := by
  rintro k (hk | rfl)
  · exact h.disk.disk.lt k hk
  · exact h.plt
/-- nothing of it has turned -/
theorem Mach.kept (h : Mach w0 W P fs wr off done mu) (hk : ∀ k, mfoot P fs k → W'.heap[k]? = W.heap[k]?)
    (hkp : ∀ ad, P.kp = some ad → P.ks ≠ [] → W'.heap[ad.block]? = W.heap[ad.block]?) (hB : Below w0.heap.size w0 W') (hs : W.heap.size ≤ W'.heap.size) : Mach w0 W' P fs wr off done mu := by
  refine ⟨⟨(hk _ (.inr rfl)).trans h.pow.at_⟩, ⟨h.disk.disk.kept fun k hf => hk k (.inl hf), h.disk.low, hB⟩, h.plow, h.apart, ⟨fun k hlt => ?_, h.keep.2⟩, h.fu, h.kad⟩
  obtain ⟨ad, hp, hl, hsn, hcell⟩ := h.keep.1 k hlt
  have hne : P.ks ≠ [] := by intro e; rw [e] at hlt; exact absurd hlt (by simp)
  have e : (ad.add k).block = ad.block := by unfold Addr.add; split <;> rfl
  exact ⟨ad, hp, by omega, hsn, by rw [World.cell?_of_block (w := W) (by rw [e]; exact hkp ad hp hne)]; exact hcell⟩
theorem Mach.keepLt (h : Mach w0 W P fs wr off done mu) {ad : Addr} (hp : P.kp = some ad) (hne : P.ks ≠ []) : ad.block < W.heap.size ∧ ¬ mfoot P fs ad.block := by
  have hl : 0 < P.ks.length := by cases hk : P.ks with
    | nil => exact absurd hk hne
    | cons => simp
  obtain ⟨ad', hp', hl', hs', _⟩ := h.keep.1 0 hl
  rw [hp] at hp'; cases hp'
  exact ⟨hl', hs'⟩
theorem Mach.below (h : Mach w0 W P fs wr off done mu) (hB : Below W.heap.size W W') : Mach w0 W' P fs wr off done mu :=
  h.kept (fun k hk => hB.block k (h.lt k hk)) (fun ad hp hne => hB.block _ (h.keepLt hp hne).1) (h.disk.old.trans (hB.mono h.disk.old.size)) hB.size
/-- something else has turned -/
theorem Mach.chg {S : Nat → Prop} (h : Mach w0 W P fs wr off done mu) (hc : Chg S W W') (hs : ∀ k, mfoot P fs k → ¬ S k) (hkp : ∀ ad, P.kp = some ad → P.ks ≠ [] → ¬ S ad.block)
    (hlow : ∀ k, S k → w0.heap.size ≤ k) : Mach w0 W' P fs wr off done mu :=
  h.kept (fun k hk => hc.block k (h.lt k hk) (hs k hk)) (fun ad hp hne => hc.block _ (h.keepLt hp hne).1 (hkp ad hp hne)) (h.disk.old.trans (hc.to_below h.disk.old.size hlow)) hc.size
/-- the disk has turned -/
theorem Mach.op (h : Mach w0 W P fs wr off done mu) (hd : DiskAt W' P.a P.m P.q fs') (hc : Chg (foot P.a P.m fs) W W') (hb : ∀ f ∈ fs', (∃ g ∈ fs, g.blk = f.blk) ∨ W.heap.size ≤ f.blk) :
    Mach w0 W' P fs' wr off done mu := by
  have hfoot : ∀ k, k < W.heap.size → foot P.a P.m fs' k → foot P.a P.m fs k := by
    rintro k hk (e | e | ⟨f, hf, e⟩)
    · exact .inl e
    · exact .inr (.inl e)
    · rcases hb f hf with ⟨g, hg, he⟩ | hlt
      · exact .inr (.inr ⟨g, hg, he.trans e⟩)
      · omega
  refine ⟨⟨(hc.block _ h.plt h.apart).trans h.pow.at_⟩, h.disk.chg hd hc hb, h.plow, fun hf => h.apart (hfoot _ h.plt hf), ⟨fun k hlt => ?_, h.keep.2⟩, h.fu, h.kad⟩
  obtain ⟨ad, hp, hl, hsn, hcell⟩ := h.keep.1 k hlt
  have e : (ad.add k).block = ad.block := by unfold Addr.add; split <;> rfl
  refine ⟨ad, hp, Nat.lt_of_lt_of_le hl hc.size, ?_, by rw [World.cell?_of_block (w := W) (by rw [e]; exact hc.block _ hl (fun hf => hsn (.inl hf)))]; exact hcell⟩
  rintro (hf | hf)
  · exact hsn (.inl (hfoot _ hl hf))
  · exact hsn (.inr hf)
/-- a cell of the power is written -/
theorem Mach.set (h : Mach w0 W P fs wr off done mu) (j : Nat) (v : Value) {wr' off' done' mu' : Int}
    (hp : PowerAt (W.setCell ⟨P.pa, j, none⟩ v) P.pa P.a P.fuse P.kp P.ks.length P.kcap wr' off' done' mu') : Mach w0 (W.setCell ⟨P.pa, j, none⟩ v) P fs wr' off' done' mu' := by
  have hne : ∀ k, k ≠ P.pa → (W.setCell ⟨P.pa, j, none⟩ v).heap[k]? = W.heap[k]? := fun k hk => Below.heap_setCell _ _ _ _ hk
  have hB : Below w0.heap.size w0 (W.setCell ⟨P.pa, j, none⟩ v) := h.disk.old.trans ((((Chg.refl (fun k => k = P.pa) W).setCell (p := ⟨P.pa, j, none⟩) (fun _ => rfl) v)).to_below h.disk.old.size (fun k hk => hk ▸ h.plow))
  refine ⟨hp, ⟨h.disk.disk.kept fun k hf => hne k (fun e => h.apart (e ▸ hf)), h.disk.low, hB⟩, h.plow, h.apart, ⟨fun k hlt => ?_, h.keep.2⟩, h.fu, h.kad⟩
  obtain ⟨ad, hk, hl, hsn, hcell⟩ := h.keep.1 k hlt
  have e : (ad.add k).block = ad.block := by unfold Addr.add; split <;> rfl
  exact ⟨ad, hk, by simpa [World.setCell] using hl, hsn, by rw [World.cell?_of_block (w := W) (by rw [e]; exact hne _ (fun e => hsn (.inr e)))]; exact hcell⟩
theorem PowerAt.set3 {pa d : Nat} {fuse : Int} {kp : Option Addr} {kn kcap : Nat} (h : PowerAt W pa d fuse kp kn kcap wr off done mu) (x : Int) : PowerAt (W.setCell ⟨pa, 3, none⟩ (.int .i64 x)) pa d fuse kp kn kcap x off done mu := ⟨by rw [heap_setCell_at h.at_]; rfl⟩
theorem PowerAt.set4 {pa d : Nat} {fuse : Int} {kp : Option Addr} {kn kcap : Nat} (h : PowerAt W pa d fuse kp kn kcap wr off done mu) (x : Int) : PowerAt (W.setCell ⟨pa, 4, none⟩ (.int .i64 x)) pa d fuse kp kn kcap wr x done mu := ⟨by rw [heap_setCell_at h.at_]; rfl⟩
theorem PowerAt.set5 {pa d : Nat} {fuse : Int} {kp : Option Addr} {kn kcap : Nat} (h : PowerAt W pa d fuse kp kn kcap wr off done mu) (x : Int) : PowerAt (W.setCell ⟨pa, 5, none⟩ (.int .u32 x)) pa d fuse kp kn kcap wr off x mu := ⟨by rw [heap_setCell_at h.at_]; rfl⟩
theorem PowerAt.set6 {pa d : Nat} {fuse : Int} {kp : Option Addr} {kn kcap : Nat} (h : PowerAt W pa d fuse kp kn kcap wr off done mu) (x : Int) : PowerAt (W.setCell ⟨pa, 6, none⟩ (.int .i32 x)) pa d fuse kp kn kcap wr off done x := ⟨by rw [heap_setCell_at h.at_]; rfl⟩
theorem PowerAt.z {pa d : Nat} {fuse : Int} {kp : Option Addr} {kn kcap : Nat} (h : PowerAt W pa d fuse kp kn kcap wr off done mu) (j : Nat) : W.frozen? ⟨pa, j, none⟩ = false := frozen_of_heap h.at_ j
theorem PowerAt.c5 {pa d : Nat} {fuse : Int} {kp : Option Addr} {kn kcap : Nat} (h : PowerAt W pa d fuse kp kn kcap wr off done mu) : W.cell? ⟨pa, 5, none⟩ = some (.int .u32 done) := by rw [cell_of_heap h.at_]; rfl
theorem PowerAt.c6 {pa d : Nat} {fuse : Int} {kp : Option Addr} {kn kcap : Nat} (h : PowerAt W pa d fuse kp kn kcap wr off done mu) : W.cell? ⟨pa, 6, none⟩ = some (.int .i32 mu) := by rw [cell_of_heap h.at_]; rfl
theorem Chg.setP {S : Nat → Prop} (h : Chg S W W') (pa j : Nat) (hS : S pa) (v : Value) : Chg S W (W'.setCell ⟨pa, j, none⟩ v) := h.setCell (p := ⟨pa, j, none⟩) (fun _ => hS) v
end

/-- two changes, the second one's places new where they are not the first one's -/
theorem Chg.trans' {S T : Nat → Prop} {a b c : World} (h : Chg S a b) (k : Chg T b c) (hs : ∀ i, T i → S i ∨ a.heap.size ≤ i) : Chg S a c :=
  ⟨k.os.trans h.os, k.tape.trans h.tape, k.output.trans h.output, Nat.le_trans h.size k.size, fun i hi hn => (k.block i (Nat.lt_of_lt_of_le hi h.size) (fun ht => by
    rcases hs i ht with h | h
    · exact hn h
    · omega)).trans (h.block i hi hn)⟩

def MPost (v : Value) (w0 W : World) (P : PW) (fs fs' : List Ent) (wr off done mu : Int) (e : Ending) (W' : World) : Prop :=
  e = .returned v ∧ Mach w0 W' P fs' wr off done mu ∧ Chg (mfoot P fs) W W'

set_option maxRecDepth 20000 in
theorem blow1_any {w0 W : World} {P : PW} {fs : List Ent} {wr off done mu : Int} (h : Mach w0 W P fs wr off done mu)
    (bx : Nat) (hbx : W.cell? ⟨bx, 0, none⟩ = some (.pointer (some ⟨P.pa, 0, none⟩))) (hbn : ¬ foot P.a P.m fs bx) :
    Calls Tryz.prog 28 #[.pointer (some ⟨bx, 0, none⟩)] W (MPost (.tuple #[]) w0 W P fs (crashR P.ks fs) wr 1 done mu) := by
  have hbl : bx < W.heap.size := World.block_lt_of_cell? W _ hbx
  have H := Lib.hid h
  obtain ⟨c0, c1, c2, c3, c4⟩ := h.pow.c
  clear h
  go_enter Tryz.func28, Tryz.ntmps28
  go_upto_region 0 with fail
  go_still_tail 8, (by kernel_rfl)
  go_wp2_with fail
  have HD : Mach w0 W.drew P fs wr off done mu := H.out.below (Below.refl _ W).drew
  have HD := Lib.hid HD
  refine (crash_any HD.out.disk.disk P.kp P.kcap P.ks (keep_foot HD.out.keep (fun k hk => .inl hk))).mono ?_
  rintro e W1 ⟨rfl, hd, hc⟩
  have HM := Lib.hid (HD.out.op hd hc (fun f hf => .inl (blk_crashAt P.ks _ 0 fs f hf)))
  have HC := Lib.hid hc
  have hbx1 : W1.cell? ⟨bx, 0, none⟩ = some (.pointer (some ⟨P.pa, 0, none⟩)) := by
    rw [World.cell?_of_block (w := W) (hc.block bx hbl hbn)]; exact hbx
  clear hd hc hbx
  go_wp2_with fail
  refine (astore_any _ _ 1 _ HM.out.pow.c.2.2.2.2 (HM.out.pow.z 4)).mono ?_
  rintro e W2 ⟨rfl, rfl⟩
  go_wp2_with fail
  go_end0
  refine ⟨rfl, HM.out.set 4 _ (HM.out.pow.set4 1), ?_⟩
  exact Chg.setP (((Chg.of_below (S := mfoot P fs) (Below.refl _ W).drew).trans (HC.out.mono (fun k _ hk => .inl hk)))) _ _ (.inr rfl) _
end Go.Proofs.YtjdkhclcempafaaGreat
