import Derived.Test.YtjdkhclcempafaaGreatDkB
set_option linter.unusedVariables false
set_option linter.unusedSimpArgs false
namespace Go.Proofs.YtjdkhclcempafaaGreat
open Go.RowKit

/-! ### a disk in memory -/
structure Ent where
  name : ByteArray
  blk : Nat
  bytes : ByteArray
  sync : Nat

def kvOf (fs : List Ent) : KV := fs.map fun f => (f.name, f.blk)
def usedF (fs : List Ent) : Nat := (fs.map fun f => f.bytes.size).sum
def FileAt (w : World) (f : Ent) : Prop := w.heap[f.blk]? = some (.cells #[.string f.bytes, .int .i64 (f.sync : Int)] 84 (0, 0))

structure DiskOk (q : Nat) (fs : List Ent) : Prop where
  q1 : 1 ≤ q
  q2 : q ≤ 1048576
  n64 : fs.length ≤ 64
  names : ∀ f ∈ fs, nameOk f.name = true
  uniq : (fs.map (·.name)).Nodup
  blks : (fs.map (·.blk)).Nodup
  size : ∀ f ∈ fs, f.bytes.size ≤ 65536
  sync : ∀ f ∈ fs, f.sync ≤ f.bytes.size
  used : usedF fs ≤ q

structure DiskAt (w : World) (a m q : Nat) (fs : List Ent) : Prop where
  head : w.heap[a]? = some (.cells #[.int .i64 (q : Int), .map (some m)] 40 (0, 0))
  map : MapIs w m (kvOf fs)
  files : ∀ f ∈ fs, FileAt w f
  ok : DiskOk q fs

def foot (a m : Nat) (fs : List Ent) (k : Nat) : Prop := k = a ∨ k = m ∨ ∃ f ∈ fs, f.blk = k

/-- w' is w but for the blocks of S, and new ones -/
structure Chg (S : Nat → Prop) (w w' : World) : Prop where
  os : w'.os = w.os
  tape : w'.tape = w.tape
  output : w'.output = w.output
  size : w.heap.size ≤ w'.heap.size
  block : ∀ k, k < w.heap.size → ¬ S k → w'.heap[k]? = w.heap[k]?

theorem Chg.refl (S : Nat → Prop) (w : World) : Chg S w w := ⟨rfl, rfl, rfl, Nat.le_refl _, fun _ _ _ => rfl⟩
theorem Chg.trans {S : Nat → Prop} {a b c : World} (h : Chg S a b) (k : Chg S b c) : Chg S a c :=
  ⟨k.os.trans h.os, k.tape.trans h.tape, k.output.trans h.output, Nat.le_trans h.size k.size, fun i hi hs => (k.block i (Nat.lt_of_lt_of_le hi h.size) hs).trans (h.block i hi hs)⟩
theorem Chg.mono {S T : Nat → Prop} {a b : World} (h : Chg S a b) (hs : ∀ k, k < a.heap.size → S k → T k) : Chg T a b :=
  ⟨h.os, h.tape, h.output, h.size, fun i hi ht => h.block i hi (fun hc => ht (hs i hi hc))⟩
theorem Chg.of_below {S : Nat → Prop} {a b : World} (h : Below a.heap.size a b) : Chg S a b := ⟨h.os, h.tape, h.output, h.size, fun i hi _ => h.block i hi⟩
theorem Chg.to_below {S : Nat → Prop} {B : Nat} {a b : World} (h : Chg S a b) (hB : B ≤ a.heap.size) (hs : ∀ k, S k → B ≤ k) : Below B a b :=
  ⟨h.os, h.tape, h.output, h.size, fun i hi => h.block i (by omega) (fun hc => by have := hs i hc; omega)⟩
theorem Chg.of_grownBy {S : Nat → Prop} {a b : World} {m : Nat} (h : a.grownBy b (some m)) (hm : S m) : Chg S a b :=
  ⟨h.os, h.tape, h.output, h.size, fun i hi hs => h.block i hi (fun e => hs (by cases e; exact hm))⟩
theorem Chg.setCell {S : Nat → Prop} {a b : World} (h : Chg S a b) {p : Addr} (hp : p.block < a.heap.size → S p.block) (v : Value) : Chg S a (b.setCell p v) :=
  ⟨h.os, h.tape, h.output, by simpa [World.setCell] using h.size, fun i hi hs => (Below.heap_setCell _ _ _ _ (fun e => hs (by rw [e]; exact hp (by omega)))).trans (h.block i hi hs)⟩

theorem cell_of_heap {w : World} {b : Nat} {cs : Array Value} {t : TypeId} {fr : Nat × Nat} (h : w.heap[b]? = some (.cells cs t fr)) (k : Nat) : w.cell? ⟨b, k, none⟩ = cs[k]? := by
  simp [World.cell?, h]
theorem frozen_of_heap {w : World} {b : Nat} {cs : Array Value} {t : TypeId} (h : w.heap[b]? = some (.cells cs t (0, 0))) (k : Nat) : w.frozen? ⟨b, k, none⟩ = false := by
  simp [World.frozen?, h]
theorem lt_of_heap {w : World} {b : Nat} {o : Obj} (h : w.heap[b]? = some o) : b < w.heap.size := (Array.getElem?_eq_some_iff.1 h).1

section
variable {w w' : World} {a m q : Nat} {fs : List Ent}
theorem DiskAt.lt (h : DiskAt w a m q fs) : ∀ k, foot a m fs k → k < w.heap.size := by
  rintro k (rfl | rfl | ⟨f, hf, rfl⟩)
  · exact lt_of_heap h.head
  · exact h.map.lt
  · exact lt_of_heap (h.files f hf)
theorem DiskAt.kept (h : DiskAt w a m q fs) (hk : ∀ k, foot a m fs k → w'.heap[k]? = w.heap[k]?) : DiskAt w' a m q fs :=
  ⟨(hk a (.inl rfl)).trans h.head, h.map.kept (hk m (.inr (.inl rfl))), fun f hf => (hk f.blk (.inr (.inr ⟨f, hf, rfl⟩))).trans (h.files f hf), h.ok⟩
theorem DiskAt.chg {S : Nat → Prop} (h : DiskAt w a m q fs) (hc : Chg S w w') (hs : ∀ k, foot a m fs k → ¬ S k) : DiskAt w' a m q fs :=
  h.kept fun k hk => hc.block k (h.lt k hk) (hs k hk)
theorem DiskAt.below (h : DiskAt w a m q fs) (hc : Below w.heap.size w w') : DiskAt w' a m q fs :=
  h.kept fun k hk => hc.block k (h.lt k hk)
theorem DiskAt.c0 (h : DiskAt w a m q fs) : w.cell? ⟨a, 0, none⟩ = some (.int .i64 (q : Int)) := by rw [cell_of_heap h.head]; rfl
theorem DiskAt.c1 (h : DiskAt w a m q fs) : w.cell? ⟨a, 1, none⟩ = some (.map (some m)) := by rw [cell_of_heap h.head]; rfl
theorem DiskAt.b0 (h : DiskAt w a m q fs) {f : Ent} (hf : f ∈ fs) : w.cell? ⟨f.blk, 0, none⟩ = some (.string f.bytes) := by rw [cell_of_heap (h.files f hf)]; rfl
theorem DiskAt.b1 (h : DiskAt w a m q fs) {f : Ent} (hf : f ∈ fs) : w.cell? ⟨f.blk, 1, none⟩ = some (.int .i64 (f.sync : Int)) := by rw [cell_of_heap (h.files f hf)]; rfl
end

/-- the file of a name -/
def lookF (s : ByteArray) : List Ent → Option Ent
  | [] => none
  | f :: r => if s = f.name then some f else lookF s r
theorem getB_kvOf (s : ByteArray) (fs : List Ent) : getB s (kvOf fs) = (lookF s fs).map (·.blk) := by
  induction fs with
  | nil => rfl
  | cons f r ih =>
    simp only [kvOf, List.map_cons, getB, lookF] at ih ⊢
    split
    · rfl
    · exact ih
theorem lookF_mem {s : ByteArray} {fs : List Ent} {f : Ent} (h : lookF s fs = some f) : f ∈ fs ∧ f.name = s := by
  induction fs with
  | nil => cases h
  | cons g r ih =>
    simp only [lookF] at h
    split at h
    · rename_i he; cases h; exact ⟨List.mem_cons_self .., he.symm⟩
    · obtain ⟨h1, h2⟩ := ih h; exact ⟨List.mem_cons_of_mem _ h1, h2⟩
theorem lookF_none {s : ByteArray} {fs : List Ent} (h : lookF s fs = none) : ∀ f ∈ fs, f.name ≠ s := by
  induction fs with
  | nil => intro f hf; cases hf
  | cons g r ih =>
    simp only [lookF] at h
    split at h
    · cases h
    · rename_i he
      intro f hf
      rcases List.mem_cons.1 hf with rfl | hf
      · exact fun e => he e.symm
      · exact ih h f hf

theorem zeroPfile (w : World) : (zeroValue 80).run Tryz.prog w = .ok (.pointer none) w := by kernel_rfl
theorem DiskAt.look {w : World} {a m q : Nat} {fs : List Ent} (h : DiskAt w a m q fs) (s : ByteArray) :
    (Instr.lookup 38 (.map (some m)) (.string s) false).run Tryz.prog w = .ok (.pointer ((lookF s fs).map fun f => ⟨f.blk, 0, none⟩)) w := by
  have := h.map.lookup (P := Tryz.prog) (t := 38) (k := 9) (e := 80) Tryz.underlying38 Tryz.underlying9 (zeroPfile w) s
  rw [this, getB_kvOf]
  cases lookF s fs <;> rfl

/-! ### find -/
set_option maxHeartbeats 800000 in
theorem find_bad {w : World} {a m q : Nat} {fs : List Ent} (h : DiskAt w a m q fs) (s : ByteArray) (hs : nameOk s = false) :
    Calls Tryz.prog 45 #[.pointer (some ⟨a, 0, none⟩), .string s, .slice none 0 0] w (RB (.tuple #[.pointer none, .int .i64 2]) w) := by
  have hD := Lib.hid h; clear h
  go_enter Tryz.func45, Tryz.ntmps45
  go_wp2_with fail
  refine (may_any a m w.heap.size 1 [s] (by simp) _ (hD.out.below ((Below.refl _ _).alloc (Nat.le_refl _) _)).c1 (fun k hk => by have e : k = 0 := (by simpa using hk); subst e; simp) (by simp)).mono ?_
  rintro e w' ⟨rfl, hB⟩
  have hm : mayE [s] = 2 := mayE_no (k := 0) (by simp) (by simpa using hs)
  go_wp2_with fail
  go_ret2
  exact ⟨rfl, ((Below.refl _ _).alloc (Nat.le_refl _) _).trans (hB.mono (by simp))⟩

set_option maxHeartbeats 800000 in
theorem find_none {w : World} {a m q : Nat} {fs : List Ent} (h : DiskAt w a m q fs) (s : ByteArray) (hs : nameOk s = true) (hn : lookF s fs = none) :
    Calls Tryz.prog 45 #[.pointer (some ⟨a, 0, none⟩), .string s, .slice none 0 0] w (RB (.tuple #[.pointer none, .int .i64 5]) w) := by
  have hD := Lib.hid h; clear h
  have HN := Lib.hid hn; clear hn
  go_enter Tryz.func45, Tryz.ntmps45
  go_wp2_with fail
  refine (may_any a m w.heap.size 1 [s] (by simp) _ (hD.out.below ((Below.refl _ _).alloc (Nat.le_refl _) _)).c1 (fun k hk => by have e : k = 0 := (by simpa using hk); subst e; simp) (by simp)).mono ?_
  rintro e w' ⟨rfl, hB⟩
  have hm : mayE [s] = 0 := mayE_yes (by simp [hs])
  have hB2 := ((Below.refl _ _).alloc (Nat.le_refl _) _).trans (hB.mono (by simp))
  have hD2 := hD.out.below hB2
  have hl := hD2.look s
  rw [HN.out] at hl
  simp only [Option.map_none] at hl
  have hc1 := hD2.c1
  clear hD2
  go_wp2_with fail
  go_ret2
  exact ⟨rfl, hB2⟩

set_option maxHeartbeats 800000 in
theorem find_some {w : World} {a m q : Nat} {fs : List Ent} (h : DiskAt w a m q fs) (s : ByteArray) (hs : nameOk s = true) (f : Ent) (hn : lookF s fs = some f) :
    Calls Tryz.prog 45 #[.pointer (some ⟨a, 0, none⟩), .string s, .slice none 0 0] w (RB (.tuple #[.pointer (some ⟨f.blk, 0, none⟩), .int .i64 0]) w) := by
  have hD := Lib.hid h; clear h
  have HN := Lib.hid hn; clear hn
  go_enter Tryz.func45, Tryz.ntmps45
  go_wp2_with fail
  refine (may_any a m w.heap.size 1 [s] (by simp) _ (hD.out.below ((Below.refl _ _).alloc (Nat.le_refl _) _)).c1 (fun k hk => by have e : k = 0 := (by simpa using hk); subst e; simp) (by simp)).mono ?_
  rintro e w' ⟨rfl, hB⟩
  have hm : mayE [s] = 0 := mayE_yes (by simp [hs])
  have hB2 := ((Below.refl _ _).alloc (Nat.le_refl _) _).trans (hB.mono (by simp))
  have hD2 := hD.out.below hB2
  have hl := hD2.look s
  rw [HN.out] at hl
  simp only [Option.map_some] at hl
  have hc1 := hD2.c1
  clear hD2
  go_wp2_with fail
  go_ret2
  exact ⟨rfl, hB2⟩

theorem twoNames (w : World) (A : Obj) (s t : ByteArray) (Z : Array Value) (k : Nat) (hk : k < [s, t].length) :
    (((w.alloc A).alloc (Obj.cells (#[Value.string s, Value.string t] ++ Z) 9)).drew).cell? ⟨w.heap.size + 1, k, none⟩ = some (.string [s, t][k]) := by
  have h := World.cell?_alloc_new (w := w.alloc A) (#[Value.string s, Value.string t] ++ Z) 9 k
  rw [World.size_alloc] at h
  have hd : ∀ (W : World) (p : Addr), W.drew.cell? p = W.cell? p := fun _ _ => rfl
  rw [hd, h, Array.getElem?_append_left (by simpa using hk)]
  simp only [List.length_cons, List.length_nil] at hk
  match k, hk with
  | 0, _ => rfl
  | 1, _ => rfl
theorem twoBelow (w : World) (A B : Obj) : Below w.heap.size w ((w.alloc A).alloc B).drew := (((Below.refl _ _).alloc (Nat.le_refl _) _).alloc (by simp) _).drew

set_option maxHeartbeats 800000 in
theorem find2_bad {w : World} {a m q : Nat} {fs : List Ent} (h : DiskAt w a m q fs) (s t : ByteArray) (ob : Nat) (ho : w.cell? ⟨ob, 0, none⟩ = some (.string t)) (hs : (nameOk s && nameOk t) = false) :
    Calls Tryz.prog 45 #[.pointer (some ⟨a, 0, none⟩), .string s, .slice (some ⟨ob, 0, none⟩) 1 1] w (RB (.tuple #[.pointer none, .int .i64 2]) w) := by
  have hob : ob < w.heap.size := World.block_lt_of_cell? w _ ho
  have hD := Lib.hid h; clear h
  go_enter Tryz.func45, Tryz.ntmps45
  go_wp2_with fail
  refine (may_any a m (w.heap.size + 1) _ [s, t] (by simp) _ (hD.out.below (twoBelow _ _ _)).c1 (fun k hk => twoNames _ _ _ _ _ k hk) (by simp)).mono ?_
  rintro e w' ⟨rfl, hB⟩
  have hm : mayE [s, t] = 2 := by unfold mayE; rw [if_neg (by simp; intro h1; simpa [h1] using hs)]
  have hB2 := (twoBelow w _ _).trans (hB.mono (by simp; omega))
  go_wp2_with fail
  go_ret2
  exact ⟨rfl, hB2⟩

set_option maxHeartbeats 800000 in
theorem find2_none {w : World} {a m q : Nat} {fs : List Ent} (h : DiskAt w a m q fs) (s t : ByteArray) (ob : Nat) (ho : w.cell? ⟨ob, 0, none⟩ = some (.string t)) (hs : (nameOk s && nameOk t) = true) (hn : lookF s fs = none) :
    Calls Tryz.prog 45 #[.pointer (some ⟨a, 0, none⟩), .string s, .slice (some ⟨ob, 0, none⟩) 1 1] w (RB (.tuple #[.pointer none, .int .i64 5]) w) := by
  have hob : ob < w.heap.size := World.block_lt_of_cell? w _ ho
  have hD := Lib.hid h; clear h
  have HN := Lib.hid hn; clear hn
  go_enter Tryz.func45, Tryz.ntmps45
  go_wp2_with fail
  refine (may_any a m (w.heap.size + 1) _ [s, t] (by simp) _ (hD.out.below (twoBelow _ _ _)).c1 (fun k hk => twoNames _ _ _ _ _ k hk) (by simp)).mono ?_
  rintro e w' ⟨rfl, hB⟩
  have hm : mayE [s, t] = 0 := by unfold mayE; rw [if_pos (by simpa using hs)]
  have hB2 := (twoBelow w _ _).trans (hB.mono (by simp; omega))
  have hD2 := hD.out.below hB2
  have hl := hD2.look s
  rw [HN.out] at hl
  simp only [Option.map_none] at hl
  have hc1 := hD2.c1
  clear hD2
  go_wp2_with fail
  go_ret2
  exact ⟨rfl, hB2⟩

set_option maxHeartbeats 800000 in
theorem find2_some {w : World} {a m q : Nat} {fs : List Ent} (h : DiskAt w a m q fs) (s t : ByteArray) (ob : Nat) (ho : w.cell? ⟨ob, 0, none⟩ = some (.string t)) (hs : (nameOk s && nameOk t) = true) (f : Ent) (hn : lookF s fs = some f) :
    Calls Tryz.prog 45 #[.pointer (some ⟨a, 0, none⟩), .string s, .slice (some ⟨ob, 0, none⟩) 1 1] w (RB (.tuple #[.pointer (some ⟨f.blk, 0, none⟩), .int .i64 0]) w) := by
  have hob : ob < w.heap.size := World.block_lt_of_cell? w _ ho
  have hD := Lib.hid h; clear h
  have HN := Lib.hid hn; clear hn
  go_enter Tryz.func45, Tryz.ntmps45
  go_wp2_with fail
  refine (may_any a m (w.heap.size + 1) _ [s, t] (by simp) _ (hD.out.below (twoBelow _ _ _)).c1 (fun k hk => twoNames _ _ _ _ _ k hk) (by simp)).mono ?_
  rintro e w' ⟨rfl, hB⟩
  have hm : mayE [s, t] = 0 := by unfold mayE; rw [if_pos (by simpa using hs)]
  have hB2 := (twoBelow w _ _).trans (hB.mono (by simp; omega))
  have hD2 := hD.out.below hB2
  have hl := hD2.look s
  rw [HN.out] at hl
  simp only [Option.map_some] at hl
  have hc1 := hD2.c1
  clear hD2
  go_wp2_with fail
  go_ret2
  exact ⟨rfl, hB2⟩

end Go.Proofs.YtjdkhclcempafaaGreat
