import Derived.Test.YtjdkhclcempafaaDkQ
set_option linter.unusedVariables false
set_option linter.unusedSimpArgs false
namespace Go.Proofs.Ytjdkhclcempafaa
open Go.RowKit Go.Shelf Go.Sort Go.Maps

/-- an act -/
structure ActV where
  what : Int
  name : ByteArray
  dest : ByteArray
  bytes : ByteArray
  kp : Option Addr
  kcap : Nat
  keep : List Int

structure ActAt (w : World) (S : Nat → Prop) (b o : Nat) (A : ActV) : Prop where
  c0 : w.cell? ⟨b, o, none⟩ = some (.int .u8 A.what)
  c1 : w.cell? ⟨b, o + 1, none⟩ = some (.string A.name)
  c2 : w.cell? ⟨b, o + 2, none⟩ = some (.string A.dest)
  c3 : w.cell? ⟨b, o + 3, none⟩ = some (.string A.bytes)
  c4 : w.cell? ⟨b, o + 4, none⟩ = some (.slice A.kp A.keep.length A.kcap)
  lt : b < w.heap.size
  off : ¬ S b
  keep : KeepAt w S A.kp A.keep
  wh : 0 ≤ A.what ∧ A.what ≤ 255
  sz : A.bytes.size ≤ 9223372036854775807

def ActsAt (w : World) (S : Nat → Prop) (p : Option Addr) (l : List ActV) : Prop :=
  (∀ i (h : i < l.length), ∃ ad b o, p = some ad ∧ ad.add (i * 5) = ⟨b, o, none⟩ ∧ ActAt w S b o l[i]) ∧ l.length ≤ 9223372036854775807

theorem ActAt.chg {w w' : World} {S : Nat → Prop} {b o : Nat} {A : ActV} (h : ActAt w S b o A) (hc : Chg S w w') : ActAt w' S b o A := by
  have key : ∀ k, w'.cell? ⟨b, k, none⟩ = w.cell? ⟨b, k, none⟩ := fun k => World.cell?_of_block (hc.block _ h.lt h.off)
  exact ⟨(key _).trans h.c0, (key _).trans h.c1, (key _).trans h.c2, (key _).trans h.c3, (key _).trans h.c4, Nat.lt_of_lt_of_le h.lt hc.size, h.off, h.keep.chg hc, h.wh, h.sz⟩
theorem ActsAt.chg {w w' : World} {S : Nat → Prop} {p : Option Addr} {l : List ActV} (h : ActsAt w S p l) (hc : Chg S w w') : ActsAt w' S p l :=
  ⟨fun i hi => let ⟨ad, b, o, hp, ho, ha⟩ := h.1 i hi; ⟨ad, b, o, hp, ho, ha.chg hc⟩, h.2⟩

def BP (w : World) (e : Ending) (w' : World) : Prop := ∃ b : Bool, e = .returned (.bool b) ∧ w = w'

set_option maxHeartbeats 1000000 in
set_option maxRecDepth 20000 in
theorem few_any (w : World) (S : Nat → Prop) (p : Option Addr) (cap : Nat) (l : List ActV) (h : ActsAt w S p l) :
    Calls Try.prog 7 #[.slice p l.length cap] w (BP w) := by
  have HL := Lib.hid h; clear h
  have hlm := HL.out.2
  go_enter Try.func7, Try.ntmps7
  go_wp2
  go_loop [3] (fun i => ∃ k : Nat, k ≤ l.length ∧ k ≤ 120 ∧ i = .int .i64 k) (fun i => 120 - (intOf i).toNat)
  case atStart => exact ⟨0, Nat.zero_le _, Nat.zero_le _, rfl⟩
  case round =>
    obtain ⟨k, hk, hk2, rfl⟩ := hrel
    by_cases hlt : k < l.length
    · by_cases h120 : k < 120
      · obtain ⟨ad, b, o, hp, hadd, ha⟩ := HL.out.1 k hlt
        subst hp
        have h1 := ha.c1
        have h2 := ha.c2
        have h3 := ha.c3
        generalize l[k] = A at ha h1 h2 h3
        have HA := Lib.hid ha; clear ha
        by_cases t1 : (3000 : Int) < A.bytes.size
        · have d1 : decide ((3000 : Int) < A.bytes.size) = true := by simpa using t1
          go_wp2
          go_ret
          exact ⟨false, rfl, rfl⟩
        · have d1 : decide ((3000 : Int) < A.bytes.size) = false := by simpa using t1
          by_cases t2 : (100 : Int) < A.name.size
          · have d2 : decide ((100 : Int) < A.name.size) = true := by simpa using t2
            go_wp2
            go_ret
            exact ⟨false, rfl, rfl⟩
          · have d2 : decide ((100 : Int) < A.name.size) = false := by simpa using t2
            by_cases t3 : (100 : Int) < A.dest.size
            · have d3 : decide ((100 : Int) < A.dest.size) = true := by simpa using t3
              go_wp2
              go_ret
              exact ⟨false, rfl, rfl⟩
            · have d3 : decide ((100 : Int) < A.dest.size) = false := by simpa using t3
              go_wp2
              go_round
              case rel => exact ⟨k + 1, by omega, by omega, by go_num⟩
              case measure => simp [intOf]; omega
      · go_wp2
        go_ret
        exact ⟨_, rfl, rfl⟩
    · go_wp2
      go_ret
      exact ⟨_, rfl, rfl⟩
def ActV.val (A : ActV) : Value := .agg #[.int .u8 A.what, .string A.name, .string A.dest, .string A.bytes, .slice A.kp A.keep.length A.kcap]

def ActR (A : ActV) (q : Nat) (fs fs' : List Ent) : Prop :=
  if A.what % 8 = 0 ∨ A.what % 8 = 1 then fs' = appendR q A.name A.bytes fs
  else if A.what % 8 = 2 then ∃ b, fs' = createR b A.name fs
  else if A.what % 8 = 3 then fs' = syncR A.name fs
  else if A.what % 8 = 4 then fs' = renameR A.name A.dest fs
  else if A.what % 8 = 5 then fs' = removeR A.name fs
  else if A.what % 8 = 6 then fs' = crashR A.keep fs
  else (fs'.map tri).Perm (fs.map tri)

def DoPost (A : ActV) (w0 w : World) (a m q : Nat) (fs : List Ent) (e : Ending) (W' : World) : Prop :=
  ∃ a' m' fs' v, e = .returned (.tuple #[.pointer (some ⟨a', 0, none⟩), .int .i64 v]) ∧ Own w0 W' a' m' q fs' ∧ Chg (foot a m fs) w W' ∧ ActR A q fs fs'

theorem DoPost.of {A : ActV} {w0 w : World} {a m q : Nat} {fs fs' : List Ent} {v : Int} {o : Obj} {W' : World} (O : Own w0 w a m q fs) (hd : DiskAt W' a m q fs') (hc : Chg (foot a m fs) (w.alloc o) W')
    (hb : ∀ f ∈ fs', (∃ g ∈ fs, g.blk = f.blk) ∨ w.heap.size ≤ f.blk) (hr : ActR A q fs fs') : DoPost A w0 w a m q fs (.returned (.tuple #[.pointer (some ⟨a, 0, none⟩), .int .i64 v])) W' := by
  have hB : Below w.heap.size w (w.alloc o) := (Below.refl _ _).alloc (Nat.le_refl _) _
  have hc' := chg_of hB hc
  exact ⟨a, m, fs', v, rfl, O.chg hd hc' hb, hc', hr⟩

set_option maxHeartbeats 1000000 in
set_option maxRecDepth 20000 in
theorem do_any {w0 w : World} {a m q : Nat} {fs : List Ent} (O : Own w0 w a m q fs) (A : ActV) (hw : 0 ≤ A.what ∧ A.what ≤ 255) (hk : KeepAt w (fun k => w0.heap.size ≤ k) A.kp A.keep) (hsz : A.bytes.size ≤ 9223372036854775807) :
    Calls Try.prog 12 #[.pointer (some ⟨a, 0, none⟩), A.val] w (DoPost A w0 w a m q fs) := by
  have HO := Lib.hid O; clear O
  have HK := Lib.hid hk; clear hk
  have hB : Below w.heap.size w (w.alloc (.cells #[.int .u8 A.what, .string A.name, .string A.dest, .string A.bytes, .slice A.kp A.keep.length A.kcap] 36)) := (Below.refl _ _).alloc (Nat.le_refl _) _
  have HB := Lib.hid hB; clear hB
  unfold ActV.val
  go_enter Try.func12, Try.ntmps12
  have h8 : A.what.tmod 8 = A.what % 8 := Int.tmod_eq_emod_of_nonneg (by omega)
  have hcs : A.what % 8 = 0 ∨ A.what % 8 = 1 ∨ A.what % 8 = 2 ∨ A.what % 8 = 3 ∨ A.what % 8 = 4 ∨ A.what % 8 = 5 ∨ A.what % 8 = 6 ∨ A.what % 8 = 7 := by omega
  rcases hcs with c | c | c | c | c | c | c | c
  · go_wp2_with fail
    refine (append_any (HO.out.disk.below HB.out) A.name A.bytes hsz).mono ?_
    rintro e w1 ⟨rfl, hd, hc⟩
    have H1 := Lib.hid (And.intro hd hc); clear hd hc
    go_wp2_with fail
    go_ret2
    exact .of HO.out H1.out.1 H1.out.2 (fun f hf => .inl (blk_appendR _ _ f hf)) (by simp [ActR, c])
  · go_wp2_with fail
    refine (append_any (HO.out.disk.below HB.out) A.name A.bytes hsz).mono ?_
    rintro e w1 ⟨rfl, hd, hc⟩
    have H1 := Lib.hid (And.intro hd hc); clear hd hc
    go_wp2_with fail
    go_ret2
    exact .of HO.out H1.out.1 H1.out.2 (fun f hf => .inl (blk_appendR _ _ f hf)) (by simp [ActR, c])
  · go_wp2_with fail
    refine (create_any (HO.out.disk.below HB.out) A.name).mono ?_
    rintro e w1 ⟨b, hb, rfl, hd, hc⟩
    have H1 := Lib.hid (And.intro hd hc); clear hd hc
    go_wp2_with fail
    go_ret2
    exact .of HO.out H1.out.1 H1.out.2 (fun f hf => (blk_createR b _ f hf).imp id fun (e : f.blk = b) => by simp at hb; omega) (by simp [ActR, c]; exact ⟨b, rfl⟩)
  · go_wp2_with fail
    refine (sync_any (HO.out.disk.below HB.out) A.name).mono ?_
    rintro e w1 ⟨rfl, hd, hc⟩
    have H1 := Lib.hid (And.intro hd hc); clear hd hc
    go_wp2_with fail
    go_ret2
    exact .of HO.out H1.out.1 H1.out.2 (fun f hf => .inl (blk_syncR _ f hf)) (by simp [ActR, c])
  · go_wp2_with fail
    refine (rename_any (HO.out.disk.below HB.out) A.name A.dest).mono ?_
    rintro e w1 ⟨rfl, hd, hc⟩
    have H1 := Lib.hid (And.intro hd hc); clear hd hc
    go_wp2_with fail
    go_ret2
    exact .of HO.out H1.out.1 H1.out.2 (fun f hf => .inl (blk_renameR _ _ f hf)) (by simp [ActR, c])
  · go_wp2_with fail
    refine (remove_any (HO.out.disk.below HB.out) A.name).mono ?_
    rintro e w1 ⟨rfl, hd, hc⟩
    have H1 := Lib.hid (And.intro hd hc); clear hd hc
    go_wp2_with fail
    go_ret2
    exact .of HO.out H1.out.1 H1.out.2 (fun f hf => .inl (blk_removeR _ f hf)) (by simp [ActR, c])
  · go_wp2_with fail
    refine (crash_any (HO.out.disk.below HB.out) A.kp A.kcap A.keep (keep_foot (HK.out.below HB.out) HO.out.low)).mono ?_
    rintro e w1 ⟨rfl, hd, hc⟩
    have H1 := Lib.hid (And.intro hd hc); clear hd hc
    go_wp2_with fail
    go_ret2
    exact .of HO.out H1.out.1 H1.out.2 (fun f hf => .inl (blk_crashAt _ _ _ _ f hf)) (by simp [ActR, c])
  · go_wp2_with fail
    refine (copy_any (HO.out.disk.below HB.out)).mono ?_
    rintro e w1 ⟨a', m', cs, rfl, hl, hd, hp, hb⟩
    have H1 := Lib.hid (And.intro hl (And.intro hd (And.intro hp hb))); clear hl hd hp hb
    go_wp2_with fail
    go_ret2
    obtain ⟨hl, hd, hp, hb⟩ := H1.out
    have hB2 := HB.out.trans (hb.mono HB.out.size)
    refine ⟨a', m', cs, _, rfl, ⟨hd, fun k hk => ?_, HO.out.old.trans (hB2.mono HO.out.old.size)⟩, Chg.of_below hB2, by simpa [ActR, c] using hp⟩
    have h1 := hl k hk
    have h2 := HO.out.old.size
    simp at h1
    omega
end Go.Proofs.Ytjdkhclcempafaa
