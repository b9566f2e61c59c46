import Derived.Test.YtjdkhclcempafaaGreatDkT
import Derived.Sort.CutIn
import Derived.Sort.QuietIn
import Derived.Outline
set_option linter.unusedVariables false
set_option linter.unusedSimpArgs false
namespace Go.Proofs.YtjdkhclcempafaaGreat
open Go.RowKit Go.Shelf Go.Sort Go.Maps

attribute [local go_sem] Oper.semAt_some

/-- a list of numbers to keep, in memory: away from S -/
def KeepAt (w : World) (S : Nat → Prop) (p : Option Addr) (ks : List Int) : Prop :=
  (∀ k, k < ks.length → ∃ ad, p = some ad ∧ ad.block < w.heap.size ∧ ¬ S ad.block ∧ w.cell? (ad.add k) = some (.int .i64 (ks.getD k 0))) ∧ ks.length ≤ 9223372036854775807 ∧ ∀ x ∈ ks, -9223372036854775808 ≤ x ∧ x ≤ 9223372036854775807

def crashK (ks : List Int) (i : Nat) : Int := if ks = [] then 0 else ks.getD (i % ks.length) 0
def crashS (k : Int) (f : Ent) : Nat := f.sync + (k % ((f.bytes.size - f.sync + 1 : Nat) : Int)).toNat
def crashG (k : Int) (f : Ent) : Ent := { f with bytes := f.bytes.extract 0 (crashS k f), sync := crashS k f }
def crashAt (ks : List Int) : Nat → List ByteArray → List Ent → List Ent
  | _, [], fs => fs
  | i, s :: r, fs => crashAt ks (i + 1) r (setF s (crashG (crashK ks i)) fs)
theorem crashAt_snoc (ks : List Int) : ∀ (i : Nat) (l : List ByteArray) (s : ByteArray) (fs : List Ent), crashAt ks i (l ++ [s]) fs = setF s (crashG (crashK ks (i + l.length))) (crashAt ks i l fs)
  | i, [], s, fs => by simp [crashAt]
  | i, x :: r, s, fs => by
    simp only [List.cons_append, crashAt]
    rw [crashAt_snoc ks (i + 1) r s]
    simp only [List.length_cons]
    rw [show i + 1 + r.length = i + (r.length + 1) by omega]
def crashR (ks : List Int) (fs : List Ent) : List Ent := crashAt ks 0 ((sortKV (kvOf fs)).map (·.1)) fs

/-! ### the loop's own facts -/
theorem setF_names (s : ByteArray) (g : Ent → Ent) (fs : List Ent) (h1 : ∀ f, (g f).name = f.name) (h2 : ∀ f, (g f).blk = f.blk) : kvOf (setF s g fs) = kvOf fs :=
  setF_eq s g fs (fun f => (f.name, f.blk)) (fun f => by rw [h1, h2])
theorem crashAt_kv (ks : List Int) : ∀ (l : List ByteArray) (i : Nat) (fs : List Ent), kvOf (crashAt ks i l fs) = kvOf fs
  | [], _, _ => rfl
  | s :: r, i, fs => by simp only [crashAt]; rw [crashAt_kv ks r]; exact setF_names _ _ _ (fun _ => rfl) (fun _ => rfl)

theorem KeepAt.chg {w w' : World} {S : Nat → Prop} {p : Option Addr} {ks : List Int} (h : KeepAt w S p ks) (hc : Chg S w w') : KeepAt w' S p ks := by
  refine ⟨fun k hk => ?_, h.2.1, h.2.2⟩
  obtain ⟨ad, hp, hl, hs, hcell⟩ := h.1 k hk
  refine ⟨ad, hp, Nat.lt_of_lt_of_le hl hc.size, hs, ?_⟩
  have e : (ad.add k).block = ad.block := by unfold Addr.add; split <;> rfl
  rw [World.cell?_of_block (w := w) (by rw [e]; exact hc.block _ hl hs)]
  exact hcell

theorem foot_kv {a m : Nat} {fs fs' : List Ent} (h : kvOf fs' = kvOf fs) (k : Nat) : foot a m fs' k ↔ foot a m fs k := by
  have key : ∀ (x y : List Ent), kvOf x = kvOf y → (∃ f ∈ x, f.blk = k) → ∃ f ∈ y, f.blk = k := by
    rintro x y he ⟨f, hf, rfl⟩
    have : (f.name, f.blk) ∈ kvOf y := by rw [← he]; exact List.mem_map_of_mem hf
    obtain ⟨g, hg, hge⟩ := List.mem_map.1 this
    exact ⟨g, hg, congrArg Prod.snd hge⟩
  unfold foot
  constructor
  · rintro (h1 | h1 | h1)
    · exact .inl h1
    · exact .inr (.inl h1)
    · exact .inr (.inr (key _ _ h h1))
  · rintro (h1 | h1 | h1)
    · exact .inl h1
    · exact .inr (.inl h1)
    · exact .inr (.inr (key _ _ h.symm h1))

/-- the same memory, some orders having been drawn -/
def SH (W W' : World) : Prop := ∃ n, W' = W.drewN n
theorem SH.refl (W : World) : SH W W := ⟨0, rfl⟩
theorem SH.drew {W W' : World} (h : SH W W') : SH W W'.drew := by
  obtain ⟨n, rfl⟩ := h
  exact ⟨n + 1, World.drewN_drewN (w := W) n 1⟩
theorem SH.heap {W W' : World} (h : SH W W') : W'.heap = W.heap := by obtain ⟨n, rfl⟩ := h; rfl
theorem SH.cell {W W' : World} (h : SH W W') (a : Addr) : W'.cell? a = W.cell? a := by obtain ⟨n, rfl⟩ := h; rfl
theorem SH.frozen {W W' : World} (h : SH W W') (a : Addr) : W'.frozen? a = W.frozen? a := by obtain ⟨n, rfl⟩ := h; rfl
theorem SH.set {W W' : World} (h : SH W W') (a : Addr) (v : Value) : SH (W.setCell a v) (W'.setCell a v) := by
  obtain ⟨n, rfl⟩ := h
  exact ⟨n, rfl⟩

/-- what the loop has done so far -/
structure CrashSt (w : World) (fs : List Ent) (q a m : Nat) (p : Option Addr) (cap : Nat) (ks : List Int) (pre : List (KE fs)) (W : World) : Prop where
  kbox : One W w.heap.size (.slice p ks.length cap) 22
  ibox : One W (w.heap.size + 1) (.int .i64 (pre.length : Int)) 3
  disk : DiskAt W a m q (crashAt ks 0 (pre.map (·.1.1)) fs)
  chg : Chg (foot a m fs) w W

set_option maxRecDepth 100000 in
set_option maxHeartbeats 4000000 in
theorem crash_any {w : World} {a m q : Nat} {fs : List Ent} (h : DiskAt w a m q fs) (p : Option Addr) (cap : Nat) (ks : List Int) (hk : KeepAt w (foot a m fs) p ks) :
    Calls Tryz.prog 29 #[.pointer (some ⟨a, 0, none⟩), .slice p ks.length cap] w (DPost (.tuple #[]) a m q fs (crashR ks fs) w) := by
  have hD := Lib.hid h; clear h
  have hK := Lib.hid hk; clear hk
  have hc0 := hD.out.c0
  have hc1 := hD.out.c1
  have hfE : Fence.wide.fn 44 := trivial
  refine (callsIn_wide (n := 13)).1 ?_
  refine callsIn_of_wp_marks Tryz.func29 rfl trivial ?_ rfl
  simp only [Tryz.ntmps29, List.size_toArray, List.length_cons, List.length_nil, Nat.reduceAdd, Nat.reduceSub, Array.replicate_succ, Array.replicate_zero, List.push_toArray, List.append_toArray, List.nil_append, List.cons_append]
  gi_wp2_with fail
  refine (callsIn_wide.2 (each_any _ _)).mono ?_
  rintro e w' ⟨rfl, rfl⟩
  gi_wp2_with fail
  have hwa := hD.out.lt a (.inl rfl)
  have hwm := hD.out.lt m (.inr (.inl rfl))
  have hwf : ∀ f ∈ fs, f.blk < w.heap.size := fun f hf => hD.out.lt _ (.inr (.inr ⟨f, hf, rfl⟩))
  have hB0 : Below w.heap.size w (((w.alloc (.cells #[.slice p ks.length cap] 22)).alloc (.cells #[.int .i64 0] 3)).alloc (.cells #[.pointer (some ⟨a, 0, none⟩)] 29)) := (((Below.refl _ w).alloc (Nat.le_refl _) _).alloc (by simp) _).alloc (by simp; omega) _
  have hkb : One (((w.alloc (.cells #[.slice p ks.length cap] 22)).alloc (.cells #[.int .i64 0] 3)).alloc (.cells #[.pointer (some ⟨a, 0, none⟩)] 29)) w.heap.size (.slice p ks.length cap) 22 := ((One.new w _ _).alloc _).alloc _
  have hib : One (((w.alloc (.cells #[.slice p ks.length cap] 22)).alloc (.cells #[.int .i64 0] 3)).alloc (.cells #[.pointer (some ⟨a, 0, none⟩)] 29)) (w.heap.size + 1) (.int .i64 0) 3 := by
    have := One.new (w.alloc (.cells #[.slice p ks.length cap] 22)) (.int .i64 0) 3
    rw [World.size_alloc] at this
    exact this.alloc _
  have hbx : One (((w.alloc (.cells #[.slice p ks.length cap] 22)).alloc (.cells #[.int .i64 0] 3)).alloc (.cells #[.pointer (some ⟨a, 0, none⟩)] 29)) (w.heap.size + 1 + 1) (.pointer (some ⟨a, 0, none⟩)) 29 := by
    have := One.new ((w.alloc (.cells #[.slice p ks.length cap] 22)).alloc (.cells #[.int .i64 0] 3)) (.pointer (some ⟨a, 0, none⟩)) 29
    rwa [World.size_alloc, World.size_alloc] at this
  obtain ⟨W0, hW0⟩ : ∃ W0, ((w.alloc (.cells #[.slice p ks.length cap] 22)).alloc (.cells #[.int .i64 0] 3)).alloc (.cells #[.pointer (some ⟨a, 0, none⟩)] 29) = W0 := ⟨_, rfl⟩
  have hsz0 : W0.heap.size = w.heap.size + 3 := by rw [← hW0]; simp
  rw [hW0] at hkb hib hbx hB0 ⊢
  have hD0 := hD.out.below hB0
  clear hW0
  refine wpIn_rangeFunc_ownG rfl (by omega) (gf := 51) (lb := #[.pointer (some ⟨w.heap.size + 1 + 1, 0, none⟩)]) rfl trivial (enters_of Tryz.func51 (by kernel_rfl) rfl)
    (each1_stops hD0 (w.heap.size + 1 + 1) hbx (fun _ k => k = w.heap.size + 1 ∨ ∃ f ∈ fs, f.blk = k) (fun W hW k hk => by
      rcases hk with rfl | ⟨f, hf, rfl⟩
      · omega
      · have h1 := hD.out.ne_a hf
        have h2 := hD.out.ne_m hf
        have h3 := hwf f hf
        exact ⟨by omega, h1, h2, by omega⟩)) KeepT.trans (KeepT.putObj (fun _ _ _ _ _ h => h)) (Below.refl _ _) (fun _ => rfl)
    (fun pre W => W0.heap.size ≤ W.heap.size ∧ CrashSt w fs q a m p cap ks pre W)
    (fun _ _ _ => False)
    (ownFrom_low (fun pre X Y hX ho ht hu hs hk hc => by
      refine ⟨(hk _ (by omega)).trans hc.kbox, (hk _ (by omega)).trans hc.ibox, hc.disk.kept (fun k hf => hk k ?_), ⟨ho.trans hc.chg.os, ht.trans hc.chg.tape, hu.trans hc.chg.output, Nat.le_trans hc.chg.size hs, fun k hk' hn => (hk k (by omega)).trans (hc.chg.block k hk' hn)⟩⟩
      rw [foot_kv (crashAt_kv ks _ 0 fs)] at hf
      have := hD.out.lt k hf
      omega))
    (fun _ _ _ _ _ hs _ _ => hs)
    ⟨Nat.le_refl _, hkb, hib, hD0, Chg.of_below hB0⟩
    (fun x => { tmps := #[.pointer (some ⟨a, 0, none⟩), .slice p ks.length cap, undef, .pointer (some ⟨w.heap.size, 0, none⟩), .pointer (some ⟨w.heap.size + 1, 0, none⟩), undef, .pointer (some ⟨x.1.2, 0, none⟩), undef, undef, .pointer (some ⟨a, 0, none⟩),
      .func (.func 51) #[] #[.pointer (some ⟨w.heap.size + 1 + 1, 0, none⟩)], .string x.1.1, .pointer (some ⟨x.1.2, 0, none⟩), undef, undef, undef, undef, undef, undef, undef, undef, undef, undef, undef, undef, undef, undef, undef, undef, undef, undef, undef, undef, undef, undef, undef, undef, undef, undef, undef, undef, undef, undef, undef, undef, undef, undef, undef, undef, undef, undef, undef, undef, undef, undef, undef, undef, undef, undef, undef, undef, undef], defers := [] }) ?assign ?body ?done ?stop
  case assign =>
    intro l x W K hK
    unfold encsK
    gi_wp2
    exact hK
  case body =>
    rintro l pre x W ⟨hs, hc⟩ hlen
    obtain ⟨cur, hcur⟩ : ∃ cur, crashAt ks 0 (pre.map (·.1.1)) fs = cur := ⟨_, rfl⟩
    have hDW := hc.disk
    rw [hcur] at hDW
    have hkvc : kvOf cur = kvOf fs := by rw [← hcur]; exact crashAt_kv _ _ _ _
    have hxm : x.1 ∈ kvOf cur := by rw [hkvc]; exact x.2
    obtain ⟨f, hf, hfe⟩ := List.mem_map.1 hxm
    have hfn : f.name = x.1.1 := congrArg Prod.fst hfe
    have hfb : f.blk = x.1.2 := congrArg Prod.snd hfe
    have hlk : lookF x.1.1 cur = some f := by rw [← hfn]; exact lookF_of_mem hDW.ok.uniq hf
    have hb0 := hDW.b0 hf
    have hb1 := hDW.b1 hf
    have hbh := hDW.files f hf
    unfold FileAt at hbh
    rw [hfb] at hb0 hb1 hbh
    have hz0 := frozen_of_heap hbh 0
    have hz1 := frozen_of_heap hbh 1
    have hfsz := hDW.ok.size f hf
    have hfsy := hDW.ok.sync f hf
    have hck := hc.kbox.cell
    have hci := hc.ibox.cell
    have hzi := hc.ibox.free
    have hn64 := hD.out.ok.n64
    have hxlt : x.1.2 < w.heap.size := by
      have : x.1 ∈ kvOf fs := x.2
      obtain ⟨g, hg, hge⟩ := List.mem_map.1 this
      rw [← congrArg Prod.snd hge]
      exact hwf g hg
    have hxn : ¬ x.1.2 = w.heap.size + 1 := by omega
    have hxn' : ¬ w.heap.size + 1 = x.1.2 := by omega
    have HKA := Lib.hid (hK.out.chg hc.chg)
    have HC := Lib.hid hc; clear hc
    have HDW := Lib.hid hDW; clear hDW
    have HX := Lib.hid (And.intro hcur (And.intro hkvc (And.intro hf (And.intro hfn (And.intro hfb (And.intro hlk hbh)))))); clear hcur hkvc hf hfn hfb hlk hbh hfe hxm
    have HS := Lib.hid hs; clear hs
    obtain ⟨kk, hkk⟩ : ∃ kk, crashK ks pre.length = kk := ⟨_, rfl⟩
    have hkb : -9223372036854775808 ≤ kk ∧ kk ≤ 9223372036854775807 := by
      rw [← hkk]
      unfold crashK
      split
      · omega
      · rename_i hne
        have hlt : pre.length % ks.length < ks.length := Nat.mod_lt _ (List.length_pos_iff.2 hne)
        have : ks.getD (pre.length % ks.length) 0 ∈ ks := by
          simp only [List.getD, List.getElem?_eq_getElem hlt, Option.getD_some]
          exact List.getElem_mem hlt
        exact hK.out.2.2 _ this
    have HKK := Lib.hid hkk; clear hkk
    gi_upto_if 15 with (fail)
    gi_cut [7] from 13 (fun v7 wc => v7 = .int .i64 kk ∧ SH W wc)
    case first =>
      by_cases hks : ks = []
      · have hkk0 : kk = 0 := by rw [← HKK.out]; simp [crashK, hks]
        have HK0 := Lib.hid hkk0; clear hkk0
        subst hks
        gi_wp2_with fail
        gi_meet
        case rel => exact ⟨by rw [HK0.out], SH.refl _⟩
      · have hlt : pre.length % ks.length < ks.length := Nat.mod_lt _ (List.length_pos_iff.2 hks)
        have hkl : decide (0 < (ks.length : Int)) = true := by have := List.length_pos_iff.2 hks; simp; omega
        obtain ⟨ad, hp, hal, hns, hcell⟩ := HKA.out.1 _ hlt
        have hkk1 : ks.getD (pre.length % ks.length) 0 = kk := by rw [← HKK.out]; simp [crashK, hks]
        rw [hkk1] at hcell
        have hlm := HKA.out.2.1
        have hl0 : 0 < ks.length := List.length_pos_iff.2 hks
        have htm : (pre.length : Int).tmod (ks.length : Int) = (pre.length : Int) % (ks.length : Int) := Int.tmod_eq_emod_of_nonneg (by omega)
        have hT : ((pre.length : Int).tmod (ks.length : Int)).toNat = pre.length % ks.length := by rw [htm]; omega
        have hge : 0 ≤ (pre.length : Int).tmod (ks.length : Int) := by rw [htm]; omega
        have hltI : (pre.length : Int).tmod (ks.length : Int) < (ks.length : Int) := by rw [htm]; exact Int.emod_lt_of_pos _ (by omega)
        clear htm
        clear hkk1
        subst hp
        gi_wp2_with fail
        refine region_tail_round 7 (by kernel_rfl) (by kernel_rfl) (by kernel_rfl) ?_
        simp only [List.take_succ_cons, List.take_zero, List.drop_succ_cons, List.drop_zero]
        repeat still_step
        refine wpStill_nil ?_
        gi_wp2_with fail
        gi_meet
        case rel => exact ⟨rfl, (SH.refl W).drew⟩
    case rest =>
      obtain ⟨rfl, hsh⟩ := hcut
      have hb0' := (hsh.cell _).trans hb0
      have hb1' := (hsh.cell _).trans hb1
      have hz0' := (hsh.frozen _).trans hz0
      have hz1' := (hsh.frozen _).trans hz1
      have hci' := (hsh.cell _).trans hci
      have hzi' := (hsh.frozen _).trans hzi
      have HSH := Lib.hid hsh; clear hsh
      have hw1 : IntKind.i64.wrap ((f.bytes.size : Int) - f.sync) = f.bytes.size - f.sync := wrap_small' (by omega) (by omega)
      have hw2 : IntKind.i64.wrap ((f.bytes.size : Int) - f.sync + 1) = f.bytes.size - f.sync + 1 := wrap_small' (by omega) (by omega)
      gi_wp2_with fail
      refine region_tail_round 11 (by kernel_rfl) (by kernel_rfl) (by kernel_rfl) ?_
      simp only [List.take_succ_cons, List.take_zero, List.drop_succ_cons, List.drop_zero]
      repeat still_step
      refine wpStill_nil ?_
      gi_wp2_with fail
      obtain ⟨d, hd⟩ : ∃ d : Int, (f.bytes.size : Int) - f.sync + 1 = d := ⟨_, rfl⟩
      rw [hd]
      have hd1 : 1 ≤ d := by omega
      have hd0 : ¬ d = 0 := by omega
      have hd2 : d ≤ 9223372036854775808 := by omega
      have ht1 : kk.tmod d < d := Int.tmod_lt_of_pos _ (by omega)
      have ht2 : - d < kk.tmod d := by have := Int.lt_tmod_of_pos kk (b := d) (by omega); omega
      have hw3 : IntKind.i64.wrap (kk.tmod d + d) = kk.tmod d + d := wrap_small' (by omega) (by omega)
      have hw4 : (kk.tmod d + d).tmod d = kk % d := by
        rw [Int.tmod_eq_emod_of_nonneg (by omega), Int.add_emod_right]
        have h1 := Int.mul_tdiv_add_tmod kk d
        have h2 : kk.tmod d = kk - d * kk.tdiv d := by omega
        rw [h2, Int.sub_mul_emod_self_left]
      have he1 : 0 ≤ kk % d := Int.emod_nonneg _ (by omega)
      have he2 : kk % d < d := Int.emod_lt_of_pos _ (by omega)
      have hw5 : IntKind.i64.wrap ((f.sync : Int) + kk % d) = f.sync + kk % d := wrap_small' (by omega) (by omega)
      have hsb : (f.sync : Int) + kk % d ≤ f.bytes.size := by omega
      have hsp : 0 ≤ (f.sync : Int) + kk % d := by omega
      have HDD := Lib.hid hd; clear hd
      refine region_tail_round 14 (by kernel_rfl) (by kernel_rfl) (by kernel_rfl) ?_
      simp only [List.take_succ_cons, List.take_zero, List.drop_succ_cons, List.drop_zero]
      repeat still_step
      refine wpStill_nil ?_
      gi_wp2_with fail
      refine region_tail_round 12 (by kernel_rfl) (by kernel_rfl) (by kernel_rfl) ?_
      simp only [List.take_succ_cons, List.take_zero, List.drop_succ_cons, List.drop_zero]
      repeat still_step
      refine wpStill_nil ?_
      gi_wp2_with fail
      have HF := HX.out
      have hxin : ∃ g ∈ fs, g.blk = x.1.2 := by
        have : x.1 ∈ kvOf fs := x.2
        obtain ⟨g, hg, hge⟩ := List.mem_map.1 this
        exact ⟨g, hg, congrArg Prod.snd hge⟩
      have hcs : (f.sync : Int) + kk % d = ((crashS kk f : Nat) : Int) := by
        have := HDD.out
        unfold crashS
        rw [show ((f.bytes.size - f.sync + 1 : Nat) : Int) = d by omega]
        omega
      have hct : ((f.sync : Int) + kk % d).toNat = crashS kk f := by omega
      rw [hct, hcs]
      obtain ⟨n0, hn0⟩ := HSH.out
      subst hn0
      obtain ⟨hcur, hkvc, hf, hfn, hfb, hlk, hbh⟩ := HF
      have HW1 : ∃ W1, (W.setCell ⟨x.1.2, 1, none⟩ (.int .i64 ((crashS kk f : Nat) : Int))).setCell ⟨x.1.2, 0, none⟩ (.string (f.bytes.extract 0 (crashS kk f))) = W1 := ⟨_, rfl⟩
      obtain ⟨W1, hW1⟩ := HW1
      have k1 : KeepT (fun _ k => k = w.heap.size + 1 ∨ ∃ f ∈ fs, f.blk = k) W W1 := by
        rw [← hW1]
        exact (KeepT.setCell (C := fun k => k = w.heap.size + 1 ∨ ∃ f ∈ fs, f.blk = k) W x.1.2 1 _ (.inr hxin)).trans (KeepT.setCell (C := fun k => k = w.heap.size + 1 ∨ ∃ f ∈ fs, f.blk = k) _ x.1.2 0 _ (.inr hxin))
      have o1 : KeepsOthers W W1 := by
        rw [← hW1]
        exact (KeepsOthers.setCell W _ _).trans (KeepsOthers.setCell _ _ _)
      have s1 : W1.heap.size = W.heap.size := by rw [← hW1]; simp [World.setCell]
      have b1 : ∀ k, k ≠ x.1.2 → W1.heap[k]? = W.heap[k]? := by
        intro k hk
        rw [← hW1]
        exact (Below.heap_setCell _ _ _ _ hk).trans (Below.heap_setCell _ _ _ _ hk)
      have f1 : W1.heap[x.1.2]? = some (.cells #[.string (f.bytes.extract 0 (crashS kk f)), .int .i64 ((crashS kk f : Nat) : Int)] 84 (0, 0)) := by
        rw [← hW1, heap_setCell_at (heap_setCell_at hbh _)]
        rfl
      have c1 : Chg (foot a m fs) w W1 := by
        rw [← hW1]
        exact (HC.out.chg.setCell (p := ⟨x.1.2, 1, none⟩) (fun _ => .inr (.inr hxin)) _).setCell (p := ⟨x.1.2, 0, none⟩) (fun _ => .inr (.inr hxin)) _
      have hle : crashS kk f ≤ f.bytes.size := by omega
      have hez : (f.bytes.extract 0 (crashS kk f)).size = crashS kk f := by
        rw [ByteArray.size_extract]; omega
      have d1 : DiskAt W1 a m q (setF x.1.1 (crashG kk) cur) := by
        refine HDW.out.set hlk (fun _ => rfl) (fun _ => rfl) (by rw [hfb]; exact f1) (fun k _ hk => b1 k (by rw [hfb] at hk; exact hk)) ?_
        refine HDW.out.ok.set hlk (fun _ => rfl) (fun _ => rfl) ?_ ?_ ?_
        · show (f.bytes.extract 0 (crashS kk f)).size ≤ 65536
          omega
        · show crashS kk f ≤ (f.bytes.extract 0 (crashS kk f)).size
          omega
        · show usedF cur + (f.bytes.extract 0 (crashS kk f)).size ≤ q + f.bytes.size
          have := HDW.out.ok.used
          omega
      have hkx : kvOf (setF x.1.1 (crashG kk) cur) = kvOf fs := (setF_names x.1.1 (crashG kk) cur (fun _ => rfl) (fun _ => rfl)).trans hkvc
      have e1 : setF x.1.1 (crashG kk) cur = crashAt ks 0 ((pre ++ [x]).map (·.1.1)) fs := by
        rw [List.map_append, List.map_cons, List.map_nil, crashAt_snoc, hcur, List.length_map, Nat.zero_add, HKK.out]
      have F1 : (W1.setCell ⟨w.heap.size + 1, 0, none⟩ (.int .i64 ((pre.length : Int) + 1))).heap.size = W1.heap.size := by simp [World.setCell]
      have kF : KeepT (fun _ k => k = w.heap.size + 1 ∨ ∃ f ∈ fs, f.blk = k) W (W1.setCell ⟨w.heap.size + 1, 0, none⟩ (.int .i64 ((pre.length : Int) + 1))) :=
        k1.trans (KeepT.setCell (C := fun k => k = w.heap.size + 1 ∨ ∃ f ∈ fs, f.blk = k) W1 (w.heap.size + 1) 0 _ (.inl rfl))
      have oF : KeepsOthers W (W1.setCell ⟨w.heap.size + 1, 0, none⟩ (.int .i64 ((pre.length : Int) + 1))) := o1.trans (KeepsOthers.setCell W1 _ _)
      have hkl : ∀ k, foot a m (setF x.1.1 (crashG kk) cur) k → k < w.heap.size := by
        intro k hk
        rw [foot_kv hkx] at hk
        exact hD.out.lt k hk
      have dF : DiskAt (W1.setCell ⟨w.heap.size + 1, 0, none⟩ (.int .i64 ((pre.length : Int) + 1))) a m q (crashAt ks 0 ((pre ++ [x]).map (·.1.1)) fs) := by
        rw [← e1]
        refine d1.kept fun k hk => Below.heap_setCell _ _ _ _ ?_
        have := hkl k hk
        show k ≠ w.heap.size + 1
        omega
      have cF : Chg (foot a m fs) w (W1.setCell ⟨w.heap.size + 1, 0, none⟩ (.int .i64 ((pre.length : Int) + 1))) :=
        c1.setCell (p := ⟨w.heap.size + 1, 0, none⟩) (fun h => absurd h (by show ¬ w.heap.size + 1 < w.heap.size; omega)) _
      have kbF : One (W1.setCell ⟨w.heap.size + 1, 0, none⟩ (.int .i64 ((pre.length : Int) + 1))) w.heap.size (.slice p ks.length cap) 22 := by
        have h1 : One W1 w.heap.size (.slice p ks.length cap) 22 := (b1 _ (by omega)).trans HC.out.kbox
        exact h1.other (by omega) _
      have ibF : One (W1.setCell ⟨w.heap.size + 1, 0, none⟩ (.int .i64 ((pre.length : Int) + 1))) (w.heap.size + 1) (.int .i64 ((pre ++ [x]).length : Int)) 3 := by
        have h1 : One W1 (w.heap.size + 1) (.int .i64 (pre.length : Int)) 3 := (b1 _ (by omega)).trans HC.out.ibox
        have h2 := h1.put (.int .i64 ((pre.length : Int) + 1))
        rw [List.length_append, List.length_singleton, Int.natCast_add]
        exact h2
      subst hW1
      refine ⟨⟨oF.size, fun k o _ hk ho => oF.same k o hk ho⟩, ⟨kF.1, kF.2.1, kF.2.2⟩, ?_, ⟨kbF, ibF, ⟨dF.head, dF.map, dF.files, dF.ok⟩, ⟨cF.os, cF.tape, cF.output, cF.size, cF.block⟩⟩⟩
      have := HS.out
      have h2 := kF.1
      exact Nat.le_trans this h2
  case done =>
    rintro D ys W hDs rfl ⟨hs, hc⟩ hK
    have HC := Lib.hid hc; clear hc
    gi_wp2
    have hDw : w.heap.size ≤ D := by omega
    have hput : ∀ (k : Nat), k < w.heap.size → (W.putObj D (.deferred none)).heap[k]? = W.heap[k]? := fun k hk => World.putObj_heap_other (by omega)
    refine ⟨by simp, .inl ⟨_, _, rfl, run_takeDeferred hK, ?_⟩⟩
    refine ⟨.tuple #[], by simp [results, Tryz.results29, go_sem], rfl, ?_, ?_⟩
    · have hd := HC.out.disk
      rw [show (kvS fs).map (·.1.1) = (sortKV (kvOf fs)).map (·.1) by rw [← kvS_map, List.map_map]; rfl] at hd
      refine DiskAt.kept hd fun k hk => hput k ?_
      unfold crashR at hk
      rw [foot_kv (crashAt_kv ks _ 0 fs)] at hk
      exact hD.out.lt k hk
    · have hg := HC.out.chg
      exact ⟨hg.os, hg.tape, hg.output, Nat.le_trans hg.size (by simp [World.putObj]), fun k hk hn => (hput k hk).trans (hg.block k hk hn)⟩
  case stop =>
    rintro D c pre W _ _ h _
    exact h.elim
end Go.Proofs.YtjdkhclcempafaaGreat
