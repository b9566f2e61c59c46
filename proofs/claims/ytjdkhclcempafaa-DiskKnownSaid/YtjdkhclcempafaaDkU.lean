import Derived.Test.YtjdkhclcempafaaDkS
import Derived.Lib.SmallJoins
import Derived.Deep.DeepCutAuto
set_option linter.unusedVariables false
set_option linter.unusedSimpArgs false
namespace Go.Proofs.Ytjdkhclcempafaa
open Go.RowKit Go.Shelf Go.Sort Go.Maps

/-- a disk, and a copy that was made later -/
structure Two (w0 W : World) (a m q : Nat) (fs : List Ent) (a' m' : Nat) (cs : List Ent) : Prop where
  d : Own w0 W a m q fs
  c : Own w0 W a' m' q cs

section
variable {w0 W : World} {a m q a' m' : Nat} {fs cs : List Ent}
def TP (v : Value) (w0 : World) (a m q : Nat) (fs : List Ent) (a' m' : Nat) (cs : List Ent) (e : Ending) (W' : World) : Prop := e = .returned v ∧ Two w0 W' a m q fs a' m' cs
theorem Two.readD (h : Two w0 W a m q fs a' m' cs) (s : ByteArray) : Calls Try.prog 9 #[.pointer (some ⟨a, 0, none⟩), .string s] W (TP (.tuple #[.string (readS fs s), .int .i64 (errS fs s)]) w0 a m q fs a' m' cs) :=
  (read_any h.d.disk s).mono fun e W' ⟨he, hB⟩ => ⟨he, h.d.below hB, h.c.below hB⟩
theorem Two.syncedD (h : Two w0 W a m q fs a' m' cs) (s : ByteArray) : Calls Try.prog 10 #[.pointer (some ⟨a, 0, none⟩), .string s] W (TP (.int .i64 (syncS fs s : Int)) w0 a m q fs a' m' cs) :=
  (synced_any h.d.disk s).mono fun e W' ⟨he, hB⟩ => ⟨he, h.d.below hB, h.c.below hB⟩
theorem Two.readC (h : Two w0 W a m q fs a' m' cs) (s : ByteArray) : Calls Try.prog 9 #[.pointer (some ⟨a', 0, none⟩), .string s] W (TP (.tuple #[.string (readS cs s), .int .i64 (errS cs s)]) w0 a m q fs a' m' cs) :=
  (read_any h.c.disk s).mono fun e W' ⟨he, hB⟩ => ⟨he, h.d.below hB, h.c.below hB⟩
theorem Two.syncedC (h : Two w0 W a m q fs a' m' cs) (s : ByteArray) : Calls Try.prog 10 #[.pointer (some ⟨a', 0, none⟩), .string s] W (TP (.int .i64 (syncS cs s : Int)) w0 a m q fs a' m' cs) :=
  (synced_any h.c.disk s).mono fun e W' ⟨he, hB⟩ => ⟨he, h.d.below hB, h.c.below hB⟩
end

/-- the copy, and what is done with it -/
def CopyOwn (w0 : World) (a m q : Nat) (fs : List Ent) (e : Ending) (W' : World) : Prop :=
  ∃ a' m' cs, e = .returned (.pointer (some ⟨a', 0, none⟩)) ∧ Two w0 W' a m q fs a' m' cs ∧ (∀ k, foot a m fs k → ¬ foot a' m' cs k) ∧ (cs.map tri).Perm (fs.map tri)
theorem Own.copy {w0 W : World} {a m q : Nat} {fs : List Ent} (h : Own w0 W a m q fs) : Calls Try.prog 11 #[.pointer (some ⟨a, 0, none⟩)] W (CopyOwn w0 a m q fs) :=
  (copy_any h.disk).mono fun e W' ⟨a', m', cs, he, hl, hd, hp, hB⟩ => by
    have hs := h.old.size
    refine ⟨a', m', cs, he, ⟨h.below hB, hd, fun k hk => Nat.le_trans hs (hl k hk), h.old.trans (hB.mono hs)⟩, fun k hk hk' => ?_, hp⟩
    have h1 := h.disk.lt k hk
    have h2 := hl k hk'
    omega

def DoneOwn (A : ActV) (w0 : World) (a m q : Nat) (fs cs : List Ent) (e : Ending) (W' : World) : Prop :=
  ∃ a' m' cs' v, e = .returned (.tuple #[.pointer (some ⟨a', 0, none⟩), .int .i64 v]) ∧ Two w0 W' a m q fs a' m' cs' ∧ ActR A q cs cs'
theorem Two.done {w0 W : World} {a m q a' m' : Nat} {fs cs : List Ent} (h : Two w0 W a m q fs a' m' cs) (hx : ∀ k, foot a m fs k → ¬ foot a' m' cs k) (A : ActV) (hw : 0 ≤ A.what ∧ A.what ≤ 255) (hk : KeepAt W (fun k => w0.heap.size ≤ k) A.kp A.keep) (hsz : A.bytes.size ≤ 9223372036854775807) :
    Calls Try.prog 12 #[.pointer (some ⟨a', 0, none⟩), A.val] W (DoneOwn A w0 a m q fs cs) :=
  (do_any h.c A hw hk hsz).mono fun e W' ⟨a2, m2, cs2, v, he, hO, hc, hr⟩ =>
    ⟨a2, m2, cs2, v, he, ⟨⟨h.d.disk.chg hc hx, h.d.low, hO.old⟩, hO⟩, hr⟩

theorem untouched {A : ActV} {q : Nat} {w0 W : World} {a m a' m' : Nat} {fs cs cs' : List Ent} (h : Two w0 W a m q fs a' m' cs) (hp : (cs.map tri).Perm (fs.map tri)) (hr : ActR A q cs cs') {W' : World} {a2 m2 : Nat} (h' : Own w0 W' a2 m2 q cs')
    {n : ByteArray} (h1 : A.name ≠ n) (h2 : A.what % 8 = 4 → A.dest ≠ n) (h3 : A.what % 8 ≠ 6) : readS cs' n = readS fs n ∧ errS cs' n = errS fs n ∧ syncS cs' n = syncS fs n :=
  readS_view ((act_keeps h.c.disk.ok.uniq h'.disk.ok.uniq hr h1 h2 h3).trans (view_perm h.c.disk.ok.uniq h.d.disk.ok.uniq hp))

theorem own_list {w0 W : World} {a m q : Nat} {fs : List Ent} (h : Own w0 W a m q fs) : Calls Try.prog 13 #[.pointer (some ⟨a, 0, none⟩)] W (fun e W' => ∃ p cap, OP (.slice p fs.length cap) w0 a m q fs e W') :=
  (list_any h.disk).mono fun e W' ⟨v, he, ho, hB⟩ => by
    rcases Joins.ownsRow_forms ho with ⟨rfl, hn⟩ | ⟨g, cap, rfl⟩
    · exact ⟨none, 0, by rw [hn]; exact he, h.below hB⟩
    · exact ⟨_, cap, he, h.below hB⟩

theorem toList_ne {x y : ByteArray} (h : ¬ x = y) : ¬ x.toList = y.toList := by
  rw [ByteArray.toList_eq, ByteArray.toList_eq]
  intro he
  apply h
  cases x; cases y
  congr 1
  exact Array.toList_inj.1 he

set_option maxHeartbeats 4000000 in
set_option maxRecDepth 20000 in
theorem apart_any (w : World) (quota : Int) (p : Option Addr) (cap : Nat) (l : List ActV) (name : ByteArray) (hA : ActsAt w (fun k => w.heap.size ≤ k) p l) :
    Calls Try.prog 3 #[.int .i64 quota, .slice p l.length cap, .string name] w (RB (.bool true) w) := by
  have HA := Lib.hid hA; clear hA
  have hlm := HA.out.2
  by_cases hq : quota < 1 ∨ 1048576 < quota
  · go_enter Try.func3, Try.ntmps3
    go_wp2_with fail
    refine (new_bad quota hq w).mono ?_
    rintro e w1 ⟨rfl, rfl⟩
    go_wp2_with fail
    refine (few_any w _ p cap l HA.out).mono ?_
    rintro e w1 ⟨b, rfl, rfl⟩
    cases b
    · go_wp2_with fail
      refine (works_any _).mono ?_
      rintro e w2 ⟨rfl, hB⟩
      go_wp2_with fail
      go_ret
      exact ⟨rfl, hB⟩
    · go_wp2_with fail
      refine (works_any _).mono ?_
      rintro e w2 ⟨rfl, hB⟩
      go_wp2_with fail
      go_ret
      exact ⟨rfl, hB⟩
  · obtain ⟨q, rfl⟩ : ∃ q : Nat, quota = q := ⟨quota.toNat, by omega⟩
    have hq1 : 1 ≤ q := by omega
    have hq2 : q ≤ 1048576 := by omega
    clear hq
    go_enter Try.func3, Try.ntmps3
    go_wp2_with fail
    refine (own_new w w (Below.refl _ _) q hq1 hq2).mono ?_
    rintro e w1 ⟨a, m, rfl, O1⟩
    have H1 := Lib.hid O1; clear O1
    go_wp2_with fail
    refine (few_any w1 _ p cap l (HA.out.chg (Chg.of_below H1.out.old))).mono ?_
    rintro e w2 ⟨b, rfl, rfl⟩
    cases b
    · go_wp2_with fail
      refine (works_any _).mono ?_
      rintro e w2 ⟨rfl, hB⟩
      go_wp2_with fail
      go_ret
      exact ⟨rfl, H1.out.old.trans (hB.mono H1.out.old.size)⟩
    · go_wp2_with fail
      go_loopw [7, 8] (fun d i wr => Below w.heap.size w wr ∧ ∃ (k a m : Nat) (fs : List Ent), k ≤ l.length ∧ d = .pointer (some ⟨a, 0, none⟩) ∧ i = .int .i64 k ∧ Hid (Own w wr a m q fs)) (fun _ i _ => l.length - (intOf i).toNat)
      case atStart => exact ⟨H1.out.old, 0, a, m, [], Nat.zero_le _, rfl, rfl, H1⟩
      case round =>
        obtain ⟨_, k, a, m, fs, hk, rfl, rfl, HO⟩ := hrel
        by_cases hlt : k < l.length
        · obtain ⟨ad, b, o, hp, hadd, ha⟩ := HA.out.1 k hlt
          subst hp
          generalize l[k] = A at ha
          have hwh := ha.wh
          have hsz := ha.sz
          have HX := Lib.hid ha; clear ha
          go_wp2_with fail
          refine (HO.out.read name).mono ?_
          rintro e w2 ⟨rfl, O2⟩
          have H2 := Lib.hid O2; clear O2
          obtain ⟨sv, hsv⟩ : ∃ s, readS fs name = s := ⟨_, rfl⟩
          obtain ⟨ev, hev⟩ : ∃ s, errS fs name = s := ⟨_, rfl⟩
          obtain ⟨yv, hyv⟩ : ∃ s, syncS fs name = s := ⟨_, rfl⟩
          rw [hsv, hev]
          have HE := Lib.hid (And.intro hsv (And.intro hev hyv)); clear hsv hev hyv
          go_wp2_with fail
          refine (H2.out.synced name).mono ?_
          rintro e w3 ⟨rfl, O3⟩
          have H3 := Lib.hid O3; clear O3
          rw [HE.out.2.2]
          go_wp2_with fail
          refine (H3.out.copy).mono ?_
          rintro e w4 ⟨a2, m2, cs, rfl, T4, hx, hperm⟩
          have HT := Lib.hid (And.intro T4 (And.intro hx hperm)); clear T4 hx hperm
          have hc4 := HX.out.chg (Chg.of_below HT.out.1.d.old)
          have z0 := hc4.c0
          have z1 := hc4.c1
          have z2 := hc4.c2
          have z3 := hc4.c3
          have z4 := hc4.c4
          have HZ := Lib.hid hc4; clear hc4
          go_wp2_with fail
          refine (HT.out.1.done HT.out.2.1 A hwh HZ.out.keep hsz).mono ?_
          clear z0 z1 z2 z3 z4
          rintro e w5 ⟨a3, m3, cs3, v, rfl, T5, hr⟩
          have HR := Lib.hid hr; clear hr
          have H5 := Lib.hid T5; clear T5
          go_wp2_with fail
          refine (H5.out.readD name).mono ?_
          rintro e w6 ⟨rfl, T6⟩
          have H6 := Lib.hid T6; clear T6
          rw [HE.out.1, HE.out.2.1]
          go_wp2_with fail
          refine (H6.out.syncedD name).mono ?_
          rintro e w7 ⟨rfl, T7⟩
          have H7 := Lib.hid T7; clear T7
          rw [HE.out.2.2]
          have hc4 := HX.out.chg (Chg.of_below H7.out.d.old)
          have z0 := hc4.c0
          have z1 := hc4.c1
          have z2 := hc4.c2
          have z3 := hc4.c3
          have z4 := hc4.c4
          have HZ2 := Lib.hid hc4; clear hc4
          have h8 : A.what.tmod 8 = A.what % 8 := Int.tmod_eq_emod_of_nonneg (by omega)
          go_upto_region 14 with fail
          go_cut [17] from 28 to 165 (fun v17 wc => (v17 = .bool true ∨ (v17 = .bool false ∧ Hid (A.name ≠ name ∧ (A.what % 8 = 4 → A.dest ≠ name) ∧ A.what % 8 ≠ 6))) ∧ wc = w7)
          case first =>
            by_cases c1 : A.name = name
            · go_wp2_with fail
              go_meet
              case rel => exact ⟨.inl rfl, rfl⟩
            · have c1' := toList_ne c1
              by_cases c6 : A.what % 8 = 6
              · go_wp2_with fail
                go_meet
                case rel => exact ⟨.inl rfl, rfl⟩
              · by_cases c4 : A.what % 8 = 4
                · by_cases c2 : A.dest = name
                  · go_wp2_with fail
                    go_meet
                    case rel => exact ⟨.inl rfl, rfl⟩
                  · have c2' := toList_ne c2
                    go_wp2_with fail
                    go_meet
                    case rel => exact ⟨.inr ⟨by simp [c1', c2'], c1, fun _ => c2, c6⟩, rfl⟩
                · go_wp2_with fail
                  go_meet
                  case rel => exact ⟨.inr ⟨by simp [c1', c6], c1, fun h => absurd h c4, c6⟩, rfl⟩
          case rest =>
            obtain ⟨ht, rfl⟩ := hcut
            rcases ht with rfl | ⟨rfl, hun⟩
            · go_wp2_with fail
              have hr := H7.out.readC name
              obtain ⟨s3, hs3⟩ : ∃ s, readS cs3 name = s := ⟨_, rfl⟩
              obtain ⟨e3, he3⟩ : ∃ s, errS cs3 name = s := ⟨_, rfl⟩
              rw [hs3, he3] at hr
              clear hs3 he3
              refine hr.mono ?_
              clear hr z0 z1 z2 z3 z4
              rintro e w8 ⟨rfl, T8⟩
              have H9 := Lib.hid T8; clear T8
              have hc4 := HX.out.chg (Chg.of_below H9.out.d.old)
              have z0 := hc4.c0
              have z1 := hc4.c1
              have z2 := hc4.c2
              have z3 := hc4.c3
              have z4 := hc4.c4
              have HZ3 := Lib.hid hc4; clear hc4
              go_wp2_with fail
              refine (do_any H9.out.d A hwh HZ3.out.keep hsz).mono ?_
              clear z0 z1 z2 z3 z4
              rintro e w10 ⟨a4, m4, fs4, v4, rfl, O10, _, hr4⟩
              clear hr4
              have H10 := Lib.hid O10; clear O10
              go_wp2_with fail
              refine (own_list H10.out).mono ?_
              rintro e w11 ⟨p4, cap4, rfl, O11⟩
              have hn64 := O11.disk.ok.n64
              have hus := O11.disk.ok.used
              have H11 := Lib.hid O11; clear O11
              have hn : decide ((64 : Int) < fs4.length) = false := by simp; omega
              go_wp2_with fail
              refine (H11.out.used).mono ?_
              rintro e w12 ⟨rfl, O12⟩
              have H12 := Lib.hid O12; clear O12
              have hu : decide ((q : Int) < usedF fs4) = false := by simp; omega
              go_wp2_with fail
              refine (H12.out.used).mono ?_
              rintro e w13 ⟨rfl, O13⟩
              have H13 := Lib.hid O13; clear O13
              have hu2 : decide ((usedF fs4 : Int) < 0) = false := by simp
              go_wp2_with fail
              exact ⟨⟨H13.out.old, k + 1, a4, m4, fs4, by omega, rfl, by go_num, H13⟩, by simp [intOf]; omega⟩
            · have hsame := untouched HT.out.1 HT.out.2.2 HR.out H7.out.c hun.out.1 hun.out.2.1 hun.out.2.2
              have HSM := Lib.hid hsame; clear hsame
              go_wp2_with fail
              have hr := H7.out.readC name
              rw [HSM.out.1, HSM.out.2.1, HE.out.1, HE.out.2.1] at hr
              refine hr.mono ?_
              clear hr z0 z1 z2 z3 z4
              rintro e w8 ⟨rfl, T8⟩
              have H8 := Lib.hid T8; clear T8
              go_wp2_with fail
              have hr := H8.out.syncedC name
              rw [HSM.out.2.2, HE.out.2.2] at hr
              refine hr.mono ?_
              clear hr
              rintro e w9 ⟨rfl, T9⟩
              have H9 := Lib.hid T9; clear T9
              have hc4 := HX.out.chg (Chg.of_below H9.out.d.old)
              have z0 := hc4.c0
              have z1 := hc4.c1
              have z2 := hc4.c2
              have z3 := hc4.c3
              have z4 := hc4.c4
              have HZ3 := Lib.hid hc4; clear hc4
              go_wp2_with fail
              refine (do_any H9.out.d A hwh HZ3.out.keep hsz).mono ?_
              clear z0 z1 z2 z3 z4
              rintro e w10 ⟨a4, m4, fs4, v4, rfl, O10, _, hr4⟩
              clear hr4
              have H10 := Lib.hid O10; clear O10
              go_wp2_with fail
              refine (own_list H10.out).mono ?_
              rintro e w11 ⟨p4, cap4, rfl, O11⟩
              have hn64 := O11.disk.ok.n64
              have hus := O11.disk.ok.used
              have H11 := Lib.hid O11; clear O11
              have hn : decide ((64 : Int) < fs4.length) = false := by simp; omega
              go_wp2_with fail
              refine (H11.out.used).mono ?_
              rintro e w12 ⟨rfl, O12⟩
              have H12 := Lib.hid O12; clear O12
              have hu : decide ((q : Int) < usedF fs4) = false := by simp; omega
              go_wp2_with fail
              refine (H12.out.used).mono ?_
              rintro e w13 ⟨rfl, O13⟩
              have H13 := Lib.hid O13; clear O13
              have hu2 : decide ((usedF fs4 : Int) < 0) = false := by simp
              go_wp2_with fail
              exact ⟨⟨H13.out.old, k + 1, a4, m4, fs4, by omega, rfl, by go_num, H13⟩, by simp [intOf]; omega⟩
        · go_wp2_with fail
          refine (works_any _).mono ?_
          rintro e w2 ⟨rfl, hB⟩
          go_wp2_with fail
          go_ret
          exact ⟨rfl, HO.out.old.trans (hB.mono HO.out.old.size)⟩
end Go.Proofs.Ytjdkhclcempafaa
