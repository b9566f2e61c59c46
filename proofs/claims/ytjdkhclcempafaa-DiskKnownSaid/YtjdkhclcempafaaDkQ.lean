import Derived.Test.YtjdkhclcempafaaDkP
set_option linter.unusedVariables false
set_option linter.unusedSimpArgs false
namespace Go.Proofs.Ytjdkhclcempafaa
open Go.RowKit Go.Shelf Go.Sort Go.Maps

def tornS (ks : List Int) : ByteArray := s12345.extract 0 (3 + (crashK ks 0 % 3).toNat)
theorem crash_one (ks : List Int) (b : Nat) : crashR ks (oneF b) = [⟨sA, b, tornS ks, 3 + (crashK ks 0 % 3).toNat⟩] := by
  have h : sortKV (kvOf (oneF b)) = [(sA, b)] := by simp [sortKV, kvOf, oneF]
  unfold crashR
  rw [h]
  rfl
theorem torn_size (ks : List Int) : (tornS ks).size = 3 + (crashK ks 0 % 3).toNat := by
  have h : s12345.size = 5 := rfl
  have h1 := Int.emod_lt_of_pos (crashK ks 0) (b := 3) (by omega)
  unfold tornS
  rw [ByteArray.size_extract, h]
  omega
theorem torn_read (ks : List Int) (b : Nat) : readS (crashR ks (oneF b)) ⟨#[97]⟩ = tornS ks := by rw [crash_one]; rfl
theorem torn_err (ks : List Int) (b : Nat) : errS (crashR ks (oneF b)) ⟨#[97]⟩ = 0 := by rw [crash_one]; rfl
theorem torn_sync (ks : List Int) (b : Nat) : syncS (crashR ks (oneF b)) ⟨#[97]⟩ = (tornS ks).size := by rw [torn_size, crash_one]; rfl

theorem keep_foot {W : World} {S T : Nat → Prop} {p : Option Addr} {ks : List Int} (h : KeepAt W S p ks) (hs : ∀ k, T k → S k) : KeepAt W T p ks :=
  ⟨fun k hk => let ⟨ad, hp, hl, hn, hc⟩ := h.1 k hk; ⟨ad, hp, hl, fun ht => hn (hs _ ht), hc⟩, h.2⟩

set_option maxHeartbeats 1000000 in
theorem torn_any (w : World) (p : Option Addr) (cap : Nat) (ks : List Int) (hk : KeepAt w (fun k => w.heap.size ≤ k) p ks) :
    Calls Try.prog 28 #[.slice p ks.length cap] w (RB (.string (tornS ks)) w) := by
  have HK := Lib.hid hk; clear hk
  go_enter Try.func28, Try.ntmps28
  go_wp2_with fail
  refine (some_any w).mono ?_
  rintro e w1 ⟨a, m, b, rfl, O1⟩
  have H1 := Lib.hid O1; clear O1
  go_wp2_with fail
  refine (H1.out.crash p cap ks (keep_foot (HK.out.below H1.out.old) H1.out.low)).mono ?_
  rintro e w2 ⟨rfl, O2⟩
  have H2 := Lib.hid O2; clear O2
  go_wp2_with fail
  have hr := H2.out.read ⟨#[97]⟩
  rw [torn_read, torn_err] at hr
  refine hr.mono ?_
  clear hr
  rintro e w3 ⟨rfl, O3⟩
  have H3 := Lib.hid O3; clear O3
  go_wp2_with fail
  have hr := H3.out.synced ⟨#[97]⟩
  rw [torn_sync] at hr
  refine hr.mono ?_
  clear hr
  rintro e w4 ⟨rfl, O4⟩
  have H4 := Lib.hid O4; clear O4
  go_wp2_with fail
  go_ret
  exact ⟨rfl, H4.out.old⟩

theorem keep_one {w : World} {n : Nat} {k : Int} (hn : n < w.heap.size) (h : w.cell? ⟨n, 0, none⟩ = some (.int .i64 k)) (hk : -9223372036854775808 ≤ k ∧ k ≤ 9223372036854775807) : KeepAt w (fun k => w.heap.size ≤ k) (some ⟨n, 0, none⟩) [k] := by
  refine ⟨fun j hj => ⟨_, rfl, hn, by show ¬ w.heap.size ≤ n; omega, ?_⟩, by simp, by simpa using hk⟩
  have : j = 0 := by simpa using hj
  subst this
  exact h
theorem keep_nil (w : World) : KeepAt w (fun k => w.heap.size ≤ k) none [] := ⟨fun j hj => absurd hj (by simp), by simp, by simp⟩

theorem torn_at {w0 W : World} {a m q : Nat} {fs : List Ent} (O : Own w0 W a m q fs) (k : Int) (hk : -9223372036854775808 ≤ k ∧ k ≤ 9223372036854775807) :
    Calls Try.prog 28 #[.slice (some ⟨W.heap.size, 0, none⟩) 1 1] (W.alloc (.cells #[.int .i64 k] 3)) (OP (.string (tornS [k])) w0 a m q fs) := by
  have hB : Below W.heap.size W (W.alloc (.cells #[.int .i64 k] 3)) := (Below.refl _ _).alloc (Nat.le_refl _) _
  refine (torn_any _ (some ⟨W.heap.size, 0, none⟩) 1 [k] (keep_one (by simp) (by simp) hk)).mono fun e W' ⟨he, hb⟩ => ⟨he, (O.below hB).below hb⟩
theorem torn_at0 {w0 W : World} {a m q : Nat} {fs : List Ent} (O : Own w0 W a m q fs) :
    Calls Try.prog 28 #[.slice none 0 0] W (OP (.string (tornS [])) w0 a m q fs) :=
  (torn_any _ none 0 [] (keep_nil _)).mono fun e W' ⟨he, hb⟩ => ⟨he, O.below hb⟩

set_option maxHeartbeats 1000000 in
theorem works_any (w : World) : Calls Try.prog 8 #[] w (RB (.bool true) w) := by
  go_enter Try.func8, Try.ntmps8
  go_wp2_with fail
  refine (some_any w).mono ?_
  rintro e w1 ⟨a, m, b, rfl, O1⟩
  have H1 := Lib.hid O1; clear O1
  go_wp2_with fail
  have hr : Calls Try.prog 9 #[.pointer (some ⟨a, 0, none⟩), .string ⟨#[97]⟩] w1 (OP (.tuple #[.string ⟨#[49, 50, 51, 52, 53]⟩, .int .i64 0]) w a m 10 (oneF b)) := H1.out.read ⟨#[97]⟩
  refine hr.mono ?_
  clear hr
  rintro e w2 ⟨rfl, O2⟩
  have H2 := Lib.hid O2; clear O2
  go_wp2_with fail
  have hr : Calls Try.prog 10 #[.pointer (some ⟨a, 0, none⟩), .string ⟨#[97]⟩] w2 (OP (.int .i64 3) w a m 10 (oneF b)) := H2.out.synced ⟨#[97]⟩
  refine hr.mono ?_
  clear hr
  rintro e w3 ⟨rfl, O3⟩
  have H3 := Lib.hid O3; clear O3
  go_wp2_with fail
  have hr : Calls Try.prog 28 #[.slice (some ⟨w3.heap.size, 0, none⟩) 1 1] (w3.alloc (.cells #[.int .i64 1] 3)) (OP (.string ⟨#[49, 50, 51, 52]⟩) w a m 10 (oneF b)) := torn_at H3.out 1 (by omega)
  refine hr.mono ?_
  clear hr
  rintro e w4 ⟨rfl, O4⟩
  have H4 := Lib.hid O4; clear O4
  go_wp2_with fail
  have hr : Calls Try.prog 28 #[.slice none 0 0] w4 (OP (.string ⟨#[49, 50, 51]⟩) w a m 10 (oneF b)) := torn_at0 H4.out
  refine hr.mono ?_
  clear hr
  rintro e w5 ⟨rfl, O5⟩
  have H5 := Lib.hid O5; clear O5
  go_wp2_with fail
  have hr : Calls Try.prog 29 #[.pointer (some ⟨a, 0, none⟩), .string ⟨#[98]⟩, .string ⟨#[120]⟩] w5 (OP (.int .i64 5) w a m 10 (oneF b)) := H5.out.append ⟨#[98]⟩ ⟨#[120]⟩ (by decide)
  refine hr.mono ?_
  clear hr
  rintro e w6 ⟨rfl, O6⟩
  have H6 := Lib.hid O6; clear O6
  go_wp2_with fail
  go_ret
  exact ⟨rfl, H6.out.old⟩
end Go.Proofs.Ytjdkhclcempafaa
