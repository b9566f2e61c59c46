import Derived.Test.YtjdkhclcempafaaGreatDkPq
set_option linter.unusedVariables false
set_option linter.unusedSimpArgs false
namespace Go.Proofs.YtjdkhclcempafaaGreat
open Go.RowKit Go.Shelf Go.Sort Go.Maps

theorem NamesAt.below {w w' : World} {g cap : Nat} {ns : List ByteArray} (h : NamesAt w g cap ns) (hB : Below w.heap.size w w') : NamesAt w' g cap ns :=
  ⟨Nat.lt_of_lt_of_le h.1 hB.size, h.2.1, fun j x hx => (hB.cell (p := ⟨g, 0 + j, none⟩) h.1).trans (h.2.2 j x hx)⟩
theorem NamesAt.at {w : World} {g cap : Nat} {ns : List ByteArray} (h : NamesAt w g cap ns) {k : Nat} (hk : k < ns.length) : w.cell? ⟨g, k, none⟩ = some (.string ns[k]) := by
  have := h.2.2 k ns[k] (List.getElem?_eq_getElem hk)
  rwa [Nat.zero_add] at this
theorem texts_zero (w : World) (p p' : Option Addr) (c c' : Nat) : Calls Tryz.prog 24 #[.slice p 0 c, .slice p' 0 c'] w fun e w' => e = .returned (.bool true) ∧ w = w' := by
  go_enter Tryz.func24, Tryz.ntmps24
  go_wp2
  refine wp_loop_rounds 1 ?_
  rw [rounds_succ]
  go_wp2
  go_ret
  exact ⟨rfl, rfl⟩
set_option maxHeartbeats 1000000 in
set_option maxRecDepth 20000 in
theorem texts_any (w : World) (g cap g' cap' : Nat) (ns : List ByteArray) (h64 : ns.length ≤ 64) (h : NamesAt w g cap ns) (h' : NamesAt w g' cap' ns) :
    Calls Tryz.prog 24 #[.slice (some ⟨g, 0, none⟩) ns.length cap, .slice (some ⟨g', 0, none⟩) ns.length cap'] w (RB (.bool true) w) := by
  have H := Lib.hid (And.intro h h'); clear h h'
  go_enter Tryz.func24, Tryz.ntmps24
  go_wp2
  go_loopw [5] (fun i wr => ∃ k : Nat, k ≤ ns.length ∧ i = .int .i64 k ∧ Hid (RowKit.Below w.heap.size w wr)) (fun i _ => ns.length - (intOf i).toNat)
  case atStart => exact ⟨0, Nat.zero_le _, rfl, Below.refl _ _⟩
  case round =>
    obtain ⟨k, hk, rfl, hB⟩ := hrel
    by_cases hlt : k < ns.length
    · have h1 := (H.out.1.below hB.out).at hlt
      have h2 := (H.out.2.below hB.out).at hlt
      generalize ns[k] = x at h1 h2
      have hi0 : (0 : Int) ≤ (k : Int) := by omega
      have hi1 : (k : Int) < (ns.length : Int) := by omega
      go_wp2_with fail
      go_quiet (fail)
      go_wp2_with fail
      exact ⟨⟨k + 1, by omega, by go_num, belowN hB.out nq⟩, by simp [intOf]; omega⟩
    · go_wp2
      go_ret
      exact ⟨rfl, hB.out⟩

def HeldS (W : World) (g k : Nat) (x : ByteArray) (w' : World) : Prop := w'.cell? ⟨g, k, none⟩ = some (.string x) ∧ RowKit.Below W.heap.size W w'
theorem HeldS.step {W w' W' : World} {g k : Nat} {x : ByteArray} (h : HeldS W g k x w') (hB : RowKit.Below w'.heap.size w' W') : HeldS W g k x W' :=
  ⟨(hB.cell (p := ⟨g, k, none⟩) (World.block_lt_of_cell? _ _ h.1)).trans h.1, h.2.trans (hB.mono h.2.size)⟩
def SyncP (W : World) (g k : Nat) (x : ByteArray) (y : Nat) (e : Ending) (w' : World) : Prop := e = .returned (.int .i64 (y : Int)) ∧ HeldS W g k x w'
theorem below_drew {B : Nat} {w W : World} (h : RowKit.Below B w W) : RowKit.Below B w W.drew := h.drew
set_option maxHeartbeats 400000 in
set_option maxRecDepth 20000 in
theorem same_any {W : World} {a m q a' m' q' : Nat} {fs gs : List Ent} (h : DiskAt W a m q fs) (h' : DiskAt W a' m' q' gs) (hal : Alike fs gs) :
    Calls Tryz.prog 12 #[.pointer (some ⟨a, 0, none⟩), .pointer (some ⟨a', 0, none⟩)] W (RB (.bool true) W) := by
  obtain ⟨ns, hns⟩ : ∃ ns, (sortKV (kvOf fs)).map (·.1) = ns := ⟨_, rfl⟩
  have hns' : (sortKV (kvOf gs)).map (·.1) = ns := by rw [← hal.sorted]; exact hns
  have h64 : ns.length ≤ 64 := by
    have := (sortKV_perm (kvOf fs)).length_eq
    rw [← hns, List.length_map, this]
    simpa [kvOf] using h.ok.n64
  have H := Lib.hid (And.intro h h'); clear h h'
  have HA := Lib.hid (And.intro hal (And.intro hns hns')); clear hal hns hns'
  go_enter Tryz.func12, Tryz.ntmps12
  go_wp2_with fail
  refine (list_any H.out.1).mono ?_
  rintro e W1 hl
  obtain ⟨hB, ⟨rfl, p, c, rfl⟩ | ⟨g, cap, hg, rfl, hn⟩⟩ := hl.names ns HA.out.2.1
  · have HB := Lib.hid hB; clear hB hl
    go_wp2_with fail
    refine (list_any (H.out.2.below HB.out)).mono ?_
    rintro e W2 hl
    obtain ⟨hB, ⟨_, p', c', rfl⟩ | ⟨g, cap, hg, rfl, hn⟩⟩ := hl.names [] HA.out.2.2
    · have HB2 := Lib.hid (HB.out.trans (hB.mono HB.out.size)); clear hB hl
      go_wp2_with fail
      refine (texts_zero _ _ _ _ _).mono ?_
      rintro e w' ⟨rfl, rfl⟩
      go_wp2
      refine wp_loop_rounds 1 ?_
      rw [rounds_succ]
      go_wp2
      go_ret
      exact ⟨rfl, HB2.out⟩
    · have HB2 := Lib.hid (HB.out.trans (hB.mono HB.out.size)); clear hB hl hn hg
      simp only [List.length_nil]
      go_wp2_with fail
      refine (texts_zero _ _ _ _ _).mono ?_
      rintro e w' ⟨rfl, rfl⟩
      go_wp2
      refine wp_loop_rounds 1 ?_
      rw [rounds_succ]
      go_wp2
      go_ret
      exact ⟨rfl, HB2.out⟩
  · have HB := Lib.hid (And.intro hB hn); clear hB hl hn hg
    go_wp2_with fail
    refine (list_any (H.out.2.below HB.out.1)).mono ?_
    rintro e W2 hl
    obtain ⟨hB, ⟨rfl, p', c', rfl⟩ | ⟨g', cap', hg', rfl, hn'⟩⟩ := hl.names ns HA.out.2.2
    · have HB2 := Lib.hid (HB.out.1.trans (hB.mono HB.out.1.size)); clear hB hl
      simp only [List.length_nil]
      go_wp2_with fail
      refine (texts_zero _ _ _ _ _).mono ?_
      rintro e w' ⟨rfl, rfl⟩
      go_wp2
      refine wp_loop_rounds 1 ?_
      rw [rounds_succ]
      go_wp2
      go_ret
      exact ⟨rfl, HB2.out⟩
    · have HB2 := Lib.hid (And.intro (HB.out.1.trans (hB.mono HB.out.1.size)) (And.intro (HB.out.2.below hB) hn')); clear hB hl hn' hg'
      go_wp2_with fail
      refine (texts_any W2 g cap g' cap' ns h64 HB2.out.2.1 HB2.out.2.2).mono ?_
      rintro e W3 ⟨rfl, hB⟩
      have HB3 := Lib.hid (And.intro (HB2.out.1.trans (hB.mono HB2.out.1.size)) (HB2.out.2.1.below hB)); clear hB
      go_wp2_with fail
      go_loopw [6] (fun i wr => ∃ k : Nat, k ≤ ns.length ∧ i = .int .i64 k ∧ Hid (RowKit.Below W.heap.size W wr ∧ NamesAt wr g cap ns)) (fun i _ => ns.length - (intOf i).toNat)
      case atStart => exact ⟨0, Nat.zero_le _, rfl, HB3⟩
      case round =>
        obtain ⟨k, hk, rfl, hB⟩ := hrel
        by_cases hlt : k < ns.length
        · have h1 := hB.out.2.at hlt
          obtain ⟨x, hx⟩ : ∃ x, ns[k] = x := ⟨_, rfl⟩
          rw [hx] at h1
          clear hx
          have hi0 : (0 : Int) ≤ (k : Int) := by omega
          have hi1 : (k : Int) < (ns.length : Int) := by omega
          go_wp2_with fail
          refine (read_any (H.out.1.below hB.out.1) x).mono ?_
          rintro e Wa ⟨rfl, hBa⟩
          have HBa := Lib.hid (And.intro (hB.out.1.trans (hBa.mono hB.out.1.size)) (hB.out.2.below hBa))
          replace h1 := (hBa.cell (p := ⟨g, k, none⟩) (World.block_lt_of_cell? _ _ h1)).trans h1
          clear hBa
          obtain ⟨s, hs⟩ : ∃ s, readS fs x = s := ⟨_, rfl⟩
          rw [hs]
          have HS := Lib.hid hs; clear hs
          go_wp2_with fail
          have hr := read_any (H.out.2.below HBa.out.1) x
          rw [← HA.out.1.read x, ← HA.out.1.err x, HS.out] at hr
          refine hr.mono ?_
          clear hr
          rintro e Wb ⟨rfl, hBb⟩
          have HBb := Lib.hid (And.intro (HBa.out.1.trans (hBb.mono HBa.out.1.size)) (HBa.out.2.below hBb))
          replace h1 := (hBb.cell (p := ⟨g, k, none⟩) (World.block_lt_of_cell? _ _ h1)).trans h1
          clear hBb
          obtain ⟨y, hy⟩ : ∃ y, syncS fs x = y := ⟨_, rfl⟩
          have HY := Lib.hid hy; clear hy
          go_wp2_with fail
          have k1 : ∀ Wc, (Wc.cell? ⟨g, k, none⟩ = some (.string x) ∧ RowKit.Below Wb.heap.size Wb Wc) → Calls Tryz.prog 26 #[.pointer (some ⟨a, 0, none⟩), .string x] Wc (SyncP Wb g k x y) := fun Wc hc => by
            have hr := synced_any (H.out.1.below (HBb.out.1.trans (hc.2.mono HBb.out.1.size))) x
            rw [HY.out] at hr
            exact hr.mono fun e W' ⟨he, hB⟩ => ⟨he, HeldS.step hc hB⟩
          have k2 : ∀ Wc, (Wc.cell? ⟨g, k, none⟩ = some (.string x) ∧ RowKit.Below Wb.heap.size Wb Wc) → Calls Tryz.prog 26 #[.pointer (some ⟨a', 0, none⟩), .string x] Wc (SyncP Wb g k x y) := fun Wc hc => by
            have hr := synced_any (H.out.2.below (HBb.out.1.trans (hc.2.mono HBb.out.1.size))) x
            rw [← HA.out.1.synced x, HY.out] at hr
            exact hr.mono fun e W' ⟨he, hB⟩ => ⟨he, HeldS.step hc hB⟩
          have K1 := Lib.hid k1; clear k1
          have K2 := Lib.hid k2; clear k2
          have h0 : RowKit.Below Wb.heap.size Wb Wb := Below.refl _ _
          go_region_held3 (fun w' => w'.cell? ⟨g, k, none⟩ = some (.string x) ∧ RowKit.Below Wb.heap.size Wb w')
            (first | exact ⟨hn1, hn2⟩ | exact ⟨h1, h0.drew⟩)
            (first
              | (go_at_call 26; ((with_reducible refine (K1.out _ (by assumption)).mono ?_); rintro e wn ⟨rfl, hn1, hn2⟩))
              | (go_at_call 26; ((with_reducible refine (K2.out _ (by assumption)).mono ?_); rintro e wn ⟨rfl, hn1, hn2⟩)))
          all_goals
            have HF := Lib.hid (And.intro (HBb.out.1.trans (hn2.mono HBb.out.1.size)) (HBb.out.2.below hn2))
            clear hn1 hn2
            go_wp2_with fail
            exact ⟨⟨k + 1, by omega, by go_num, HF⟩, by simp [intOf]; omega⟩
        · go_wp2
          go_ret
          exact ⟨rfl, hB.out.1⟩
end Go.Proofs.YtjdkhclcempafaaGreat
