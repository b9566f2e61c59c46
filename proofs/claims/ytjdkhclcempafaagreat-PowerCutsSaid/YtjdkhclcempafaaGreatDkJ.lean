import Derived.RangeFuncNested
import Derived.RangeFuncBound
import Derived.RangeFuncCalls
import Derived.RangeFuncLeaves
import Derived.OwnWalkIn
import Derived.TacticsInMore
import Derived.LoopNIn
import Derived.LoopIn
import Derived.Test.YtjdkhclcempafaaGreatDkH
import Derived.Test.YtjdkhclcempafaaGreatDkI
set_option linter.unusedVariables false
set_option linter.unusedSimpArgs false
namespace Go.Proofs.YtjdkhclcempafaaGreat
open Go.RowKit Go.Shelf Go.Sort Go.Maps

/-! ### the files by their names, in order -/
def leK (p q : ByteArray × Nat) : Bool := decide (p.1.data.toList ≤ q.1.data.toList)
def sortKV (kv : KV) : KV := kv.mergeSort leK

theorem sortKV_perm (kv : KV) : (sortKV kv).Perm kv := List.mergeSort_perm _ _
theorem sortKV_names {kv : KV} {ss : List (List UInt8)} (h : ss.Perm (kv.map (·.1.data.toList))) :
    ss.mergeSort (fun x y => decide (x ≤ y)) = (sortKV kv).map (·.1.data.toList) := by
  rw [mergeSort_of_perm h]
  exact (List.map_mergeSort (f := fun p : ByteArray × Nat => p.1.data.toList) (fun a _ b _ => rfl)).symm

theorem getB_of_mem {kv : KV} (hn : (kv.map (·.1)).Nodup) {p : ByteArray × Nat} (hp : p ∈ kv) : getB p.1 kv = some p.2 := by
  induction kv with
  | nil => cases hp
  | cons q r ih =>
    rw [List.map_cons, List.nodup_cons] at hn
    simp only [getB]
    rcases List.mem_cons.1 hp with rfl | hp
    · simp
    · rw [if_neg (fun e => hn.1 (by rw [← e]; exact List.mem_map_of_mem hp))]
      exact ih hn.2 hp

/-- what a round keeps: all cells and maps but those of T; and T takes none of them on -/
def KeepT (T : World → Nat → Prop) (W W' : World) : Prop :=
  W.heap.size ≤ W'.heap.size ∧ (∀ k o, W.heap[k]? = some o → (o.isCells || o.isWalk) = true → ¬ T W k → W'.heap[k]? = some o) ∧ (∀ k, k < W.heap.size → T W' k → T W k)
theorem KeepT.trans {T : World → Nat → Prop} {A B C : World} (h : KeepT T A B) (k : KeepT T B C) : KeepT T A C :=
  ⟨Nat.le_trans h.1 k.1, fun i o hi ho ht => k.2.1 i o (h.2.1 i o hi ho ht) ho (fun hc => ht (h.2.2 i (lt_of_heap hi) hc)), fun i hi hc => h.2.2 i hi (k.2.2 i (Nat.lt_of_lt_of_le hi h.1) hc)⟩

/-- an element: a name and its file's block, of the files' -/
abbrev KE (fs : List Ent) : Type := { p : ByteArray × Nat // p ∈ kvOf fs }
def encsK {fs : List Ent} (p : KE fs) : Array Value := #[.string p.1.1, .pointer (some ⟨p.1.2, 0, none⟩)]
/-- all of them, by their names -/
def kvS (fs : List Ent) : List (KE fs) := (sortKV (kvOf fs)).attachWith _ (fun p hp => (sortKV_perm _).subset hp)
theorem kvS_length (fs : List Ent) : (kvS fs).length = fs.length := by
  simp [kvS]; rw [(sortKV_perm _).length_eq]; simp [kvOf]
theorem kvS_map (fs : List Ent) : (kvS fs).map (·.1) = sortKV (kvOf fs) := by unfold kvS; exact List.attachWith_map_subtype_val _

theorem is_cells {c : Array Value} {t : TypeId} {fr : Nat × Nat} : ((Obj.cells c t fr).isCells || (Obj.cells c t fr).isWalk) = true := rfl
theorem is_map {es : Array MapEntry} {n : Nat} : ((Obj.map es n).isCells || (Obj.map es n).isWalk) = true := rfl

/-- the names that the iterator goes through, in its own slice -/
structure Names (W : World) (base : Nat) (v : Value) (kv : List ByteArray) : Prop where
  len : ∃ p cap, v = .slice p kv.length cap
  at_ : ∀ k (h : k < kv.length), ∃ g cap cur, v = .slice (some ⟨g, 0, none⟩) kv.length cap ∧ base ≤ g ∧ W.heap[g]? = some (.cells cur 9 (0, 0)) ∧ cur[k]? = some (.string kv[k])
theorem Names.of_row {W : World} {base : Nat} {v : Value} {kv : List ByteArray} {ss : List (List UInt8)} (hp : ss.length = kv.length)
    (h : W.ownsRow base 9 1 v ss.length (kv.map fun p => Value.string p)) : Names W base v kv := by
  obtain ⟨h1, ⟨rfl, h0⟩ | ⟨g, cap, cur, rfl, hb, hg, hn, hm, hc, hx⟩⟩ := h
  · exact ⟨⟨none, 0, by rw [← hp, h0]⟩, fun k hk => by omega⟩
  · refine ⟨⟨_, cap, by rw [hp]⟩, fun k hk => ⟨g, cap, cur, by rw [hp], hb, hg, ?_⟩⟩
    rw [Nat.mul_one] at hx
    have hk' : k < ss.length := by omega
    have : (cur.toList.take ss.length)[k]? = (kv.map fun p => Value.string p)[k]? := by rw [hx]
    rw [List.getElem?_take_of_lt hk'] at this
    rw [← Array.getElem?_toList, this]
    simp [hk]

theorem encNames (kv : KV) : (kv.map (·.1.data.toList)).map encStr = (kv.map (·.1)).map fun p => Value.string p := by
  rw [List.map_map, List.map_map]
  exact List.map_congr_left fun p _ => by simp [encStr]

theorem KeepT.refl (T : World → Nat → Prop) (W : World) : KeepT T W W := ⟨Nat.le_refl _, fun _ _ h _ _ => h, fun _ _ h => h⟩
/-- a tracked block lies as it lay -/
theorem KeepT.at_ {T : World → Nat → Prop} {A B : World} (h : KeepT T A B) {k : Nat} {o : Obj} (ho : A.heap[k]? = some o) (hk : (o.isCells || o.isWalk) = true) (ht : ¬ T A k) : B.heap[k]? = A.heap[k]? := (h.2.1 k o ho hk ht).trans ho.symm
theorem grown_of_belowX {w w1 : World} (h : Below w.heap.size w w1) : w.grownBy w1 none := ⟨h.os, h.tape, h.output, h.size, fun i hi _ => h.block i hi⟩

set_option maxHeartbeats 2000000 in
/-- the iterator's contract -/
theorem each1_stops {w0 : World} {a m q : Nat} {fs : List Ent} (hD : DiskAt w0 a m q fs) (bx : Nat) (hbx : w0.heap[bx]? = some (.cells #[.pointer (some ⟨a, 0, none⟩)] 29 (0, 0)))
    (T : World → Nat → Prop) (hT0 : ∀ W, Below w0.heap.size w0 W → ∀ k, T W k → k < w0.heap.size ∧ k ≠ a ∧ k ≠ m ∧ k ≠ bx) :
    SeqStopsK Fence.wide 12 Tryz.prog 51 #[.pointer (some ⟨bx, 0, none⟩)] (encsK (fs := fs)) (KeepT T) (fun xs => xs = kvS fs) (fun pre => pre <+: kvS fs) fs.length w0 := by
  intro l J Jx W hW hJ hJx hY h0
  have HT := Lib.hid hT0; clear hT0
  have HY := Lib.hid hY; clear hY
  have HJ := Lib.hid hJ; clear hJ
  have HJx := Lib.hid hJx; clear hJx
  have hDW := hD.below hW
  have HD := Lib.hid hDW; clear hDW
  have HD0 := Lib.hid hD; clear hD
  have hbW : W.heap[bx]? = some (.cells #[.pointer (some ⟨a, 0, none⟩)] 29 (0, 0)) := (hW.block bx (lt_of_heap hbx)).trans hbx
  have HB := Lib.hid hbW; clear hbW
  have HW := Lib.hid hW; clear hW
  have HB0 := Lib.hid hbx; clear hbx
  have hb0 : W.cell? ⟨bx, 0, none⟩ = some (.pointer (some ⟨a, 0, none⟩)) := by rw [cell_of_heap HB.out]; rfl
  have hc1 := HD.out.c1
  have hfK : Fence.wide.fn 54 := trivial
  have hfS : Fence.wide.fn 53 := trivial
  have hfI : Fence.wide.fn 52 := trivial
  have HH0 := Lib.hid h0; clear h0
  refine callsIn_of_wp Tryz.func51 rfl trivial ?_ rfl
  simp only [Tryz.ntmps51, List.size_toArray, List.length_cons, List.length_nil, Nat.reduceAdd, Nat.reduceSub, Array.replicate_succ, Array.replicate_zero, List.push_toArray, List.append_toArray, List.nil_append, List.cons_append]
  gi_wp2_with fail
  refine (callsIn_wide.2 (is_yes a m W hc1)).mono ?_
  rintro e w' ⟨rfl, rfl⟩
  gi_wp2_with fail
  refine (callsIn_wide.2 (callsIn_wide.1 (Tryz.maps_Keys_54 (some m) W))).mono ?_
  rintro e w' ⟨rfl, rfl⟩
  gi_wp2_with fail
  have hkl : ∀ p ∈ kvOf fs, p.1.size ≤ maxLen := fun p hp => by
    obtain ⟨f, hf, rfl⟩ := List.mem_map.1 hp
    have := HD.out.ok.names f hf
    simp [nameOk] at this
    show f.name.size ≤ _
    unfold maxLen; omega
  have hn64 : (kvOf fs).length ≤ 64 := by simp [kvOf]; exact HD.out.ok.n64
  obtain ⟨D, hown, hsz, hperm⟩ := HD.out.map.owns Tryz.underlying9 hkl (by unfold maxLen; omega)
  refine (callsIn_wide.2 (callsIn_wide.1 (Tryz.slices_Sorted_keys_53_54 m _ D anyR W hown (by unfold maxLen; omega) (by omega)))).mono ?_
  rintro e w1 ⟨v, ss, rfl, hS, hrow, hnil, hB1⟩
  have hss : ss.Perm ((kvOf fs).map (·.1.data.toList)) := hS.trans hperm
  rw [sortKV_names hss, encNames] at hrow
  have hlen : ss.length = ((sortKV (kvOf fs)).map (·.1)).length := by
    have := hss.length_eq
    have h2 := (sortKV_perm (kvOf fs)).length_eq
    simp at this; simp; omega
  have hNm := Names.of_row hlen hrow
  clear hrow hnil hS hperm hown hsz hkl hss hlen
  have HN := Lib.hid hNm
  obtain ⟨p, cap, rfl⟩ := hNm.len
  clear hNm
  obtain ⟨kv, hkv⟩ : ∃ kv, kv = kvS fs := ⟨_, rfl⟩
  have hel : ((sortKV (kvOf fs)).map (·.1)) = kv.map (·.1.1) := by rw [hkv, ← kvS_map, List.map_map]; rfl
  rw [hel] at HN ⊢
  clear hel
  have hnl : (kv.map (·.1.1)).length = kv.length := by simp
  rw [hnl]
  have HKV := Lib.hid hkv; clear hkv
  have hWw1 : Below W.heap.size W w1 := ((Below.refl _ _).alloc (Nat.le_refl _) _).trans (hB1.mono (by simp))
  have hJ1 : J [] w1 := HJ.out [] W w1 none HH0.out (grown_of_belowX hWw1) (fun r e => by cases e)
  have h01 : Below w0.heap.size w0 w1 := HW.out.trans (hWw1.mono HW.out.size)
  have hD1 := HD0.out.below h01
  have hT1 := HT.out w1 h01
  have hlen : kv.length = fs.length := by rw [HKV.out, kvS_length]
  have hkv64 : kv.length ≤ 64 := by rw [hlen]; exact HD0.out.ok.n64
  have H1 : Hid (DiskAt w1 a m q fs ∧ w1.heap[bx]? = some (.cells #[.pointer (some ⟨a, 0, none⟩)] 29 (0, 0)) ∧ (∀ k, T w1 k → k < w0.heap.size ∧ k ≠ a ∧ k ≠ m ∧ k ≠ bx) ∧ kv.length = fs.length ∧ Below w0.heap.size w0 W) :=
    ⟨hD1, (h01.block bx (lt_of_heap HB0.out)).trans HB0.out, hT1, hlen, HW.out⟩
  clear hWw1 h01 hD1 hT1 hlen hb0 hc1 hB1 hnl
  have HJ1 := Lib.hid hJ1; clear hJ1
  gi_wp2_with fail
  gi_loopw [4, 15] (fun _ i wr => ∃ k : Nat, k ≤ kv.length ∧ i = .int .i64 k ∧ J (kv.take k) wr ∧ KeepT T w1 wr) (fun _ i _ => kv.length - (intOf i).toNat)
  case atStart => exact ⟨0, Nat.zero_le _, rfl, HJ1.out, KeepT.refl _ _⟩
  case round =>
    obtain ⟨k, hk, rfl, hJk, hKk⟩ := hrel
    have HJk := Lib.hid hJk; clear hJk
    have HK := Lib.hid hKk; clear hKk
    by_cases hlt : k < kv.length
    · obtain ⟨hd1, hbx1, hT1, hlen, hW0⟩ := H1.out
      obtain ⟨g, cap', cur, hv, hg, hgc, hck⟩ := HN.out.at_ k (by simpa using hlt)
      rw [List.getElem_map] at hck
      rw [List.length_map] at hv
      simp only [Value.slice.injEq, true_and] at hv
      obtain ⟨rfl, rfl⟩ := hv
      have hga : wr.heap[a]? = w1.heap[a]? := HK.out.at_ hd1.head is_cells (fun h => (hT1 a h).2.1 rfl)
      have hgm : wr.heap[m]? = w1.heap[m]? := by
        obtain ⟨es, ck, hm, _⟩ := hd1.map
        exact HK.out.at_ hm is_map (fun h => (hT1 m h).2.2.1 rfl)
      have hgb : wr.heap[bx]? = w1.heap[bx]? := HK.out.at_ hbx1 is_cells (fun h => (hT1 bx h).2.2.2 rfl)
      have hgg : wr.heap[g]? = w1.heap[g]? := HK.out.at_ hgc is_cells (fun h => by
        have h1 := (hT1 g h).1
        simp at hg
        have := hW0.size
        omega)
      have hcb : wr.cell? ⟨bx, 0, none⟩ = some (.pointer (some ⟨a, 0, none⟩)) := by rw [cell_of_heap (hgb.trans hbx1)]; rfl
      have hca : wr.cell? ⟨a, 1, none⟩ = some (.map (some m)) := by rw [cell_of_heap (hga.trans hd1.head)]; rfl
      have hcg : wr.cell? ⟨g, k, none⟩ = some (.string kv[k].1.1) := by rw [cell_of_heap (hgg.trans hgc)]; exact hck
      have hmem : kv[k].1 ∈ kvOf fs := kv[k].2
      have hlk := (hd1.map.kept hgm).lookup (P := Tryz.prog) Tryz.underlying38 Tryz.underlying9 (zeroPfile wr) kv[k].1.1
      rw [getB_of_mem hd1.map.nodup hmem] at hlk
      simp only [Option.map_some] at hlk
      obtain ⟨fn, tmps, assign, body, hy, hR⟩ := HY.out (kv.take k) kv[k] wr HJk.out (by rw [List.length_take]; omega)
      dsimp only [encsK] at hy
      have htk : kv.take (k + 1) = kv.take k ++ [kv[k]] := List.take_succ_eq_append_getElem hlt
      have HTK := Lib.hid htk; clear htk
      clear hga hgm hgb hgg hbx1 hT1 hlen hW0 hgc hck hg hmem hd1
      have HR := Lib.hid hR; clear hR
      gi_wp2_with fail
      refine HR.out.mono ?_
      rintro e W3 (⟨rfl, hJ3, hk3⟩ | ⟨rfl, hJx3⟩)
      · have HJ3 := Lib.hid hJ3; clear hJ3
        have HK3 := Lib.hid (HK.out.trans hk3); clear hk3
        gi_wp2_with fail
        go_roundw
        case rel => exact ⟨k + 1, by omega, by go_num, by rw [HTK.out]; exact HJ3.out, HK3.out⟩
        case measure => simp [intOf]; omega
      · have HJ3 := Lib.hid hJx3; clear hJx3
        gi_wp2_with fail
        refine bodyPost_ret (results_none rfl _ _ _) rfl ?_
        exact ⟨⟨_, rfl⟩, .inr ⟨kv.take (k + 1), by rw [← HKV.out]; exact List.take_prefix _ _, by rw [HTK.out]; exact HJ3.out⟩⟩
    · gi_wp2_with fail
      go_end0
      exact ⟨⟨_, rfl⟩, .inl ⟨kv, HKV.out, by have := HJk.out; rwa [List.take_of_length_le (by omega)] at this⟩⟩
end Go.Proofs.YtjdkhclcempafaaGreat
