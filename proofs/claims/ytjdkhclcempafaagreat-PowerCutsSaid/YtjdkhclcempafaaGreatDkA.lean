import Derived.Test.YtjdkhclcempafaaGreatProg
import Derived.WalkKit
import Derived.Outline
import Derived.Lib.Bytealg
import Derived.Lib.Hide
import Derived.WalkSpells
import Derived.Lib.ConvBytes
namespace Go.Proofs.YtjdkhclcempafaaGreat
open Go.RowKit

theorem extIB (s : ByteArray) (c : Int) (w : World) : (callFunc 95 #[.string s, .int .u8 c]).run Tryz.prog w = .ok (.value (.int .i64 (Lib.indexByte s.data.toList c.toNat.toUInt8))) w := by
  rw [run_callFunc_extern Tryz.func95 (by kernel_rfl) (by kernel_rfl) (by kernel_rfl) (e := Extern.BytealgIndexByte.indexByte) (by kernel_rfl), Lib.run_indexByteString]
  rfl

def allowedL : List UInt8 := [97, 98, 99, 100, 101, 102, 103, 104, 105, 106, 107, 108, 109, 110, 111, 112, 113, 114, 115, 116, 117, 118, 119, 120, 121, 122, 48, 49, 50, 51, 52, 53, 54, 55, 56, 57, 46, 45]
def badB (c : UInt8) : Bool := decide (Lib.indexByte allowedL c < 0)

set_option maxHeartbeats 400000 in
theorem ib_allowed (c : Int) (w : World) :
    Calls Tryz.prog 66 #[.string ⟨#[97, 98, 99, 100, 101, 102, 103, 104, 105, 106, 107, 108, 109, 110, 111, 112, 113, 114, 115, 116, 117, 118, 119, 120, 121, 122, 48, 49, 50, 51, 52, 53, 54, 55, 56, 57, 46, 45]⟩, .int .u8 c] w fun e w' => e = .returned (.int .i64 (Lib.indexByte allowedL c.toNat.toUInt8)) ∧ w = w' := by
  have hk := extIB ⟨#[97, 98, 99, 100, 101, 102, 103, 104, 105, 106, 107, 108, 109, 110, 111, 112, 113, 114, 115, 116, 117, 118, 119, 120, 121, 122, 48, 49, 50, 51, 52, 53, 54, 55, 56, 57, 46, 45]⟩ c
  generalize hs : (⟨#[97, 98, 99, 100, 101, 102, 103, 104, 105, 106, 107, 108, 109, 110, 111, 112, 113, 114, 115, 116, 117, 118, 119, 120, 121, 122, 48, 49, 50, 51, 52, 53, 54, 55, 56, 57, 46, 45]⟩ : ByteArray) = s at *
  have H := Lib.hid hs; clear hs
  go_enter Tryz.func66, Tryz.ntmps66
  go_wp2
  go_ret
  exact ⟨by rw [← H.out]; rfl, rfl⟩

set_option maxHeartbeats 400000 in
theorem may1_any (c : UInt8) (w : World) :
    Calls Tryz.prog 65 #[.int .u8 (c.toNat : Int)] w fun e w' => e = .returned (.bool (badB c)) ∧ w = w' := by
  go_enter Tryz.func65, Tryz.ntmps65
  go_wp2_with (go_at_call 66; refine (ib_allowed _ _).mono ?_; rintro e w' ⟨rfl, rfl⟩)
  go_ret
  exact ⟨by simp [badB], rfl⟩

theorem take_any_succ (p : UInt8 → Bool) (l : List UInt8) (k : Nat) (h : k < l.length) : (l.take (k + 1)).any p = ((l.take k).any p || p l[k]) := by
  rw [List.take_succ_eq_append_getElem h, List.any_append]; simp

def SomeIdx (bs : List UInt8) (w : World) (e : Ending) (w' : World) : Prop := ∃ r : Int, e = .returned (.int .i64 r) ∧ decide (0 ≤ r) = bs.any badB ∧ w = w'

set_option maxHeartbeats 800000 in
theorem indexFunc_any (b : Nat) (bs : List UInt8) (cap : Nat) (w : World) (hn : bs.length ≤ 100)
    (hc : ∀ k (h : k < bs.length), w.cell? ⟨b, k, none⟩ = some (.int .u8 (bs[k].toNat : Int))) :
    Calls Tryz.prog 74 #[.slice (some ⟨b, 0, none⟩) bs.length cap, .func (.func 65) #[] #[]] w (SomeIdx bs w) := by
  have HC := Lib.hid hc; clear hc
  go_enter Tryz.func74, Tryz.ntmps74
  go_wp2
  go_loop [5, 8] (fun _ i => ∃ k : Nat, k ≤ bs.length ∧ i = .int .i64 k ∧ Hid ((bs.take k).any badB = false)) (fun _ i => bs.length - (intOf i).toNat)
  case atStart => exact ⟨0, Nat.zero_le _, rfl, rfl⟩
  case round =>
    obtain ⟨k, hk, rfl, ha⟩ := hrel
    by_cases hlt : k < bs.length
    · have hcell := HC.out k hlt
      have hts := take_any_succ badB bs k hlt
      rw [ha.out] at hts
      cases hb : badB bs[k] with
      | true =>
        rw [hb] at hts
        have HT := Lib.hid hts; clear hts
        go_wp2_with (go_at_call 65; refine (may1_any _ _).mono ?_; rintro e w' ⟨rfl, rfl⟩)
        go_ret
        refine ⟨_, rfl, ?_, rfl⟩
        have : bs.any badB = true := by
          rw [← List.take_append_drop (k+1) bs, List.any_append, HT.out]; rfl
        rw [this]; simp
      | false =>
        rw [hb] at hts
        have HT := Lib.hid hts; clear hts
        go_wp2_with (go_at_call 65; refine (may1_any _ _).mono ?_; rintro e w' ⟨rfl, rfl⟩)
        go_round
        case rel => exact ⟨k + 1, by omega, by go_num, HT.out⟩
        case measure => simp [intOf]; omega
    · go_wp2
      go_ret
      refine ⟨_, rfl, ?_, rfl⟩
      have := ha.out
      rw [List.take_of_length_le (by omega)] at this
      rw [this]; simp

set_option maxHeartbeats 400000 in
theorem containsFunc_any (b : Nat) (bs : List UInt8) (cap : Nat) (w : World) (hn : bs.length ≤ 100)
    (hc : ∀ k (h : k < bs.length), w.cell? ⟨b, k, none⟩ = some (.int .u8 (bs[k].toNat : Int))) :
    Calls Tryz.prog 64 #[.slice (some ⟨b, 0, none⟩) bs.length cap, .func (.func 65) #[] #[]] w fun e w' => e = .returned (.bool (bs.any badB)) ∧ w = w' := by
  have HC := Lib.hid hc; clear hc
  go_enter Tryz.func64, Tryz.ntmps64
  go_wp2_with (go_at_call 74; refine (indexFunc_any b bs cap _ hn HC.out).mono ?_; rintro e w' ⟨r, rfl, hr, rfl⟩)
  go_ret
  exact ⟨rfl, rfl⟩


theorem neqMapNil (r : Option Nat) (w : World) : (binOp .neq 38 (.map r) (.map none)).run Tryz.prog w = .ok (.bool (!r.isNone)) w := run_neq_map_nil w 38 9 80 r Tryz.underlying38

set_option maxHeartbeats 400000 in
theorem is_yes (b m : Nat) (w : World) (h1 : w.cell? ⟨b, 1, none⟩ = some (.map (some m))) :
    Calls Tryz.prog 52 #[.pointer (some ⟨b, 0, none⟩)] w fun e w' => e = .returned (.bool true) ∧ w = w' := by
  have hk := neqMapNil
  go_enter Tryz.func52, Tryz.ntmps52
  go_wp2
  go_ret
  exact ⟨rfl, rfl⟩

def nameOk (s : ByteArray) : Bool := !(s.data.toList.isEmpty) && (decide (s.size ≤ 32) && !(s.data.toList.any badB))

theorem convB (s : ByteArray) (w : World) : (convert 9 102 (.string s)).run Tryz.prog w = .ok (.slice (some ⟨w.heap.size, 0, none⟩) s.size (grownCap w s.size 0 5)) (Lib.bytesWorld w 5 s) :=
  Lib.run_convert_string_bytes w 9 102 5 s Tryz.underlying9 Tryz.underlying102 Tryz.underlying5


theorem containsFunc_any' (b : Nat) (s : ByteArray) (cap : Nat) (w : World) (hn : s.size ≤ 100)
    (hc : ∀ k, k < s.size → w.cell? ⟨b, k, none⟩ = some (.int .u8 ((s.data.toList.getD k 0).toNat : Int))) :
    Calls Tryz.prog 64 #[.slice (some ⟨b, 0, none⟩) s.size cap, .func (.func 65) #[] #[]] w fun e w' => e = .returned (.bool (s.data.toList.any badB)) ∧ w = w' := by
  have hl : s.data.toList.length = s.size := by rw [Array.length_toList]; rfl
  have := containsFunc_any b s.data.toList cap w (by omega) (fun k hk => by rw [hc k (by omega)]; simp only [List.getD, List.getElem?_eq_getElem hk, Option.getD_some])
  rw [hl] at this
  exact this

/-- returned; what was there lies as it lay -/
def RB (v : Value) (w : World) (e : Ending) (w' : World) : Prop := e = .returned v ∧ Below w.heap.size w w'
def mayE (ns : List ByteArray) : Int := if ns.all nameOk then 0 else 2
theorem mayE_yes {ns : List ByteArray} (h : ns.all nameOk = true) : mayE ns = 0 := by unfold mayE; rw [if_pos h]
theorem mayE_no {ns : List ByteArray} {k : Nat} (hk : k < ns.length) (h : nameOk ns[k] = false) : mayE ns = 2 := by
  unfold mayE; rw [if_neg]; intro ha; rw [List.all_eq_true] at ha; have := ha _ (List.getElem_mem hk); rw [h] at this; cases this
theorem take_all_succ (p : ByteArray → Bool) (l : List ByteArray) (k : Nat) (h : k < l.length) : (l.take (k + 1)).all p = ((l.take k).all p && p l[k]) := by
  rw [List.take_succ_eq_append_getElem h, List.all_append]; simp
theorem toList_isEmpty (s : ByteArray) : s.toList.isEmpty = s.data.toList.isEmpty := by
  rw [ByteArray.toList_eq]

theorem bytesWorld_below (w : World) (e : TypeId) (s : ByteArray) : Below w.heap.size w (Lib.bytesWorld w e s) :=
  ⟨rfl, rfl, rfl, by rw [Lib.bytesWorld_size]; omega, fun k hk => Lib.bytesWorld_at_old w e s k hk⟩

set_option maxHeartbeats 800000 in
theorem may_any (b m nb cap : Nat) (ns : List ByteArray) (hlen : ns.length ≤ 4) (w : World) (h1 : w.cell? ⟨b, 1, none⟩ = some (.map (some m)))
    (hs : ∀ k (h : k < ns.length), w.cell? ⟨nb, k, none⟩ = some (.string ns[k])) (hnb : nb < w.heap.size) :
    Calls Tryz.prog 55 #[.pointer (some ⟨b, 0, none⟩), .slice (some ⟨nb, 0, none⟩) ns.length cap] w (RB (.int .i64 (mayE ns)) w) := by
  have HS := Lib.hid hs; clear hs
  go_enter Tryz.func55, Tryz.ntmps55
  go_wp2_with (go_at_call 52; refine (is_yes b m _ h1).mono ?_; rintro e w' ⟨rfl, rfl⟩)
  go_loopw [4, 6, 12] (fun r _ i wr => Below w.heap.size w wr ∧ ∃ k : Nat, k ≤ ns.length ∧ i = .int .i64 k ∧ Hid ((ns.take k).all nameOk = true)) (fun _ _ i _ => ns.length - (intOf i).toNat)
  case atStart => exact ⟨Below.refl _ _, 0, by omega, rfl, rfl⟩
  case round => 
    obtain ⟨hB, k, hk, rfl, hh⟩ := hrel
    by_cases hlt : k < ns.length
    · have hc := (hB.cell (p := ⟨nb, k, none⟩) hnb).trans (HS.out k hlt)
      have hsuc := take_all_succ nameOk ns k hlt
      rw [hh.out] at hsuc
      have hno : nameOk ns[k] = false → mayE ns = 2 := mayE_no hlt
      generalize hs : ns[k] = s at hc hno hsuc
      clear hs
      have HN := Lib.hid hno; clear hno
      have HU := Lib.hid hsuc; clear hsuc
      cases he : s.toList.isEmpty
      · have he' : s.data.toList.isEmpty = false := by rw [← toList_isEmpty]; exact he
        have HE := Lib.hid he'; clear he'
        by_cases h32 : s.size ≤ 32
        · have hd : decide (32 < (s.size : Int)) = false := by simp; omega
          have hk := convB s
          go_wp2_with fail
          refine (containsFunc_any' wr.heap.size s _ _ (by omega) (fun j hj => Lib.bytesWorld_cell _ _ _ _ hj)).mono ?_
          rintro e w' ⟨rfl, rfl⟩
          cases hb : s.data.toList.any badB
          · have hB2 := hB.trans ((bytesWorld_below wr 5 s).mono hB.size)
            go_wp2_with fail
            go_roundw
            case rel => exact ⟨hB2, k + 1, by omega, by go_num, by show _ = _; rw [HU.out]; simp [nameOk, HE.out, hb, h32]⟩
            case measure => simp [intOf]; omega
          · go_wp2_with fail
            go_ret
            exact ⟨by rw [HN.out (by simp [nameOk, hb])]; rfl, hB.trans ((bytesWorld_below wr 5 s).mono hB.size)⟩
        · have hd : decide (32 < (s.size : Int)) = true := by simp; omega
          go_wp2_with fail
          go_ret
          exact ⟨by rw [HN.out (by simp [nameOk, h32])]; rfl, hB⟩
      · have he' : s.data.toList.isEmpty = true := by rw [← toList_isEmpty]; exact he
        have HE := Lib.hid he'; clear he'
        go_wp2_with fail
        go_ret
        exact ⟨by rw [HN.out (by simp [nameOk, HE.out])]; rfl, hB⟩
    · go_wp2_with fail
      go_ret
      exact ⟨by rw [mayE_yes (by have := hh.out; rwa [List.take_of_length_le (by omega)] at this)]; rfl, hB⟩

end Go.Proofs.YtjdkhclcempafaaGreat
