import Derived.Test.YtjdkhclcempafaaGreatDkPa
set_option linter.unusedVariables false
set_option linter.unusedSimpArgs false
namespace Go.Proofs.YtjdkhclcempafaaGreat
open Go.RowKit Go.Shelf Go.Sort Go.Maps

section
variable {w : World} {pa d : Nat} {fuse : Int} {kp : Option Addr} {kn kcap : Nat} {wr off done mu : Int}
theorem pdown_any (h : PowerAt w pa d fuse kp kn kcap wr off done mu) :
    Calls Tryz.prog 10 #[.pointer (some ⟨pa, 0, none⟩)] w fun e w' => e = .returned (.bool (decide (off ≠ 0))) ∧ w = w' := by
  obtain ⟨c0, c1, c2, c3, c4⟩ := h.c
  clear h
  go_enter Tryz.func10, Tryz.ntmps10
  go_wp2_with fail
  refine (pis_yes c0).mono ?_
  rintro e w' ⟨rfl, rfl⟩
  go_wp2_with fail
  refine (aload_any _ off _ c4).mono ?_
  rintro e w' ⟨rfl, rfl⟩
  by_cases ho : off = 0
  · subst ho
    go_wp2_with fail
    go_ret
    exact ⟨rfl, rfl⟩
  · have hd : decide (off = 0) = false := by simpa using ho
    go_wp2_with fail
    go_ret
    exact ⟨by simp [ho], rfl⟩
end

section
variable {p : Option Addr} {w : World}
theorem pdown_no (h : NoP w p) : Calls Tryz.prog 10 #[.pointer p] w fun e w' => e = .returned (.bool true) ∧ w = w' := by
  have H := Lib.hid h; clear h
  go_enter Tryz.func10, Tryz.ntmps10
  go_wp2_with fail
  refine (pis_no p w H.out).mono ?_
  rintro e w' ⟨rfl, rfl⟩
  go_wp2_with fail
  go_ret
  exact ⟨rfl, rfl⟩
theorem pblow_no (h : NoP w p) (hp : True) : Calls Tryz.prog 13 #[.pointer p] w (RB (.tuple #[]) w) := by
  have hB : Below w.heap.size w (w.alloc (.cells #[.pointer p] 31)) := (Below.refl _ _).alloc (Nat.le_refl _) _
  have hn : NoP (w.alloc (.cells #[.pointer p] 31)) p := by
    rcases h with rfl | ⟨a, rfl, hl, hc⟩
    · exact .inl rfl
    · exact .inr ⟨a, rfl, by simp; omega, (hB.cell (p := ⟨a, 0, none⟩) hl).trans hc⟩
  have H := Lib.hid (And.intro hn hB); clear h hn hB
  go_enter Tryz.func13, Tryz.ntmps13
  go_wp2_with fail
  refine (pis_no p _ H.out.1).mono ?_
  rintro e w' ⟨rfl, rfl⟩
  go_wp2_with fail
  go_end0
  exact ⟨rfl, H.out.2⟩
theorem pread_no (h : NoP w p) (s : ByteArray) : Calls Tryz.prog 31 #[.pointer p, .string s] w fun e w' => e = .returned (.tuple #[.string ⟨#[]⟩, .int .i64 1]) ∧ w = w' := by
  have H := Lib.hid h; clear h
  go_enter Tryz.func31, Tryz.ntmps31
  go_wp2_with fail
  refine (pis_no p w H.out).mono ?_
  rintro e w' ⟨rfl, rfl⟩
  go_wp2_with fail
  go_ret2
  exact ⟨rfl, rfl⟩
theorem pwrite_no (h : NoP w p) (f : Value) : Calls Tryz.prog 32 #[.pointer p, f] w fun e w' => e = .returned (.int .i64 1) ∧ w = w' := by
  have H := Lib.hid h; clear h
  go_enter Tryz.func32, Tryz.ntmps32
  go_wp2_with fail
  refine (pis_no p w H.out).mono ?_
  rintro e w' ⟨rfl, rfl⟩
  go_wp2_with fail
  go_ret
  exact ⟨rfl, rfl⟩
end
end Go.Proofs.YtjdkhclcempafaaGreat
