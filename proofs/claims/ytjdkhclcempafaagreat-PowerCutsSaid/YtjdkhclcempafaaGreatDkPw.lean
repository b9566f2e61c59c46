import Derived.Test.YtjdkhclcempafaaGreatDkPb
set_option linter.unusedVariables false
set_option linter.unusedSimpArgs false
namespace Go.Proofs.YtjdkhclcempafaaGreat
open Go.RowKit Go.Shelf Go.Sort Go.Maps
section
variable {w : World} {pa d : Nat} {fuse : Int} {kp : Option Addr} {kn kcap : Nat} {wr off done mu : Int}
theorem pwrites_any (h : PowerAt w pa d fuse kp kn kcap wr off done mu) :
    Calls Tryz.prog 11 #[.pointer (some ⟨pa, 0, none⟩)] w fun e w' => e = .returned (.int .i64 wr) ∧ w = w' := by
  obtain ⟨c0, c1, c2, c3, c4⟩ := h.c
  clear h
  go_enter Tryz.func11, Tryz.ntmps11
  go_wp2_with fail
  refine (pis_yes c0).mono ?_
  rintro e w' ⟨rfl, rfl⟩
  go_wp2_with fail
  refine (aload_any _ wr _ c3).mono ?_
  rintro e w' ⟨rfl, rfl⟩
  go_wp2_with fail
  go_ret
  exact ⟨rfl, rfl⟩
end
section
variable {p : Option Addr} {w : World}
theorem pwrites_no (h : NoP w p) : Calls Tryz.prog 11 #[.pointer p] w fun e w' => e = .returned (.int .i64 0) ∧ w = w' := by
  have H := Lib.hid h; clear h
  go_enter Tryz.func11, Tryz.ntmps11
  go_wp2_with fail
  refine (pis_no p w H.out).mono ?_
  rintro e w' ⟨rfl, rfl⟩
  go_wp2_with fail
  go_ret
  exact ⟨rfl, rfl⟩
end
end Go.Proofs.YtjdkhclcempafaaGreat
