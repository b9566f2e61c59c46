import Derived.Test.YtjdkhclcempafaaGreatDkPd
set_option linter.unusedVariables false
set_option linter.unusedSimpArgs false
namespace Go.Proofs.YtjdkhclcempafaaGreat
open Go.RowKit Go.Shelf Go.Sort Go.Maps

theorem notB (x : Bool) (w : World) : (Op.unary .not (.bool x)).run Tryz.prog w = .ok (.bool (!x)) w := rfl

set_option maxRecDepth 100000 in
set_option maxHeartbeats 1600000 in
theorem slow_any {w0 W : World} {P : PW} {fs : List Ent} {wr off : Int} (h : Mach w0 W P fs wr off 0 0)
    (bx : Nat) (hbx : W.cell? ⟨bx, 0, none⟩ = some (.pointer (some ⟨P.pa, 0, none⟩))) (hbn : ¬ mfoot P fs bx) :
    Calls Tryz.prog 47 #[.pointer (some ⟨P.pa, 5, none⟩), .func (.func 28) #[] #[.pointer (some ⟨bx, 0, none⟩)]] W (MPost (.tuple #[]) w0 W P fs (crashR P.ks fs) wr 1 1 0) := by
  have H := Lib.hid h
  have hl := h.pow.c6
  have hz := h.pow.z 6
  have h1 : Mach w0 (W.setCell ⟨P.pa, 6, none⟩ (.int .i32 1)) P fs wr off 0 1 := h.set 6 _ (h.pow.set6 1)
  have hc1 : Chg (mfoot P fs) W (W.setCell ⟨P.pa, 6, none⟩ (.int .i32 1)) := (Chg.refl _ W).setP _ _ (.inr rfl) _
  have hbl : bx < W.heap.size := World.block_lt_of_cell? W _ hbx
  have hbx1 : (W.setCell ⟨P.pa, 6, none⟩ (.int .i32 1)).cell? ⟨bx, 0, none⟩ = some (.pointer (some ⟨P.pa, 0, none⟩)) := by
    rw [World.cell?_of_block (w := W) (hc1.block bx hbl hbn)]; exact hbx
  clear h
  go_enter_defers Tryz.func47, Tryz.ntmps47
  go_wp2_with fail
  refine (lock_any P.pa 6 _ hl hz).mono ?_
  rintro e w' ⟨rfl, rfl⟩
  obtain ⟨W1, hW1⟩ : ∃ W1, W.setCell ⟨P.pa, 6, none⟩ (.int .i32 1) = W1 := ⟨_, rfl⟩
  rw [hW1] at h1 hc1 hbx1 ⊢
  clear hW1 hl hz hbx
  have H1 := Lib.hid h1
  have HC1 := Lib.hid hc1
  have h5 := h1.pow.c5
  clear h1 hc1
  go_wp2_with fail
  refine (bload_any P.pa 5 0 _ h5).mono ?_
  rintro e w' ⟨rfl, rfl⟩
  go_wp2_with fail
  refine (blow1_any H1.out bx hbx1 (fun hf => hbn (.inl hf))).mono ?_
  rintro e W2 ⟨rfl, hM, hC⟩
  have H2 := Lib.hid hM; clear hM
  have HC2 := Lib.hid (HC1.out.trans hC); clear hC h5 hbx1
  go_wp2_with fail
  refine leaves_cons (f := 59) (args := #[.pointer (some ⟨P.pa, 5, none⟩), .bool true]) (by simp) (by simp [go_sem]) ?_
  refine (bstore_deferred P.pa 5 _ .returning _ H2.out.pow.c5 (H2.out.pow.z 5)).mono ?_
  rintro e u' w'' ⟨rfl, rfl, rfl⟩
  have H3 : Mach w0 (W2.drew.setCell ⟨P.pa, 5, none⟩ (.int .u32 1)) P (crashR P.ks fs) wr 1 1 1 :=
    (H2.out.below (Below.refl _ W2).drew).set 5 _ ((H2.out.below (Below.refl _ W2).drew).pow.set5 1)
  have HC3 : Chg (mfoot P fs) W (W2.drew.setCell ⟨P.pa, 5, none⟩ (.int .u32 1)) :=
    Chg.setP (HC2.out.trans (Chg.of_below (Below.refl _ W2).drew)) _ _ (.inr rfl) _
  obtain ⟨W3, hW3⟩ : ∃ W3, W2.drew.setCell ⟨P.pa, 5, none⟩ (.int .u32 1) = W3 := ⟨_, rfl⟩
  rw [hW3] at H3 HC3 ⊢
  clear hW3
  refine leaves_cons (f := 58) (args := #[.pointer (some ⟨P.pa, 6, none⟩)]) (by simp [settle]) (by simp [go_sem]) ?_
  refine (unlock_deferred P.pa 6 _ _ H3.pow.c6 (H3.pow.z 6)).mono ?_
  rintro e u' w'' ⟨rfl, rfl, rfl⟩
  simp only [Leaves, settle]
  refine ⟨.tuple #[], by simp [results, Tryz.results47], rfl, H3.set 6 _ (H3.pow.set6 0), HC3.setP _ _ (.inr rfl) _⟩

set_option maxRecDepth 100000 in
set_option maxHeartbeats 1600000 in
theorem do_first {w0 W : World} {P : PW} {fs : List Ent} {wr off : Int} (h : Mach w0 W P fs wr off 0 0)
    (bx : Nat) (hbx : W.cell? ⟨bx, 0, none⟩ = some (.pointer (some ⟨P.pa, 0, none⟩))) (hbn : ¬ mfoot P fs bx) :
    Calls Tryz.prog 27 #[.pointer (some ⟨P.pa, 5, none⟩), .func (.func 28) #[] #[.pointer (some ⟨bx, 0, none⟩)]] W (MPost (.tuple #[]) w0 W P fs (crashR P.ks fs) wr 1 1 0) := by
  have H := Lib.hid h
  have h5 := h.pow.c5
  clear h
  have hnot := notB
  go_enter Tryz.func27, Tryz.ntmps27
  go_wp2_with fail
  refine (bload_any P.pa 5 0 _ h5).mono ?_
  rintro e w' ⟨rfl, rfl⟩
  go_wp2_with fail
  refine (slow_any H.out bx hbx hbn).mono ?_
  rintro e W2 ⟨rfl, hM, hC⟩
  have H2 := Lib.hid (And.intro hM hC); clear hM hC
  go_wp2_with fail
  go_end0
  exact ⟨rfl, H2.out⟩
theorem do_done {w0 W : World} {P : PW} {fs : List Ent} {wr off mu : Int} (h : Mach w0 W P fs wr off 1 mu) (fv : Value) :
    Calls Tryz.prog 27 #[.pointer (some ⟨P.pa, 5, none⟩), fv] W fun e W' => e = .returned (.tuple #[]) ∧ W = W' := by
  have h5 := h.pow.c5
  clear h
  have hnot := notB
  go_enter Tryz.func27, Tryz.ntmps27
  go_wp2_with fail
  refine (bload_any P.pa 5 1 _ h5).mono ?_
  rintro e w' ⟨rfl, rfl⟩
  go_wp2_with fail
  go_end0
  exact ⟨rfl, rfl⟩

/-- a machine at rest: on, or off -/
def offI (b : Bool) : Int := if b then 1 else 0
abbrev Rest (w0 W : World) (P : PW) (fs : List Ent) (wr : Int) (off : Bool) : Prop := Mach w0 W P fs wr (offI off) (offI off) 0
def RPost (v : Value) (w0 W : World) (P : PW) (fs fs' : List Ent) (wr : Int) (off : Bool) (e : Ending) (W' : World) : Prop :=
  e = .returned v ∧ Rest w0 W' P fs' wr off ∧ Chg (mfoot P fs) W W'

set_option maxRecDepth 20000 in
theorem pblow_any {w0 W : World} {P : PW} {fs : List Ent} {wr : Int} {off : Bool} (h : Rest w0 W P fs wr off) :
    Calls Tryz.prog 13 #[.pointer (some ⟨P.pa, 0, none⟩)] W (RPost (.tuple #[]) w0 W P fs (if off then fs else crashR P.ks fs) wr true) := by
  have hB : Below W.heap.size W (W.alloc (.cells #[.pointer (some ⟨P.pa, 0, none⟩)] 31)) := (Below.refl _ W).alloc (Nat.le_refl _) _
  have h1 : Rest w0 (W.alloc (.cells #[.pointer (some ⟨P.pa, 0, none⟩)] 31)) P fs wr off := h.below hB
  have hbn : ¬ mfoot P fs W.heap.size := fun hf => absurd (h.lt _ hf) (by omega)
  have hbx : (W.alloc (.cells #[.pointer (some ⟨P.pa, 0, none⟩)] 31)).cell? ⟨W.heap.size, 0, none⟩ = some (.pointer (some ⟨P.pa, 0, none⟩)) := by simp
  have c0 := h1.pow.c.1
  have H1 := Lib.hid h1; clear h1 h
  have HB := Lib.hid hB; clear hB
  have hmf : ∀ (fn : Fn) (first cap : Array Value) (w : World), (Instr.makeFunc fn first cap).run Tryz.prog w = .ok (.func fn first cap) w := fun _ _ _ _ => rfl
  cases off
  · go_enter Tryz.func13, Tryz.ntmps13
    go_wp2_with fail
    refine (pis_yes c0).mono ?_
    rintro e w' ⟨rfl, rfl⟩
    go_wp2_with fail
    refine (do_first H1.out W.heap.size hbx hbn).mono ?_
    rintro e W2 ⟨rfl, hM, hC⟩
    have H2 := Lib.hid (And.intro hM hC); clear hM hC
    go_wp2_with fail
    go_end0
    exact ⟨rfl, H2.out.1, (Chg.of_below HB.out).trans H2.out.2⟩
  · go_enter Tryz.func13, Tryz.ntmps13
    go_wp2_with fail
    refine (pis_yes c0).mono ?_
    rintro e w' ⟨rfl, rfl⟩
    go_wp2_with fail
    refine (do_done H1.out _).mono ?_
    rintro e w' ⟨rfl, rfl⟩
    go_wp2_with fail
    go_end0
    exact ⟨rfl, H1.out, Chg.of_below HB.out⟩
end Go.Proofs.YtjdkhclcempafaaGreat
