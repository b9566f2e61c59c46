import Derived.Test.YtjdkhclcempafaaDkU
import Derived.Test.YtjdkhclcempafaaDkY
import Derived.Test.YtjdkhclcempafaaDkX
set_option linter.unusedVariables false
set_option linter.unusedSimpArgs false
namespace Go.Proofs.Ytjdkhclcempafaa
open Go.RowKit Go.Shelf Go.Sort Go.Maps

/-! ### the chapter's examples, on lists -/
def rep (c : UInt8) (k : Nat) : ByteArray := ⟨(List.replicate k c).toArray⟩
def s0to9 : ByteArray := ⟨#[49, 50, 51, 52, 53, 54, 55, 56, 57, 48]⟩
def nDot : ByteArray := ⟨#[48, 46, 45, 122]⟩
def F1 (b : Nat) : List Ent := [⟨⟨#[97]⟩, b, s0to9, 3⟩]
def F2 (b b2 : Nat) : List Ent := [⟨⟨#[97]⟩, b, s0to9, 3⟩, ⟨rep 97 32, b2, ⟨#[]⟩, 0⟩]
def F3 (b b2 b3 : Nat) : List Ent := [⟨⟨#[97]⟩, b, s0to9, 3⟩, ⟨rep 97 32, b2, ⟨#[]⟩, 0⟩, ⟨nDot, b3, ⟨#[]⟩, 0⟩]
def F4 (b b2 b3 : Nat) : List Ent := [⟨rep 97 32, b2, ⟨#[]⟩, 0⟩, ⟨nDot, b3, ⟨#[]⟩, 0⟩, ⟨⟨#[98]⟩, b, s0to9, 3⟩]
def F5 (b b2 : Nat) : List Ent := [⟨rep 97 32, b2, ⟨#[]⟩, 0⟩, ⟨⟨#[98]⟩, b, s0to9, 3⟩]

theorem x1 (b : Nat) : appendE 10 (oneF b) ⟨#[97]⟩ ⟨#[54, 55, 56, 57, 48, 49]⟩ = 7 ∧ appendR 10 ⟨#[97]⟩ ⟨#[54, 55, 56, 57, 48, 49]⟩ (oneF b) = oneF b := ⟨by kernel_rfl, by kernel_rfl⟩
theorem x2 (b : Nat) : appendE 10 (oneF b) ⟨#[97]⟩ ⟨#[54, 55, 56, 57, 48]⟩ = 0 ∧ appendR 10 ⟨#[97]⟩ ⟨#[54, 55, 56, 57, 48]⟩ (oneF b) = F1 b := ⟨by kernel_rfl, by kernel_rfl⟩
theorem x3 (b : Nat) : appendE 10 (F1 b) ⟨#[97]⟩ ⟨#[120]⟩ = 7 ∧ appendR 10 ⟨#[97]⟩ ⟨#[120]⟩ (F1 b) = F1 b := ⟨by kernel_rfl, by kernel_rfl⟩
theorem x4 (b : Nat) : appendE 10 (F1 b) ⟨#[97]⟩ ⟨#[]⟩ = 0 ∧ appendR 10 ⟨#[97]⟩ ⟨#[]⟩ (F1 b) = F1 b := ⟨by kernel_rfl, by kernel_rfl⟩
theorem x5 (b c : Nat) : createE (F1 b) ⟨#[65]⟩ = 2 ∧ createR c ⟨#[65]⟩ (F1 b) = F1 b := ⟨by kernel_rfl, by kernel_rfl⟩
theorem x6 (b c : Nat) : createE (F1 b) ⟨#[]⟩ = 2 ∧ createR c ⟨#[]⟩ (F1 b) = F1 b := ⟨by kernel_rfl, by kernel_rfl⟩
theorem x7 (b c : Nat) : createE (F1 b) ⟨#[97]⟩ = 6 ∧ createR c ⟨#[97]⟩ (F1 b) = F1 b := ⟨by kernel_rfl, by kernel_rfl⟩
theorem x8 (b c : Nat) : createE (F1 b) (rep 97 33) = 2 ∧ createR c (rep 97 33) (F1 b) = F1 b := ⟨by kernel_rfl, by kernel_rfl⟩
theorem x9 (b c : Nat) : createE (F1 b) (rep 97 32) = 0 ∧ createR c (rep 97 32) (F1 b) = F2 b c := ⟨by kernel_rfl, by kernel_rfl⟩
theorem x10 (b b2 c : Nat) : createE (F2 b b2) nDot = 0 ∧ createR c nDot (F2 b b2) = F3 b b2 c := ⟨by kernel_rfl, by kernel_rfl⟩
theorem x11 (b b2 b3 : Nat) : usedF (F3 b b2 b3) = 10 := by kernel_rfl
theorem x12 (b b2 b3 : Nat) : renameE (F3 b b2 b3) ⟨#[97]⟩ ⟨#[98]⟩ = 0 ∧ renameR ⟨#[97]⟩ ⟨#[98]⟩ (F3 b b2 b3) = F4 b b2 b3 := ⟨by kernel_rfl, by kernel_rfl⟩
theorem x13 (b b2 b3 : Nat) : renameE (F4 b b2 b3) ⟨#[97]⟩ ⟨#[99]⟩ = 5 ∧ renameR ⟨#[97]⟩ ⟨#[99]⟩ (F4 b b2 b3) = F4 b b2 b3 := ⟨by kernel_rfl, by kernel_rfl⟩
theorem x14 (b b2 b3 : Nat) : renameE (F4 b b2 b3) ⟨#[98]⟩ ⟨#[98]⟩ = 0 ∧ renameR ⟨#[98]⟩ ⟨#[98]⟩ (F4 b b2 b3) = F4 b b2 b3 := ⟨by kernel_rfl, by kernel_rfl⟩
theorem x15 (b b2 b3 : Nat) : renameE (F4 b b2 b3) ⟨#[98]⟩ ⟨#[66]⟩ = 2 ∧ renameR ⟨#[98]⟩ ⟨#[66]⟩ (F4 b b2 b3) = F4 b b2 b3 := ⟨by kernel_rfl, by kernel_rfl⟩
theorem x16 (b b2 b3 : Nat) : renameE (F4 b b2 b3) ⟨#[120]⟩ ⟨#[]⟩ = 2 ∧ renameR ⟨#[120]⟩ ⟨#[]⟩ (F4 b b2 b3) = F4 b b2 b3 := ⟨by kernel_rfl, by kernel_rfl⟩
theorem x17 (b b2 b3 : Nat) : errS (F4 b b2 b3) nDot = 0 ∧ removeR nDot (F4 b b2 b3) = F5 b b2 := ⟨by kernel_rfl, by kernel_rfl⟩
theorem x18 (b b2 : Nat) : errS (F5 b b2) nDot = 5 ∧ removeR nDot (F5 b b2) = F5 b b2 := ⟨by kernel_rfl, by kernel_rfl⟩
theorem x19 (b b2 : Nat) : syncS (F5 b b2) ⟨#[98]⟩ = 3 := by kernel_rfl
theorem x20 (b b2 : Nat) : sortKV (kvOf (F5 b b2)) = [(rep 97 32, b2), (⟨#[98]⟩, b)] := by
  refine List.mergeSort_of_pairwise ?_
  show List.Pairwise _ [(rep 97 32, b2), (⟨#[98]⟩, b)]
  refine List.Pairwise.cons (fun x hx => ?_) (List.Pairwise.cons (fun x hx => absurd hx (by simp)) List.Pairwise.nil)
  obtain rfl : x = (⟨#[98]⟩, b) := by simpa using hx
  kernel_rfl
/-! ### sixty-four files -/
def nm (i : Nat) : ByteArray := ⟨#[102, UInt8.ofNat (97 + i / 8), UInt8.ofNat (97 + i % 8)]⟩
def sG : ByteArray := ⟨#[103]⟩
def nms (n : Nat) : List ByteArray := (List.range n).map nm
theorem nms_ok : (nms 64).all nameOk = true := by kernel_rfl
theorem nm_ok {i : Nat} (hi : i < 64) : nameOk (nm i) = true :=
  List.all_eq_true.1 nms_ok _ (List.mem_map.2 ⟨i, List.mem_range.2 hi, rfl⟩)
theorem nm_inj_all : ∀ i : Fin 64, ∀ j : Fin 64, nm i = nm j → i = j := by decide +kernel
theorem nm_inj {i j : Nat} (hi : i < 64) (hj : j < 64) (h : nm i = nm j) : i = j := congrArg Fin.val (nm_inj_all ⟨i, hi⟩ ⟨j, hj⟩ h)
theorem sG_all : ((nms 64).all fun s => decide (s ≠ sG)) = true := by kernel_rfl
theorem sG_not : ¬ sG ∈ nms 64 := fun h => by
  have := List.all_eq_true.1 sG_all _ h
  simp at this
/-- the first n of them, and nothing in them -/
def Full (n : Nat) (fs : List Ent) : Prop := fs.map (·.name) = nms n ∧ ∀ f ∈ fs, f.bytes = ⟨#[]⟩
theorem Full.nil : Full 0 [] := ⟨rfl, fun f hf => absurd hf (by simp)⟩
theorem Full.len {n : Nat} {fs : List Ent} (h : Full n fs) : fs.length = n := by
  have := congrArg List.length h.1
  simpa [nms] using this
theorem lookF_absent {s : ByteArray} {fs : List Ent} (h : ∀ f ∈ fs, f.name ≠ s) : lookF s fs = none := by
  cases hl : lookF s fs with
  | none => rfl
  | some f => exact absurd (lookF_mem hl).2 (h f (lookF_mem hl).1)
theorem putF_new {g : Ent} {fs : List Ent} (h : ∀ f ∈ fs, f.name ≠ g.name) : putF g fs = fs ++ [g] := by
  induction fs with
  | nil => rfl
  | cons f r ih =>
    have h1 : ¬ g.name = f.name := fun e => h f (by simp) e.symm
    simp only [putF, if_neg h1, List.cons_append]
    rw [ih (fun x hx => h x (by simp [hx]))]
theorem Full.absent {n : Nat} {fs : List Ent} (h : Full n fs) (hn : n < 64) : ∀ f ∈ fs, f.name ≠ nm n := by
  intro f hf he
  have : f.name ∈ nms n := by rw [← h.1]; exact List.mem_map_of_mem hf
  obtain ⟨j, hj, hje⟩ := List.mem_map.1 this
  have hj' := List.mem_range.1 hj
  have := nm_inj (by omega) hn (hje.trans he)
  omega
theorem Full.step {n : Nat} {fs : List Ent} (h : Full n fs) (hn : n < 64) (b : Nat) : createE fs (nm n) = 0 ∧ Full (n + 1) (createR b (nm n) fs) := by
  have hl := lookF_absent (h.absent hn)
  have he : createE fs (nm n) = 0 := by
    unfold createE
    rw [nm_ok hn, hl, h.len]
    simp; omega
  refine ⟨he, ?_⟩
  unfold createR
  rw [if_pos he, putF_new (g := ⟨nm n, b, ⟨#[]⟩, 0⟩) (h.absent hn)]
  refine ⟨by rw [List.map_append, h.1]; simp [nms, List.range_succ], fun f hf => ?_⟩
  rcases List.mem_append.1 hf with hf | hf
  · exact h.2 f hf
  · rw [List.mem_singleton.1 hf]
def sFaa : ByteArray := ⟨#[102, 97, 97]⟩
def sFab : ByteArray := ⟨#[102, 97, 98]⟩
theorem usedF_zero {fs : List Ent} (h : ∀ f ∈ fs, f.bytes = ⟨#[]⟩) : usedF fs = 0 := by
  unfold usedF
  induction fs with
  | nil => rfl
  | cons f r ih =>
    simp only [List.map_cons, List.sum_cons]
    rw [h f (by simp), ih (fun x hx => h x (by simp [hx]))]
    rfl
theorem Full.more {fs : List Ent} (h : Full 64 fs) (b : Nat) : createE fs sG = 7 ∧ createR b sG fs = fs := by
  have hg : ∀ f ∈ fs, f.name ≠ sG := by
    intro f hf he
    have : f.name ∈ nms 64 := by rw [← h.1]; exact List.mem_map_of_mem hf
    rw [he] at this
    exact sG_not this
  have he : createE fs sG = 7 := by
    unfold createE
    rw [show nameOk sG = true by kernel_rfl, lookF_absent hg, h.len]
    simp
  exact ⟨he, by unfold createR; rw [he]; rfl⟩
theorem lookF_has {s : ByteArray} {fs : List Ent} (h : s ∈ fs.map (·.name)) : ∃ f, lookF s fs = some f := by
  cases hl : lookF s fs with
  | some f => exact ⟨f, rfl⟩
  | none =>
    obtain ⟨f, hf, he⟩ := List.mem_map.1 h
    exact absurd he (lookF_none hl f hf)
theorem lookF_setF_same {s : ByteArray} {g : Ent → Ent} (hg : ∀ f, (g f).name = f.name) (fs : List Ent) : lookF s (setF s g fs) = (lookF s fs).map g := by
  induction fs with
  | nil => rfl
  | cons f r ih =>
    have ih' : lookF s (r.map fun f => if f.name = s then g f else f) = (lookF s r).map g := ih
    simp only [setF, List.map_cons, lookF]
    by_cases h : f.name = s
    · rw [if_pos h, hg]
      simp [h]
    · have h' : ¬ s = f.name := fun e => h e.symm
      rw [if_neg h]
      simp only [if_neg h', ih']
theorem Full.has {fs : List Ent} (h : Full 64 fs) {i : Nat} (hi : i < 64) : ∃ f, lookF (nm i) fs = some f ∧ f.bytes = ⟨#[]⟩ := by
  obtain ⟨f, hf⟩ := lookF_has (s := nm i) (fs := fs) (by rw [h.1]; exact List.mem_map.2 ⟨i, List.mem_range.2 hi, rfl⟩)
  exact ⟨f, hf, h.2 f (lookF_mem hf).1⟩
theorem emp_size : (⟨#[]⟩ : ByteArray).size = 0 := rfl
/-- behind the first Append: what the second and the third meet -/
def Big (fs : List Ent) : Prop := (∃ f, lookF sFaa fs = some f ∧ f.bytes.size = 65536) ∧ (∃ f, lookF sFab fs = some f ∧ f.bytes.size = 0)
theorem Full.faa {fs : List Ent} (h : Full 64 fs) (hn : (fs.map (·.name)).Nodup) (x : ByteArray) (hx : x.size = 65536) : appendE 1048576 fs sFaa x = 0 ∧ Big (appendR 1048576 sFaa x fs) ∧ usedF (appendR 1048576 sFaa x fs) = 65536 := by
  obtain ⟨f0, h0, e0⟩ := h.has (i := 0) (by omega)
  obtain ⟨f1, h1, e1⟩ := h.has (i := 1) (by omega)
  have n0 : nm 0 = sFaa := by kernel_rfl
  have n1 : nm 1 = sFab := by kernel_rfl
  rw [n0] at h0
  rw [n1] at h1
  have hu := usedF_zero h.2
  have he : appendE 1048576 fs sFaa x = 0 := by
    unfold appendE
    rw [show nameOk sFaa = true by kernel_rfl, h0, hu]
    simp only [e0, hx, emp_size]
    decide
  refine ⟨he, ?_⟩
  unfold appendR
  rw [if_pos he]
  have hus := usedF_setF (g := appG x) hn h0
  rw [hu, e0, emp_size] at hus
  have hsz : (appG x f0).bytes.size = 65536 := by
    show (f0.bytes ++ x).size = 65536
    rw [ByteArray.size_append, e0, hx, emp_size]
  refine ⟨?_, by omega⟩
  refine ⟨⟨appG x f0, by rw [lookF_setF_same (g := appG x) (fun _ => rfl), h0]; rfl, ?_⟩, f1, ?_, by rw [e1]; rfl⟩
  · show (f0.bytes ++ x).size = 65536
    rw [ByteArray.size_append, e0, hx, emp_size]
  · rw [lookF_setF_ne (by decide) (appG x) (fun _ => rfl)]; exact h1
def s120 : ByteArray := ⟨#[120]⟩
theorem Big.faa {fs : List Ent} (h : Big fs) : appendE 1048576 fs sFaa s120 = 7 ∧ appendR 1048576 sFaa s120 fs = fs := by
  obtain ⟨⟨f, hf, he⟩, _⟩ := h
  have h1 : appendE 1048576 fs sFaa s120 = 7 := by
    unfold appendE
    rw [show nameOk sFaa = true by kernel_rfl, hf]
    show (if true = true then (if 65536 < s120.size + f.bytes.size ∨ 1048576 < s120.size + usedF fs then (7 : Int) else 0) else 2) = 7
    rw [if_pos rfl, if_pos (.inl (by rw [he]; decide))]
  exact ⟨h1, by unfold appendR; rw [h1]; rfl⟩
theorem Big.fab {fs : List Ent} (h : Big fs) (hu : usedF fs ≤ 131072) : appendE 1048576 fs sFab s120 = 0 := by
  obtain ⟨_, ⟨f, hf, he⟩⟩ := h
  unfold appendE
  rw [show nameOk sFab = true by kernel_rfl, hf]
  show (if true = true then (if 65536 < s120.size + f.bytes.size ∨ 1048576 < s120.size + usedF fs then (7 : Int) else 0) else 2) = 0
  have h1 : s120.size = 1 := rfl
  rw [if_pos rfl, if_neg (by rw [he, h1]; omega)]
/-! ### the library's two -/
theorem rep_eq (c : UInt8) (k : Nat) : (⟨(Lib.repeatL (⟨#[c]⟩ : ByteArray).data.toList k).toArray⟩ : ByteArray) = rep c k := by
  have h : ∀ k, Lib.repeatL [c] k = List.replicate k c := by
    intro k
    induction k with
    | zero => rfl
    | succ k ih => simp [Lib.repeatL, ih, List.replicate_succ]
  show (⟨(Lib.repeatL [c] k).toArray⟩ : ByteArray) = _
  rw [h]; rfl
theorem rep_size (c : UInt8) (k : Nat) : (rep c k).size = k := by
  show (List.replicate k c).toArray.size = k
  simp
theorem own_repeat {w0 W : World} {a m q : Nat} {fs : List Ent} (h : Own w0 W a m q fs) (c : UInt8) (k : Nat) (hk : k ≤ 65536) :
    Calls Try.prog 31 #[.string ⟨#[c]⟩, .int .i64 (k : Int)] W (OP (.string (rep c k)) w0 a m q fs) := by
  have := Try.strings_Repeat ⟨#[c]⟩ k W (by omega) (by show 1 * k ≤ _; omega)
  rw [rep_eq] at this
  exact this.mono fun e W' ⟨he, hB⟩ => ⟨he, h.below hB⟩

/-- the two names' list, as cells -/
def LOwn (w0 : World) (a m q : Nat) (fs : List Ent) (ns : List ByteArray) (e : Ending) (W' : World) : Prop :=
  ∃ g cap, e = .returned (.slice (some ⟨g, 0, none⟩) ns.length cap) ∧ Own w0 W' a m q fs ∧ g < W'.heap.size ∧ ns.length ≤ cap ∧ ∀ (j : Nat) x, ns[j]? = some x → W'.cell? ⟨g, 0 + j, none⟩ = some (.string x)
theorem own_names {w0 W : World} {a m q : Nat} {fs : List Ent} (h : Own w0 W a m q fs) (ns : List ByteArray) (hn : (sortKV (kvOf fs)).map (·.1) = ns) (h0 : 0 < ns.length) : Calls Try.prog 13 #[.pointer (some ⟨a, 0, none⟩)] W (LOwn w0 a m q fs ns) :=
  (list_any h.disk).mono fun e W' ⟨v, he, ho, hB⟩ => by
    have hl : fs.length = ns.length := by
      have := (sortKV_perm (kvOf fs)).length_eq
      rw [← hn]
      simpa [kvOf] using this.symm
    rw [hl] at ho
    rcases ho.2 with ⟨_, hz⟩ | ⟨g, cap, cur, rfl, hg, hh, hc, _, _, ht⟩
    · omega
    · refine ⟨g, cap, he, h.below hB, lt_of_heap hh, hc, fun j x hx => ?_⟩
      rw [cell_of_heap hh, Nat.zero_add]
      have hj : j < ns.length := (List.getElem?_eq_some_iff.1 hx).1
      have h1 : (cur.toList.take (ns.length * 1))[j]? = some (.string x) := by
        rw [ht]
        rw [show ((sortKV (kvOf fs)).map fun p => Value.string p.1) = ns.map Value.string by rw [← hn, List.map_map]; rfl]
        rw [List.getElem?_map, hx]; rfl
      rw [List.getElem?_take, if_pos (by omega)] at h1
      simpa using h1
theorem own_join {w0 W : World} {a m q : Nat} {fs : List Ent} (h : Own w0 W a m q fs) (g cap : Nat) (ns : List ByteArray) (hg : g < W.heap.size) (hc : ns.length ≤ cap) (hx : ∀ (j : Nat) x, ns[j]? = some x → W.cell? ⟨g, 0 + j, none⟩ = some (.string x))
    (sep : ByteArray) (hl : (Lib.join (ns.map (·.data.toList)) sep.data.toList).length ≤ 140737488355328) (hn : ns.length ≤ 140737488355328) :
    Calls Try.prog 34 #[.slice (some ⟨g, 0, none⟩) ns.length cap, .string sep] W (OP (.string ⟨(Lib.join (ns.map (·.data.toList)) sep.data.toList).toArray⟩) w0 a m q fs) :=
  (Try.strings_Join g 0 cap ns sep W hx hg hn hc hl).mono fun e W' ⟨he, hB⟩ => ⟨he, h.below hB⟩
theorem join2 : (⟨(Lib.join ([rep 97 32, ⟨#[98]⟩].map (·.data.toList)) (⟨#[32]⟩ : ByteArray).data.toList).toArray⟩ : ByteArray) = rep 97 32 ++ ⟨#[32, 98]⟩ := by kernel_rfl
end Go.Proofs.Ytjdkhclcempafaa
