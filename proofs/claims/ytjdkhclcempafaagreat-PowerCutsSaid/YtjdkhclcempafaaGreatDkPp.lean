import Derived.Test.YtjdkhclcempafaaGreatDkPh
set_option linter.unusedVariables false
set_option linter.unusedSimpArgs false
namespace Go.Proofs.YtjdkhclcempafaaGreat
open Go.RowKit Go.Shelf Go.Sort Go.Maps

/-! ### two disks' files alike, but for where they lie -/
def Alike : List Ent → List Ent → Prop
  | [], [] => True
  | f :: fs, g :: gs => (f.name = g.name ∧ f.bytes = g.bytes ∧ f.sync = g.sync) ∧ Alike fs gs
  | _, _ => False
theorem Alike.refl : ∀ fs, Alike fs fs
  | [] => trivial
  | _ :: r => ⟨⟨rfl, rfl, rfl⟩, Alike.refl r⟩
theorem Alike.symm : ∀ {fs gs}, Alike fs gs → Alike gs fs
  | [], [], _ => trivial
  | _ :: _, _ :: _, h => ⟨⟨h.1.1.symm, h.1.2.1.symm, h.1.2.2.symm⟩, h.2.symm⟩
  | [], _ :: _, h => h.elim
  | _ :: _, [], h => h.elim
theorem Alike.trans : ∀ {fs gs hs}, Alike fs gs → Alike gs hs → Alike fs hs
  | [], [], [], _, _ => trivial
  | _ :: _, _ :: _, _ :: _, h, k => ⟨⟨h.1.1.trans k.1.1, h.1.2.1.trans k.1.2.1, h.1.2.2.trans k.1.2.2⟩, h.2.trans k.2⟩
  | [], _ :: _, _, h, _ => h.elim
  | _ :: _, [], _, h, _ => h.elim
  | [], [], _ :: _, _, k => k.elim
  | _ :: _, _ :: _, [], _, k => k.elim
theorem Alike.length : ∀ {fs gs}, Alike fs gs → fs.length = gs.length
  | [], [], _ => rfl
  | _ :: _, _ :: _, h => congrArg (· + 1) h.2.length
  | [], _ :: _, h => h.elim
  | _ :: _, [], h => h.elim
theorem Alike.used : ∀ {fs gs}, Alike fs gs → usedF fs = usedF gs
  | [], [], _ => rfl
  | _ :: _, _ :: _, h => by rw [usedF_cons, usedF_cons, h.1.2.1, h.2.used]
  | [], _ :: _, h => h.elim
  | _ :: _, [], h => h.elim
theorem Alike.names : ∀ {fs gs}, Alike fs gs → fs.map (·.name) = gs.map (·.name)
  | [], [], _ => rfl
  | _ :: _, _ :: _, h => by rw [List.map_cons, List.map_cons, h.1.1, h.2.names]
  | [], _ :: _, h => h.elim
  | _ :: _, [], h => h.elim
/-- what a name is looked up as -/
def LikeO : Option Ent → Option Ent → Prop
  | none, none => True
  | some f, some g => f.name = g.name ∧ f.bytes = g.bytes ∧ f.sync = g.sync
  | _, _ => False
theorem Alike.look (s : ByteArray) : ∀ {fs gs}, Alike fs gs → LikeO (lookF s fs) (lookF s gs)
  | [], [], _ => trivial
  | f :: _, g :: _, h => by
    simp only [lookF]
    by_cases e : s = f.name
    · rw [if_pos e, if_pos (e.trans h.1.1)]; exact h.1
    · rw [if_neg e, if_neg (fun x => e (x.trans h.1.1.symm))]; exact h.2.look s
  | [], _ :: _, h => h.elim
  | _ :: _, [], h => h.elim
theorem LikeO.cases {x y : Option Ent} (h : LikeO x y) : (x = none ∧ y = none) ∨ ∃ f g, x = some f ∧ y = some g ∧ f.name = g.name ∧ f.bytes = g.bytes ∧ f.sync = g.sync := by
  cases x <;> cases y
  · exact .inl ⟨rfl, rfl⟩
  · exact h.elim
  · exact h.elim
  · exact .inr ⟨_, _, rfl, rfl, h⟩
theorem Alike.set (s : ByteArray) (g g' : Ent → Ent) (hg : ∀ f f' : Ent, f.name = f'.name → f.bytes = f'.bytes → f.sync = f'.sync → (g f).name = (g' f').name ∧ (g f).bytes = (g' f').bytes ∧ (g f).sync = (g' f').sync) :
    ∀ {fs gs : List Ent}, Alike fs gs → Alike (setF s g fs) (setF s g' gs)
  | [], [], _ => trivial
  | f :: r, f' :: r', h => by
    have ih : Alike (setF s g r) (setF s g' r') := Alike.set s g g' hg h.2
    have e1 : setF s g (f :: r) = (if f.name = s then g f else f) :: setF s g r := rfl
    have e2 : setF s g' (f' :: r') = (if f'.name = s then g' f' else f') :: setF s g' r' := rfl
    rw [e1, e2]
    refine ⟨?_, ih⟩
    by_cases e : f.name = s
    · rw [if_pos e, if_pos (h.1.1.symm.trans e)]; exact hg _ _ h.1.1 h.1.2.1 h.1.2.2
    · rw [if_neg e, if_neg (fun x => e (h.1.1.trans x))]; exact h.1
  | [], _ :: _, h => h.elim
  | _ :: _, [], h => h.elim
theorem Alike.del {s : ByteArray} : ∀ {fs gs}, Alike fs gs → Alike (delF s fs) (delF s gs)
  | [], [], _ => trivial
  | f :: r, f' :: r', h => by
    simp only [delF]
    by_cases e : s = f.name
    · rw [if_pos e, if_pos (e.trans h.1.1)]; exact h.2
    · rw [if_neg e, if_neg (fun x => e (x.trans h.1.1.symm))]; exact ⟨h.1, h.2.del⟩
  | [], _ :: _, h => h.elim
  | _ :: _, [], h => h.elim
theorem Alike.put (x y : Ent) (hxy : x.name = y.name ∧ x.bytes = y.bytes ∧ x.sync = y.sync) : ∀ {fs gs}, Alike fs gs → Alike (putF x fs) (putF y gs)
  | [], [], _ => ⟨hxy, trivial⟩
  | f :: r, f' :: r', h => by
    simp only [putF]
    by_cases e : x.name = f.name
    · rw [if_pos e, if_pos (hxy.1.symm.trans (e.trans h.1.1))]; exact ⟨hxy, h.2⟩
    · rw [if_neg e, if_neg (fun z => e (hxy.1.trans (z.trans h.1.1.symm)))]; exact ⟨h.1, Alike.put x y hxy h.2⟩
  | [], _ :: _, h => h.elim
  | _ :: _, [], h => h.elim

theorem Alike.append {fs gs : List Ent} (h : Alike fs gs) (q : Nat) (s b : ByteArray) : appendE q fs s b = appendE q gs s b ∧ Alike (appendR q s b fs) (appendR q s b gs) := by
  have e : appendE q fs s b = appendE q gs s b := by
    unfold appendE
    rcases (h.look s).cases with ⟨h1, h2⟩ | ⟨f, g, h1, h2, _, hb, _⟩
    · rw [h1, h2]
    · rw [h1, h2, h.used]; simp only [hb]
  refine ⟨e, ?_⟩
  unfold appendR
  rw [e]
  split
  · exact Alike.set s (appG b) (appG b) (fun f f' h1 h2 h3 => ⟨h1, by show f.bytes ++ b = f'.bytes ++ b; rw [h2], h3⟩) h
  · exact h
theorem Alike.create {fs gs : List Ent} (h : Alike fs gs) (b b' : Nat) (s : ByteArray) : createE fs s = createE gs s ∧ Alike (createR b s fs) (createR b' s gs) := by
  have e : createE fs s = createE gs s := by
    unfold createE
    rcases (h.look s).cases with ⟨h1, h2⟩ | ⟨f, g, h1, h2, _⟩
    · rw [h1, h2, h.length]
    · rw [h1, h2, h.length]; rfl
  refine ⟨e, ?_⟩
  unfold createR
  rw [e]
  split
  · exact Alike.put (Ent.mk s b ⟨#[]⟩ 0) (Ent.mk s b' ⟨#[]⟩ 0) ⟨rfl, rfl, rfl⟩ h
  · exact h
theorem Alike.err {fs gs : List Ent} (h : Alike fs gs) (s : ByteArray) : errS fs s = errS gs s := by
  unfold errS
  rcases (h.look s).cases with ⟨h1, h2⟩ | ⟨f, g, h1, h2, _⟩ <;> rw [h1, h2]; rfl
theorem Alike.read {fs gs : List Ent} (h : Alike fs gs) (s : ByteArray) : readS fs s = readS gs s := by
  unfold readS
  rcases (h.look s).cases with ⟨h1, h2⟩ | ⟨f, g, h1, h2, _, hb, _⟩ <;> rw [h1, h2]
  simp only [hb]
theorem Alike.synced {fs gs : List Ent} (h : Alike fs gs) (s : ByteArray) : syncS fs s = syncS gs s := by
  unfold syncS
  rcases (h.look s).cases with ⟨h1, h2⟩ | ⟨f, g, h1, h2, _, _, hb⟩ <;> rw [h1, h2]
  simp only [hb]
theorem Alike.sync {fs gs : List Ent} (h : Alike fs gs) (s : ByteArray) : Alike (syncR s fs) (syncR s gs) := by
  unfold syncR
  split
  · exact Alike.set s syncG syncG (fun f f' h1 h2 h3 => ⟨h1, h2, by show f.bytes.size = f'.bytes.size; rw [h2]⟩) h
  · exact h
theorem Alike.remove {fs gs : List Ent} (h : Alike fs gs) (s : ByteArray) : Alike (removeR s fs) (removeR s gs) := by
  unfold removeR
  split
  · exact h.del
  · exact h
theorem Alike.rename {fs gs : List Ent} (h : Alike fs gs) (s t : ByteArray) : Alike (renameR s t fs) (renameR s t gs) := by
  unfold renameR
  split
  · rcases (h.look s).cases with ⟨h1, h2⟩ | ⟨f, g, h1, h2, _, hb, hy⟩
    · rw [h1, h2]; exact h
    · rw [h1, h2]; exact Alike.put (Ent.mk t f.blk f.bytes f.sync) (Ent.mk t g.blk g.bytes g.sync) ⟨rfl, hb, hy⟩ h.del
  · exact h
theorem sort_names (fs : List Ent) : (sortKV (kvOf fs)).map (·.1) = (fs.map (·.name)).mergeSort (fun a b => leK (a, 0) (b, 0)) := by
  unfold sortKV
  rw [List.map_mergeSort (s := fun a b => leK (a, 0) (b, 0))]
  · rw [kvOf, List.map_map]; rfl
  · intro a _ b _; rfl
theorem Alike.sorted {fs gs : List Ent} (h : Alike fs gs) : (sortKV (kvOf fs)).map (·.1) = (sortKV (kvOf gs)).map (·.1) := by rw [sort_names, sort_names, h.names]
theorem Alike.crashG (k : Int) (f f' : Ent) (h1 : f.name = f'.name) (h2 : f.bytes = f'.bytes) (h3 : f.sync = f'.sync) :
    (Go.Proofs.YtjdkhclcempafaaGreat.crashG k f).name = (Go.Proofs.YtjdkhclcempafaaGreat.crashG k f').name ∧ (Go.Proofs.YtjdkhclcempafaaGreat.crashG k f).bytes = (Go.Proofs.YtjdkhclcempafaaGreat.crashG k f').bytes ∧ (Go.Proofs.YtjdkhclcempafaaGreat.crashG k f).sync = (Go.Proofs.YtjdkhclcempafaaGreat.crashG k f').sync := by
  have hs : crashS k f = crashS k f' := by unfold crashS; rw [h2, h3]
  refine ⟨h1, ?_, hs⟩
  show f.bytes.extract 0 (crashS k f) = f'.bytes.extract 0 (crashS k f')
  rw [hs, h2]
theorem Alike.crashAt (ks : List Int) : ∀ (l : List ByteArray) (i : Nat) {fs gs : List Ent}, Alike fs gs → Alike (Go.Proofs.YtjdkhclcempafaaGreat.crashAt ks i l fs) (Go.Proofs.YtjdkhclcempafaaGreat.crashAt ks i l gs)
  | [], _, _, _, h => h
  | s :: r, i, _, _, h => Alike.crashAt ks r (i + 1) (Alike.set s (Go.Proofs.YtjdkhclcempafaaGreat.crashG (crashK ks i)) (Go.Proofs.YtjdkhclcempafaaGreat.crashG (crashK ks i)) (fun f f' h1 h2 h3 => Alike.crashG (crashK ks i) f f' h1 h2 h3) h)
theorem Alike.crash {fs gs : List Ent} (h : Alike fs gs) (ks : List Int) : Alike (crashR ks fs) (crashR ks gs) := by
  unfold crashR; rw [h.sorted]; exact h.crashAt ks _ 0

/-! ### acts -/
structure PAct where
  what : Int
  name : ByteArray
  other : ByteArray
def PAct.writes (A : PAct) : Bool := decide (A.what % 8 < 5)
/-- what a write makes of the files (a new file lies in block 0 here) -/
def stepF (q : Nat) (fs : List Ent) (A : PAct) : List Ent :=
  if A.what % 8 = 0 then createR 0 A.name fs else if A.what % 8 = 1 then appendR q A.name A.other fs else if A.what % 8 = 2 then syncR A.name fs
  else if A.what % 8 = 3 then renameR A.name A.other fs else removeR A.name fs
/-- the same, of the files that lie in memory -/
def StepQ (q : Nat) (A : PAct) (fs fs' : List Ent) : Prop :=
  if A.what % 8 = 0 then ∃ b, fs' = createR b A.name fs else if A.what % 8 = 1 then fs' = appendR q A.name A.other fs else if A.what % 8 = 2 then fs' = syncR A.name fs
  else if A.what % 8 = 3 then fs' = renameR A.name A.other fs else fs' = removeR A.name fs
theorem StepQ.alike {q : Nat} {A : PAct} {fs fs' gs : List Ent} (h : StepQ q A fs fs') (hf : Alike fs gs) : Alike fs' (stepF q gs A) := by
  unfold StepQ at h
  unfold stepF
  split at h
  · rename_i e; rw [if_pos e]; obtain ⟨b, rfl⟩ := h; exact (hf.create b 0 _).2
  · rename_i e; rw [if_neg e]
    split at h
    · rename_i e; rw [if_pos e]; subst h; exact (hf.append q _ _).2
    · rename_i e; rw [if_neg e]
      split at h
      · rename_i e; rw [if_pos e]; subst h; exact hf.sync _
      · rename_i e; rw [if_neg e]
        split at h
        · rename_i e; rw [if_pos e]; subst h; exact hf.rename _ _
        · rename_i e; rw [if_neg e]; subst h; exact hf.remove _

/-- a power's state: its files, its writes, whether it is off -/
structure MS where
  gs : List Ent
  wr : Int
  off : Bool
def stepM (fuse : Int) (ks : List Int) (q : Nat) (s : MS) (A : PAct) : MS :=
  if A.writes = false then s else if s.off then s else if s.wr = fuse then ⟨crashR ks (if oddK ks then stepF q s.gs A else s.gs), s.wr + 1, true⟩ else ⟨stepF q s.gs A, s.wr + 1, false⟩
def runM (fuse : Int) (ks : List Int) (q : Nat) (l : List PAct) (s : MS) : MS := l.foldl (stepM fuse ks q) s
theorem HitQ.alike {ks : List Int} {q : Nat} {A : PAct} {fs fs' gs : List Ent} (h : HitQ ks fs (StepQ q A fs) fs') (hf : Alike fs gs) : Alike fs' (crashR ks (if oddK ks then stepF q gs A else gs)) := by
  unfold HitQ at h
  split at h
  · rename_i e; rw [if_pos e]; obtain ⟨f1, h1, rfl⟩ := h; exact (h1.alike hf).crash ks
  · rename_i e; rw [if_neg e]; subst h; exact hf.crash ks
theorem runM_off (fuse : Int) (ks : List Int) (q : Nat) : ∀ (l : List PAct) (gs : List Ent) (wr : Int), runM fuse ks q l ⟨gs, wr, true⟩ = ⟨gs, wr, true⟩
  | [], _, _ => rfl
  | A :: r, gs, wr => by
    have e : stepM fuse ks q ⟨gs, wr, true⟩ A = ⟨gs, wr, true⟩ := by unfold stepM; split <;> rfl
    have e2 : runM fuse ks q (A :: r) ⟨gs, wr, true⟩ = runM fuse ks q r (stepM fuse ks q ⟨gs, wr, true⟩ A) := rfl
    rw [e2, e, runM_off fuse ks q r]
theorem runM_free (fuse : Int) (ks : List Int) (q : Nat) : ∀ (l : List PAct) (gs : List Ent) (wr : Int), (∀ A ∈ l, A.writes = true) → (∀ i : Nat, i < l.length → wr + i ≠ fuse) →
    runM fuse ks q l ⟨gs, wr, false⟩ = ⟨l.foldl (stepF q) gs, wr + l.length, false⟩
  | [], gs, wr, _, _ => by simp [runM]
  | A :: r, gs, wr, hw, hf => by
    have h0 : wr ≠ fuse := by have := hf 0 (by simp); simpa using this
    have e : stepM fuse ks q ⟨gs, wr, false⟩ A = ⟨stepF q gs A, wr + 1, false⟩ := by
      unfold stepM; rw [if_neg (by rw [hw A (List.mem_cons_self ..)]; simp)]; simp [h0]
    have e2 : runM fuse ks q (A :: r) ⟨gs, wr, false⟩ = runM fuse ks q r (stepM fuse ks q ⟨gs, wr, false⟩ A) := rfl
    rw [e2, e, runM_free fuse ks q r _ _ (fun B hB => hw B (List.mem_cons_of_mem _ hB)) (fun i hi => by have := hf (i + 1) (by simpa using hi); push_cast at this; omega)]
    simp; omega
theorem runM_append (fuse : Int) (ks : List Int) (q : Nat) (l r : List PAct) (s : MS) : runM fuse ks q (l ++ r) s = runM fuse ks q r (runM fuse ks q l s) := List.foldl_append ..
/-- the fuse falls among the acts -/
theorem runM_cut (n : Nat) (ks : List Int) (q : Nat) (l : List PAct) (hw : ∀ A ∈ l, A.writes = true) (hn : n < l.length) :
    runM (n : Int) ks q l ⟨[], 0, false⟩ = ⟨crashR ks ((l.take (if oddK ks then n + 1 else n)).foldl (stepF q) []), (n : Int) + 1, true⟩ := by
  have hl : l = l.take n ++ (l[n] :: l.drop (n + 1)) := by rw [List.getElem_cons_drop, List.take_append_drop]
  have h1 : runM (n : Int) ks q (l.take n) ⟨[], 0, false⟩ = ⟨(l.take n).foldl (stepF q) [], (n : Int), false⟩ := by
    rw [runM_free _ _ _ _ _ _ (fun A hA => hw A (List.mem_of_mem_take hA)) (fun i hi => by rw [List.length_take] at hi; omega)]
    rw [List.length_take]
    simp; omega
  have hA := hw l[n] (List.getElem_mem hn)
  conv => lhs; rw [hl]
  rw [runM_append, h1]
  have e2 : ∀ s, runM (n : Int) ks q (l[n] :: l.drop (n + 1)) s = runM (n : Int) ks q (l.drop (n + 1)) (stepM (n : Int) ks q s l[n]) := fun _ => rfl
  rw [e2]
  have e3 : stepM (n : Int) ks q ⟨(l.take n).foldl (stepF q) [], (n : Int), false⟩ l[n] = ⟨crashR ks (if oddK ks then stepF q ((l.take n).foldl (stepF q) []) l[n] else (l.take n).foldl (stepF q) []), (n : Int) + 1, true⟩ := by
    unfold stepM; rw [if_neg (by rw [hA]; simp)]; simp
  rw [e3, runM_off]
  congr 2
  split
  · rw [List.take_succ_eq_append_getElem hn, List.foldl_append]; rfl
  · rfl
end Go.Proofs.YtjdkhclcempafaaGreat
