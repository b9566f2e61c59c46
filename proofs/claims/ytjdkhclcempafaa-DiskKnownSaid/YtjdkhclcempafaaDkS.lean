import Derived.Test.YtjdkhclcempafaaDkR
set_option linter.unusedVariables false
set_option linter.unusedSimpArgs false
namespace Go.Proofs.Ytjdkhclcempafaa
open Go.RowKit Go.Shelf Go.Sort Go.Maps

def view (n : ByteArray) (fs : List Ent) : Option (ByteArray × ByteArray × Nat) := (lookF n fs).map tri

theorem lookF_setF_ne {n s : ByteArray} (hn : s ≠ n) (g : Ent → Ent) (hg : ∀ f, (g f).name = f.name) (fs : List Ent) : lookF n (setF s g fs) = lookF n fs := by
  induction fs with
  | nil => rfl
  | cons f r ih =>
    have ih' : lookF n (r.map fun f => if f.name = s then g f else f) = lookF n r := ih
    simp only [setF, List.map_cons, lookF]
    by_cases h : f.name = s
    · rw [if_pos h, hg, ih']
      have : n ≠ f.name := by rw [h]; exact hn.symm
      simp [this]
    · rw [if_neg h, ih']
theorem lookF_putF_ne {n : ByteArray} {g : Ent} (hn : g.name ≠ n) (fs : List Ent) : lookF n (putF g fs) = lookF n fs := by
  induction fs with
  | nil => simp [putF, lookF, hn.symm]
  | cons f r ih =>
    simp only [putF]
    by_cases h : g.name = f.name
    · rw [if_pos h]
      have : n ≠ f.name := by rw [← h]; exact hn.symm
      simp [lookF, hn.symm, this]
    · rw [if_neg h]; simp only [lookF, ih]
theorem lookF_delF_ne {n s : ByteArray} (hn : s ≠ n) (fs : List Ent) : lookF n (delF s fs) = lookF n fs := by
  induction fs with
  | nil => rfl
  | cons f r ih =>
    simp only [delF]
    by_cases h : s = f.name
    · rw [if_pos h]
      have : n ≠ f.name := by rw [← h]; exact hn.symm
      simp [lookF, this]
    · rw [if_neg h]; simp only [lookF, ih]
theorem view_perm {n : ByteArray} {fs cs : List Ent} (hc : (cs.map (·.name)).Nodup) (hf : (fs.map (·.name)).Nodup) (h : (cs.map tri).Perm (fs.map tri)) : view n cs = view n fs := by
  have key : ∀ {x y : List Ent}, (x.map (·.name)).Nodup → (∀ z, z ∈ y.map tri → z ∈ x.map tri) → ∀ f, lookF n y = some f → view n x = some (tri f) := by
    intro x y hx hxy f hl
    obtain ⟨hm, hn⟩ := lookF_mem hl
    obtain ⟨g, hg, he⟩ := List.mem_map.1 (hxy _ (List.mem_map_of_mem hm))
    have hgn : g.name = n := (congrArg Prod.fst he).trans hn
    have := lookF_of_mem hx hg
    rw [hgn] at this
    unfold view
    rw [this, Option.map_some, he]
  cases hl : lookF n fs with
  | some f =>
    rw [key hc (fun z hz => h.symm.subset hz) f hl]
    simp [view, hl]
  | none =>
    cases hk : lookF n cs with
    | none => simp [view, hl, hk]
    | some c =>
      have := key hf (fun z hz => h.subset hz) c hk
      simp [view, hl] at this

theorem readS_view {n : ByteArray} {fs gs : List Ent} (h : view n fs = view n gs) : readS fs n = readS gs n ∧ errS fs n = errS gs n ∧ syncS fs n = syncS gs n := by
  unfold view at h
  unfold readS errS syncS
  cases h1 : lookF n fs with
  | none =>
    cases h2 : lookF n gs with
    | none => simp
    | some g => rw [h1, h2] at h; cases h
  | some f =>
    cases h2 : lookF n gs with
    | none => rw [h1, h2] at h; cases h
    | some g =>
      rw [h1, h2] at h
      have h3 : tri f = tri g := by simpa using h
      have hb : f.bytes = g.bytes := congrArg (fun t => t.2.1) h3
      have hs : f.sync = g.sync := congrArg (fun t => t.2.2) h3
      simp [hb, hs]

/-- what is done with one name makes no difference to another one -/
theorem act_keeps {A : ActV} {q : Nat} {fs fs' : List Ent} (hf : (fs.map (·.name)).Nodup) (hf' : (fs'.map (·.name)).Nodup) (h : ActR A q fs fs') {n : ByteArray} (h1 : A.name ≠ n) (h2 : A.what % 8 = 4 → A.dest ≠ n) (h3 : A.what % 8 ≠ 6) : view n fs' = view n fs := by
  unfold ActR at h
  split at h
  · subst h; unfold appendR; split
    · unfold view; rw [lookF_setF_ne h1 (appG A.bytes) (fun _ => rfl)]
    · rfl
  · split at h
    · obtain ⟨b, rfl⟩ := h
      unfold createR; split
      · unfold view; rw [lookF_putF_ne h1]
      · rfl
    · split at h
      · subst h; unfold syncR; split
        · unfold view; rw [lookF_setF_ne h1 syncG (fun _ => rfl)]
        · rfl
      · split at h
        · rename_i h4
          subst h; unfold renameR; split
          · split
            · unfold view
              rw [lookF_putF_ne (by exact h2 h4), lookF_delF_ne h1]
            · rfl
          · rfl
        · split at h
          · subst h; unfold removeR; split
            · unfold view; rw [lookF_delF_ne h1]
            · rfl
          · exact view_perm hf' hf h
end Go.Proofs.Ytjdkhclcempafaa
