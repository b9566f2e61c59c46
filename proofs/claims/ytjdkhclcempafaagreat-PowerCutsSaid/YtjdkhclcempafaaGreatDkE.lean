import Derived.Test.YtjdkhclcempafaaGreatDkD
set_option linter.unusedVariables false
set_option linter.unusedSimpArgs false
namespace Go.Proofs.YtjdkhclcempafaaGreat
open Go.RowKit

/-! ### the pure operations -/
def setF (s : ByteArray) (g : Ent → Ent) (fs : List Ent) : List Ent := fs.map fun f => if f.name = s then g f else f
def delF (s : ByteArray) : List Ent → List Ent
  | [] => []
  | f :: r => if s = f.name then r else f :: delF s r
def putF (g : Ent) : List Ent → List Ent
  | [] => [g]
  | f :: r => if g.name = f.name then g :: r else f :: putF g r

theorem kvOf_delF (s : ByteArray) (fs : List Ent) : kvOf (delF s fs) = delB s (kvOf fs) := by
  induction fs with
  | nil => rfl
  | cons f r ih => simp only [kvOf, delF, delB, List.map_cons] at ih ⊢; split <;> simp [ih]
theorem kvOf_putF (g : Ent) (fs : List Ent) : kvOf (putF g fs) = putB g.name g.blk (kvOf fs) := by
  induction fs with
  | nil => rfl
  | cons f r ih => simp only [kvOf, putF, putB, List.map_cons] at ih ⊢; split <;> simp [ih]
theorem mem_delF {s : ByteArray} {fs : List Ent} {f : Ent} (h : f ∈ delF s fs) : f ∈ fs := by
  induction fs with
  | nil => exact h
  | cons g r ih =>
    simp only [delF] at h
    split at h
    · exact List.mem_cons_of_mem _ h
    · rcases List.mem_cons.1 h with rfl | h
      · exact List.mem_cons_self ..
      · exact List.mem_cons_of_mem _ (ih h)
theorem mem_putF {g : Ent} {fs : List Ent} {f : Ent} (h : f ∈ putF g fs) : f = g ∨ f ∈ fs := by
  induction fs with
  | nil => simpa [putF] using h
  | cons x r ih =>
    simp only [putF] at h
    split at h
    · rcases List.mem_cons.1 h with rfl | h
      · exact .inl rfl
      · exact .inr (List.mem_cons_of_mem _ h)
    · rcases List.mem_cons.1 h with rfl | h
      · exact .inr (List.mem_cons_self ..)
      · exact (ih h).imp id (List.mem_cons_of_mem _)
theorem delF_sublist (s : ByteArray) (fs : List Ent) : (delF s fs).Sublist fs := by
  induction fs with
  | nil => exact .refl _
  | cons g r ih => simp only [delF]; split; exact List.sublist_cons_self .. ; exact ih.cons_cons g
theorem usedF_cons (f : Ent) (r : List Ent) : usedF (f :: r) = f.bytes.size + usedF r := by simp [usedF]
theorem usedF_delF (s : ByteArray) (fs : List Ent) : usedF (delF s fs) ≤ usedF fs := by
  induction fs with
  | nil => exact Nat.le_refl _
  | cons g r ih =>
    simp only [delF]
    split
    · simp only [usedF_cons]; omega
    · simp only [usedF_cons]; omega
theorem usedF_delF_some {s : ByteArray} {fs : List Ent} {f : Ent} (h : lookF s fs = some f) : usedF (delF s fs) + f.bytes.size = usedF fs ∧ (delF s fs).length + 1 = fs.length := by
  induction fs with
  | nil => cases h
  | cons g r ih =>
    simp only [lookF] at h
    simp only [delF]
    split at h
    · rename_i he; cases h; rw [if_pos he]; exact ⟨by rw [usedF_cons]; exact Nat.add_comm .., by simp⟩
    · rename_i he; rw [if_neg he]; have := ih h; exact ⟨by rw [usedF_cons, usedF_cons]; omega, by simp only [List.length_cons]; omega⟩
theorem usedF_putF (g : Ent) (fs : List Ent) : usedF (putF g fs) ≤ usedF fs + g.bytes.size ∧ (putF g fs).length ≤ fs.length + 1 := by
  induction fs with
  | nil => simp [putF, usedF, List.length]
  | cons x r ih => simp only [putF]; split <;> simp only [usedF_cons, List.length_cons] <;> (first | omega | (constructor <;> omega))
theorem lookF_of_mem {fs : List Ent} (hu : (fs.map (·.name)).Nodup) {f : Ent} (hf : f ∈ fs) : lookF f.name fs = some f := by
  induction fs with
  | nil => cases hf
  | cons g r ih =>
    simp only [lookF]
    rw [List.map_cons, List.nodup_cons] at hu
    rcases List.mem_cons.1 hf with rfl | hf
    · simp
    · rw [if_neg (fun e => hu.1 (by rw [← e]; exact List.mem_map_of_mem hf))]
      exact ih hu.2 hf
theorem delF_names {s : ByteArray} {fs : List Ent} (hu : (fs.map (·.name)).Nodup) : ∀ f ∈ delF s fs, f.name ≠ s := by
  induction fs with
  | nil => intro f hf; cases hf
  | cons g r ih =>
    rw [List.map_cons, List.nodup_cons] at hu
    simp only [delF]
    split
    · rename_i he
      intro f hf e
      exact hu.1 (by rw [← he, ← e]; exact List.mem_map_of_mem hf)
    · rename_i he
      intro f hf
      rcases List.mem_cons.1 hf with rfl | hf
      · exact fun e => he e.symm
      · exact ih hu.2 f hf
theorem putF_uniq {g : Ent} {fs : List Ent} (hu : (fs.map (·.name)).Nodup) : ((putF g fs).map (·.name)).Nodup := by
  induction fs with
  | nil => simp [putF]
  | cons x r ih =>
    rw [List.map_cons, List.nodup_cons] at hu
    simp only [putF]
    split
    · rename_i he; rw [List.map_cons, List.nodup_cons, he]; exact hu
    · rename_i he
      rw [List.map_cons, List.nodup_cons]
      refine ⟨fun hm => ?_, ih hu.2⟩
      obtain ⟨y, hy, hye⟩ := List.mem_map.1 hm
      rcases mem_putF hy with rfl | hy
      · exact he hye
      · exact hu.1 (by rw [← hye]; exact List.mem_map_of_mem hy)
theorem putF_blks {g : Ent} {fs : List Ent} (hu : (fs.map (·.blk)).Nodup) (hg : ∀ f ∈ fs, f.blk ≠ g.blk) : ((putF g fs).map (·.blk)).Nodup := by
  induction fs with
  | nil => simp [putF]
  | cons x r ih =>
    rw [List.map_cons, List.nodup_cons] at hu
    simp only [putF]
    split
    · rw [List.map_cons, List.nodup_cons]
      refine ⟨fun hm => ?_, hu.2⟩
      obtain ⟨y, hy, hye⟩ := List.mem_map.1 hm
      exact hg y (List.mem_cons_of_mem _ hy) hye
    · rw [List.map_cons, List.nodup_cons]
      refine ⟨fun hm => ?_, ih hu.2 (fun f hf => hg f (List.mem_cons_of_mem _ hf))⟩
      obtain ⟨y, hy, hye⟩ := List.mem_map.1 hm
      rcases mem_putF hy with rfl | hy
      · exact hg x (List.mem_cons_self ..) hye.symm
      · exact hu.1 (by rw [← hye]; exact List.mem_map_of_mem hy)

theorem DiskOk.del {q : Nat} {fs : List Ent} (h : DiskOk q fs) (s : ByteArray) : DiskOk q (delF s fs) :=
  ⟨h.q1, h.q2, Nat.le_trans (delF_sublist s fs).length_le h.n64, fun f hf => h.names f (mem_delF hf), ((delF_sublist s fs).map _).nodup h.uniq, ((delF_sublist s fs).map _).nodup h.blks,
    fun f hf => h.size f (mem_delF hf), fun f hf => h.sync f (mem_delF hf), Nat.le_trans (usedF_delF s fs) h.used⟩
theorem DiskOk.put {q : Nat} {fs : List Ent} (h : DiskOk q fs) {g : Ent} (hn : nameOk g.name = true) (hb : ∀ f ∈ fs, f.blk ≠ g.blk) (hs : g.bytes.size ≤ 65536) (hy : g.sync ≤ g.bytes.size)
    (hl : fs.length + 1 ≤ 64) (hu : usedF fs + g.bytes.size ≤ q) : DiskOk q (putF g fs) :=
  ⟨h.q1, h.q2, by have := (usedF_putF g fs).2; omega, fun f hf => by rcases mem_putF hf with rfl | hf; exact hn; exact h.names f hf, putF_uniq h.uniq, putF_blks h.blks hb,
    fun f hf => by rcases mem_putF hf with rfl | hf; exact hs; exact h.size f hf, fun f hf => by rcases mem_putF hf with rfl | hf; exact hy; exact h.sync f hf, by have := (usedF_putF g fs).1; omega⟩

theorem setF_eq {α : Type} (s : ByteArray) (g : Ent → Ent) (fs : List Ent) (p : Ent → α) (hp : ∀ f, p (g f) = p f) : (setF s g fs).map p = fs.map p := by
  simp only [setF, List.map_map]
  apply List.map_congr_left
  intro f _
  simp only [Function.comp_apply]
  split
  · exact hp f
  · rfl
theorem mem_setF {s : ByteArray} {g : Ent → Ent} {fs : List Ent} {f : Ent} (h : f ∈ setF s g fs) : ∃ f0 ∈ fs, (f0.name = s ∧ f = g f0) ∨ (f0.name ≠ s ∧ f = f0) := by
  obtain ⟨f0, h0, he⟩ := List.mem_map.1 h
  refine ⟨f0, h0, ?_⟩
  split at he
  · rename_i hs; exact .inl ⟨hs, he.symm⟩
  · rename_i hs; exact .inr ⟨hs, he.symm⟩
theorem setF_absent {s : ByteArray} {g : Ent → Ent} {fs : List Ent} (h : ∀ f ∈ fs, f.name ≠ s) : setF s g fs = fs := by
  unfold setF
  conv => rhs; rw [← List.map_id fs]
  exact List.map_congr_left fun f hf => if_neg (h f hf)
theorem usedF_setF {s : ByteArray} {g : Ent → Ent} {fs : List Ent} {f : Ent} (hu : (fs.map (·.name)).Nodup) (h : lookF s fs = some f) : usedF (setF s g fs) + f.bytes.size = usedF fs + (g f).bytes.size := by
  induction fs with
  | nil => cases h
  | cons x r ih =>
    rw [List.map_cons, List.nodup_cons] at hu
    simp only [lookF] at h
    split at h
    · rename_i he
      cases h
      have hr : setF s g r = r := setF_absent fun f' hf' e => hu.1 (by rw [← he, ← e]; exact List.mem_map_of_mem hf')
      have : setF s g (f :: r) = g f :: r := by
        conv => rhs; rw [← hr]
        show (if f.name = s then g f else f) :: _ = _
        rw [if_pos he.symm]; rfl
      rw [this, usedF_cons, usedF_cons]; omega
    · rename_i he
      have : setF s g (x :: r) = x :: setF s g r := by
        show (if x.name = s then g x else x) :: _ = _
        rw [if_neg (fun e => he (Eq.symm e))]; rfl
      rw [this, usedF_cons, usedF_cons]; have := ih hu.2 h; omega

theorem DiskOk.set {q : Nat} {fs : List Ent} (h : DiskOk q fs) {s : ByteArray} {g : Ent → Ent} {f : Ent} (hl : lookF s fs = some f) (hn : ∀ f, (g f).name = f.name) (hb : ∀ f, (g f).blk = f.blk)
    (hs : (g f).bytes.size ≤ 65536) (hy : (g f).sync ≤ (g f).bytes.size) (hu : usedF fs + (g f).bytes.size ≤ q + f.bytes.size) : DiskOk q (setF s g fs) := by
  have key : ∀ x ∈ setF s g fs, x ∈ fs ∨ x = g f := by
    intro x hx
    obtain ⟨f0, h0, h1 | h1⟩ := mem_setF hx
    · right
      have : lookF f0.name fs = some f0 := lookF_of_mem h.uniq h0
      rw [h1.1, hl] at this
      cases this
      exact h1.2
    · left; rw [h1.2]; exact h0
  have hf := lookF_mem hl
  refine ⟨h.q1, h.q2, by simp [setF]; exact h.n64, ?_, by rw [setF_eq _ _ _ _ hn]; exact h.uniq, by rw [setF_eq _ _ _ _ hb]; exact h.blks, ?_, ?_, ?_⟩
  · intro x hx; rcases key x hx with hx | rfl
    · exact h.names x hx
    · rw [hn]; exact h.names f hf.1
  · intro x hx; rcases key x hx with hx | rfl
    · exact h.size x hx
    · exact hs
  · intro x hx; rcases key x hx with hx | rfl
    · exact h.sync x hx
    · exact hy
  · have := usedF_setF (g := g) h.uniq hl; omega

/-! ### the memory's steps -/
theorem heap_setCell_at {w : World} {b k : Nat} {cs : Array Value} {t : TypeId} {fr : Nat × Nat} (h : w.heap[b]? = some (.cells cs t fr)) (v : Value) :
    (w.setCell ⟨b, k, none⟩ v).heap[b]? = some (.cells (cs.setIfInBounds k v) t fr) := by
  simp [World.setCell, Array.getElem?_modify, h]

theorem DiskAt.ne_a {w : World} {a m q : Nat} {fs : List Ent} (h : DiskAt w a m q fs) {f : Ent} (hf : f ∈ fs) : f.blk ≠ a := by
  intro e
  have h1 := h.files f hf
  unfold FileAt at h1
  rw [e, h.head] at h1
  simp at h1
theorem DiskAt.ne_m {w : World} {a m q : Nat} {fs : List Ent} (h : DiskAt w a m q fs) {f : Ent} (hf : f ∈ fs) : f.blk ≠ m := by
  intro e
  have h1 := h.files f hf
  obtain ⟨es, clock, hm, _⟩ := h.map
  unfold FileAt at h1
  rw [e, hm] at h1
  simp at h1
theorem DiskAt.ne_am {w : World} {a m q : Nat} {fs : List Ent} (h : DiskAt w a m q fs) : a ≠ m := by
  intro e
  have h1 := h.head
  obtain ⟨es, clock, hm, _⟩ := h.map
  rw [e, hm] at h1
  simp at h1

/-- one file's block is written -/
theorem DiskAt.set {w w' : World} {a m q : Nat} {fs : List Ent} (h : DiskAt w a m q fs) {s : ByteArray} {g : Ent → Ent} {f : Ent} (hl : lookF s fs = some f)
    (hn : ∀ f, (g f).name = f.name) (hb : ∀ f, (g f).blk = f.blk) (hg : w'.heap[f.blk]? = some (.cells #[.string (g f).bytes, .int .i64 ((g f).sync : Int)] 84 (0, 0)))
    (hk : ∀ k, k < w.heap.size → k ≠ f.blk → w'.heap[k]? = w.heap[k]?) (hok : DiskOk q (setF s g fs)) : DiskAt w' a m q (setF s g fs) := by
  have hf := lookF_mem hl
  refine ⟨(hk a (h.lt a (.inl rfl)) (h.ne_a hf.1).symm).trans h.head, ?_, ?_, hok⟩
  · have : kvOf (setF s g fs) = kvOf fs := by
      unfold kvOf
      exact setF_eq _ _ _ (fun f => (f.name, f.blk)) (fun f => by rw [hn, hb])
    rw [this]
    exact h.map.kept (hk m (h.lt m (.inr (.inl rfl))) (h.ne_m hf.1).symm)
  · intro x hx
    obtain ⟨f0, h0, h1 | h1⟩ := mem_setF hx
    · have : lookF f0.name fs = some f0 := lookF_of_mem h.ok.uniq h0
      rw [h1.1, hl] at this
      cases this
      unfold FileAt
      rw [h1.2, hb]
      exact hg
    · have hne : f0.blk ≠ f.blk := by
        intro e
        have hnd := h.ok.blks
        have : ∀ (l : List Ent), (l.map (·.blk)).Nodup → f0 ∈ l → f ∈ l → f0 = f := by
          intro l; induction l with
          | nil => intro _ h; cases h
          | cons y r ih =>
            intro hd m1 m2
            rw [List.map_cons, List.nodup_cons] at hd
            rcases List.mem_cons.1 m1 with e1 | m1 <;> rcases List.mem_cons.1 m2 with e2 | m2
            · rw [e1, e2]
            · exact absurd (by rw [← e1, e]; exact List.mem_map_of_mem m2) hd.1
            · exact absurd (by rw [← e2, ← e]; exact List.mem_map_of_mem m1) hd.1
            · exact ih hd.2 m1 m2
        have := this fs hnd h0 hf.1
        rw [this] at h1
        exact h1.1 hf.2
      unfold FileAt
      rw [h1.2]
      exact (hk _ (h.lt _ (.inr (.inr ⟨f0, h0, rfl⟩))) hne).trans (h.files f0 h0)

/-- the map's block is written, no file's -/
theorem DiskAt.remap {w w' : World} {a m q : Nat} {fs fs' : List Ent} (h : DiskAt w a m q fs) (hM : MapIs w' m (kvOf fs')) (hk : ∀ k, k < w.heap.size → k ≠ m → w'.heap[k]? = w.heap[k]?)
    (hf : ∀ f ∈ fs', FileAt w' f) (hok : DiskOk q fs') : DiskAt w' a m q fs' :=
  ⟨(hk a (h.lt a (.inl rfl)) h.ne_am).trans h.head, hM, hf, hok⟩

/-- an operation's end: what is told, the disk, what else has turned -/
def DPost (v : Value) (a m q : Nat) (fs fs' : List Ent) (w : World) (e : Ending) (w' : World) : Prop := e = .returned v ∧ DiskAt w' a m q fs' ∧ Chg (foot a m fs) w w'

theorem DPost.same {v : Value} {a m q : Nat} {fs : List Ent} {w : World} (h : DiskAt w a m q fs) {e : Ending} {w' : World} (he : e = .returned v) (hB : Below w.heap.size w w') : DPost v a m q fs fs w e w' :=
  ⟨he, h.below hB, Chg.of_below hB⟩
end Go.Proofs.YtjdkhclcempafaaGreat
