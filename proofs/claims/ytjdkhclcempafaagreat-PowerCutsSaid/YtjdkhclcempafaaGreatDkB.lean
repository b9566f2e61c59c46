import Derived.Maps.Own
import Derived.Sort.KeysCollected
import Derived.WalkKit
import Derived.Test.YtjdkhclcempafaaGreatDkA
set_option linter.unusedVariables false
set_option linter.unusedSimpArgs false
namespace Go.Proofs.YtjdkhclcempafaaGreat
open Go.RowKit Go.MapKept Go.Sort Go.Maps

/-! ### the entries of a map from strings to pointers at blocks -/
abbrev KV := List (ByteArray × Nat)
def kvE (e : MapEntry) : Value × Value := (e.key, e.val)
def kvV (p : ByteArray × Nat) : Value × Value := (.string p.1, .pointer (some ⟨p.2, 0, none⟩))

def getB (s : ByteArray) : KV → Option Nat
  | [] => none
  | p :: r => if s = p.1 then some p.2 else getB s r
def putB (s : ByteArray) (b : Nat) : KV → KV
  | [] => [(s, b)]
  | p :: r => if s = p.1 then (s, b) :: r else p :: putB s b r
def delB (s : ByteArray) : KV → KV
  | [] => []
  | p :: r => if s = p.1 then r else p :: delB s r

def MapIs (w : World) (m : Nat) (kv : KV) : Prop :=
  ∃ es clock, w.heap[m]? = some (.map es clock) ∧ Stamped es clock ∧ es.toList.map kvE = kv.map kvV

theorem kvV_inj {p q : ByteArray × Nat} (h : kvV p = kvV q) : p = q := by
  unfold kvV at h; simp at h; exact Prod.ext h.1 h.2

theorem findNow_get (s : ByteArray) : ∀ (l : List MapEntry) (kv : KV) (i : Nat), l.map kvE = kv.map kvV →
    (getB s kv = none ∧ Instr.findNow .string (.string s) l i = some none) ∨
    (∃ j b, getB s kv = some b ∧ Instr.findNow .string (.string s) l i = some (some (i + j, .pointer (some ⟨b, 0, none⟩))) ∧ j < l.length ∧
      (∀ (v : Value) (b' : Nat), v = .pointer (some ⟨b', 0, none⟩) → (l.modify j fun e => { e with key := .string s, val := v }).map kvE = (putB s b' kv).map kvV) ∧
      (∀ e, l[j]? = some e → e.key = .string s) ∧
      (l.eraseIdx j).map kvE = (delB s kv).map kvV) := by
  intro l
  induction l with
  | nil =>
    intro kv i h
    cases kv with
    | nil => exact .inl ⟨rfl, rfl⟩
    | cons p r => simp at h
  | cons e l ih =>
    intro kv i h
    cases kv with
    | nil => simp at h
    | cons p r =>
      simp only [List.map_cons, List.cons.injEq] at h
      obtain ⟨h1, h2⟩ := h
      have hk : e.key = .string p.1 := by have := congrArg Prod.fst h1; simpa [kvE, kvV] using this
      have hv : e.val = .pointer (some ⟨p.2, 0, none⟩) := by have := congrArg Prod.snd h1; simpa [kvE, kvV] using this
      by_cases hs : s = p.1
      · have hb : (s == p.1) = true := (MapKept.bytes_beq _ _).2 hs
        refine .inr ⟨0, p.2, by simp [getB, hs], by simp [Instr.findNow, Instr.sameNow, hk, hb, hv], by simp, ?_, ?_, ?_⟩
        · intro v b' hv'
          simp [putB, hs, kvE, kvV, hv']
          exact h2
        · intro e' he; simp at he; rw [← he, hk, hs]
        · simp [delB, hs, h2]
      · have hb : (s == p.1) = false := by
          cases h : (s == p.1)
          · rfl
          · exact absurd ((MapKept.bytes_beq _ _).1 h) hs
        rcases ih r (i + 1) h2 with ⟨a1, a2⟩ | ⟨j, b, a1, a2, a3, a4, a5, a6⟩
        · refine .inl ⟨by simp [getB, hs, a1], by simp [Instr.findNow, Instr.sameNow, hk, hb, a2]⟩
        · refine .inr ⟨j + 1, b, by simp [getB, hs, a1], ?_, by simp; omega, ?_, ?_, ?_⟩
          · have : i + (j + 1) = i + 1 + j := by omega
            rw [this]; simp [Instr.findNow, Instr.sameNow, hk, hb, a2]
          · intro v b' hv'
            have := a4 v b' hv'
            simp only [List.modify_succ_cons, List.map_cons, putB, hs, if_false]
            simp [this, h1]
          · intro e' he; exact a5 e' (by simpa using he)
          · simp [delB, hs, h1, a6]

section
variable {P : Program} {t k e : TypeId} {w : World} {m : Nat} {kv : KV}

theorem MapIs.findKey (hk : P.underlying k = some .string) (s : ByteArray) {es : Array MapEntry} (h : es.toList.map kvE = kv.map kvV) :
    (Instr.findKey k (.string s) es.toList).run P w = match Instr.findNow .string (.string s) es.toList 0 with | some r => .ok r w | none => .ok none w := by
  unfold Instr.findKey
  rcases findNow_get s es.toList kv 0 h with ⟨_, h2⟩ | ⟨j, b, _, h2, _⟩ <;> simp [run_underlying hk, h2, Result.andThen]

theorem checkKey_string (hk : P.underlying k = some .string) (emp : Bool) (n : Nat) (s : ByteArray) : (Instr.checkKey emp (n + 1) k (.string s)).run P w = .ok () w := by
  simp [Instr.checkKey, run_underlying hk, Result.andThen]

/-- 'm[s]' -/
theorem MapIs.lookup (h : MapIs w m kv) (ht : P.underlying t = some (.map k e)) (hk : P.underlying k = some .string) (hz : (zeroValue e).run P w = .ok (.pointer none) w) (s : ByteArray) :
    (Instr.lookup t (.map (some m)) (.string s) false).run P w = .ok (.pointer ((getB s kv).map fun b => ⟨b, 0, none⟩)) w := by
  obtain ⟨es, clock, hm, hst, hkv⟩ := h
  have hf := MapIs.findKey (w := w) hk s hkv
  have hc := checkKey_string (w := w) hk es.isEmpty 9999 s
  unfold Instr.lookup
  rcases findNow_get s es.toList kv 0 hkv with ⟨h1, h2⟩ | ⟨j, b, h1, h2, _⟩
  · rw [h2] at hf
    simp [run_underlying ht, getObj, hm, Sem.run, Result.andThen, hc, hf, hz, h1]
  · rw [h2] at hf
    simp [run_underlying ht, getObj, hm, Sem.run, Result.andThen, hc, hf, h1]

/-- 'len(m)' -/
theorem MapIs.len (h : MapIs w m kv) (ht : P.underlying t = some (.map k e)) (ty : TypeId) :
    (Builtin.len_ #[t] ty #[.map (some m)]).run P w = .ok (.int .i64 (kv.length : Int)) w := by
  obtain ⟨es, clock, hm, hst, hkv⟩ := h
  have hl : es.size = kv.length := by have := congrArg List.length hkv; simpa using this
  unfold Builtin.len_
  simp [run_underlying ht, getObj, hm, Sem.run, Result.andThen, hl, goInt]

/-- 'm[s] = v' -/
theorem MapIs.update (h : MapIs w m kv) (ht : P.underlying t = some (.map k e)) (hk : P.underlying k = some .string) (s : ByteArray) (b : Nat) :
    ∃ w', (Instr.mapUpdate t (.map (some m)) (.string s) (.pointer (some ⟨b, 0, none⟩))).run P w = .ok () w' ∧ MapIs w' m (putB s b kv) ∧ w.grownBy w' (some m) := by
  obtain ⟨es, clock, hm, hst, hkv⟩ := h
  have hlt : m < w.heap.size := (Array.getElem?_eq_some_iff.1 hm).1
  have hf := MapIs.findKey (w := w) hk s hkv
  have hc := checkKey_string (w := w) hk false 9999 s
  have hgr : ∀ o : Obj, w.grownBy { w with heap := w.heap.setIfInBounds m o } (some m) := fun o => ⟨rfl, rfl, rfl, by simp, fun i _ hi => by simp [Array.getElem?_setIfInBounds]; intro hmi; exact absurd (by rw [hmi]) hi⟩
  unfold Instr.mapUpdate
  rcases findNow_get s es.toList kv 0 hkv with ⟨h1, h2⟩ | ⟨j, b0, h1, h2, h3, h4, h5, h6⟩
  · rw [h2] at hf
    refine ⟨{ w with heap := w.heap.setIfInBounds m (.map (es.push { key := .string s, val := .pointer (some ⟨b, 0, none⟩), born := clock }) (clock + 1)) }, ?_, ⟨_, _, by simp [hlt]; exact ⟨rfl, rfl⟩, ?_, ?_⟩, hgr _⟩
    · simp [run_underlying ht, getObj, setObj, hm, Sem.run, Result.andThen, hc, hf]
    · refine stamped_push hst (fun x hx he => ?_)
      have : kvE x ∈ kv.map kvV := by rw [← hkv]; exact List.mem_map_of_mem hx
      obtain ⟨p, hp, hpe⟩ := List.mem_map.1 this
      have hps : p.1 = s := by have := congrArg Prod.fst hpe; simp [kvE, kvV, he] at this; exact this
      have : ∀ (l : KV), p ∈ l → getB s l ≠ none := by
        intro l; induction l with
        | nil => intro h; cases h
        | cons q r ih =>
          intro h
          unfold getB
          by_cases hq : s = q.1
          · simp [hq]
          · rw [if_neg hq]; rcases List.mem_cons.1 h with e | h'
            · exact absurd (by rw [← e, hps]) hq
            · exact ih h'
      exact this kv hp h1
    · have hput : ∀ (l : KV), getB s l = none → putB s b l = l ++ [(s, b)] := by
        intro l; induction l with
        | nil => intro _; rfl
        | cons q r ih =>
          intro h
          unfold getB at h
          by_cases hq : s = q.1
          · simp [hq] at h
          · rw [if_neg hq] at h; simp [putB, hq, ih h]
      rw [hput kv h1]
      simp [hkv, kvE, kvV]
  · rw [h2] at hf
    have hj : j < es.size := by simpa using h3
    have hkey : es[j].key = .string s := h5 _ (by simp [hj])
    have hstay : (Instr.keyThatStays (.string s) (.string s)).run P w = .ok (.string s) w := by
      simp [Instr.keyThatStays, Instr.sameBits, (MapKept.bytes_beq s s).2 rfl]
    refine ⟨{ w with heap := w.heap.setIfInBounds m (.map (es.modify j fun e => { e with key := .string s, val := .pointer (some ⟨b, 0, none⟩) }) clock) }, ?_, ⟨_, _, by simp [hlt]; exact ⟨rfl, rfl⟩, ?_, ?_⟩, hgr _⟩
    · simp [run_underlying ht, getObj, setObj, hm, Sem.run, Result.andThen, hc, hf, hj, hkey, hstay]
    · exact stamped_modify hst j _ (fun e _ => rfl) (fun e _ he => by have : es[j] = e := by simpa [hj] using he
                                                                      rw [← this, hkey])
    · rw [Array.toList_modify]; exact h4 _ b rfl

/-- 'delete(m, s)' -/
theorem MapIs.delete (h : MapIs w m kv) (ht : P.underlying t = some (.map k e)) (hk : P.underlying k = some .string) (s : ByteArray) :
    ∃ w', (∀ t2 ty, (Builtin.delete_ #[t, t2] ty #[.map (some m), .string s]).run P w = .ok (.tuple #[]) w') ∧ MapIs w' m (delB s kv) ∧ w.grownBy w' (some m) := by
  obtain ⟨es, clock, hm, hst, hkv⟩ := h
  have hlt : m < w.heap.size := (Array.getElem?_eq_some_iff.1 hm).1
  have hf := MapIs.findKey (w := w) hk s hkv
  have hc := checkKey_string (w := w) hk es.isEmpty 9999 s
  have hgr : ∀ o : Obj, w.grownBy { w with heap := w.heap.setIfInBounds m o } (some m) := fun o => ⟨rfl, rfl, rfl, by simp, fun i _ hi => by simp [Array.getElem?_setIfInBounds]; intro hmi; exact absurd (by rw [hmi]) hi⟩
  rcases findNow_get s es.toList kv 0 hkv with ⟨h1, h2⟩ | ⟨j, b0, h1, h2, h3, h4, h5, h6⟩
  · rw [h2] at hf
    refine ⟨{ w with heap := w.heap.setIfInBounds m (.map es clock) }, ?_, ⟨es, clock, by simp [hlt], hst, ?_⟩, hgr _⟩
    · intro t2 ty
      unfold Builtin.delete_
      simp [run_underlying ht, getObj, setObj, hm, Sem.run, Result.andThen, hc, hf]
    · have hdel : ∀ (l : KV), getB s l = none → delB s l = l := by
        intro l; induction l with
        | nil => intro _; rfl
        | cons q r ih =>
          intro h
          unfold getB at h
          by_cases hq : s = q.1
          · simp [hq] at h
          · rw [if_neg hq] at h; simp [delB, hq, ih h]
      rw [hdel kv h1]; exact hkv
  · rw [h2] at hf
    refine ⟨{ w with heap := w.heap.setIfInBounds m (.map (es.eraseIdxIfInBounds j) clock) }, ?_, ⟨_, _, by simp [hlt], stamped_erase hst j, ?_⟩, hgr _⟩
    · intro t2 ty
      unfold Builtin.delete_
      simp [run_underlying ht, getObj, setObj, hm, Sem.run, Result.andThen, hc, hf]
    · have hj' : j < es.size := by simpa using h3
      have : (es.eraseIdxIfInBounds j).toList = es.toList.eraseIdx j := by unfold Array.eraseIdxIfInBounds; rw [dif_pos hj']; simp
      rw [this]; exact h6

/-- the map stays what it is while other blocks are written -/
theorem MapIs.kept {w w' : World} {m : Nat} {kv : KV} (h : MapIs w m kv) (he : w'.heap[m]? = w.heap[m]?) : MapIs w' m kv := by
  obtain ⟨es, clock, hm, hst, hkv⟩ := h
  exact ⟨es, clock, he.trans hm, hst, hkv⟩
theorem MapIs.lt {w : World} {m : Nat} {kv : KV} (h : MapIs w m kv) : m < w.heap.size := by
  obtain ⟨es, clock, hm, hst, hkv⟩ := h
  exact (Array.getElem?_eq_some_iff.1 hm).1
theorem MapIs.nodup {w : World} {m : Nat} {kv : KV} (h : MapIs w m kv) : (kv.map (·.1)).Nodup := by
  obtain ⟨es, clock, hm, ⟨_, _, h3⟩, hkv⟩ := h
  have e1 : es.toList.map (·.key) = kv.map (fun p => Value.string p.1) := by
    have := congrArg (List.map Prod.fst) hkv
    simpa [kvE, kvV, Function.comp_def] using this
  rw [e1] at h3
  unfold List.Nodup at h3 ⊢
  rw [List.pairwise_map] at h3 ⊢
  exact h3.imp (fun h e => h (by rw [e]))
theorem MapIs.made (w : World) : MapIs (w.alloc (.map #[] 0)) w.heap.size [] :=
  ⟨#[], 0, (MapKept.heap_alloc w _).1, stamped_empty 0, rfl⟩

theorem insert_perm (x : Lit × DataW Unit) : ∀ l : List (Lit × DataW Unit), (DataW.insert x l).Perm (x :: l)
  | [] => .refl _
  | y :: r => by
    unfold DataW.insert
    split
    · exact .refl _
    · exact ((insert_perm x r).cons y).trans (.swap ..)
/-- for the library's contracts: the map as a datum whose values are all alike -/
def anyR (_ : Value) : Option (DataW Unit × List MemPlace) := some (.nil, [])
def keysD (P : Program) (k : TypeId) (es : Array MapEntry) : DataW Unit := .map ((es.toList.map (WideElems.rg P k anyR)).foldr DataW.insert [])
theorem MapIs.owns {w : World} {m : Nat} {kv : KV} (h : MapIs w m kv) (hk : P.underlying k = some .string) (hb : ∀ p ∈ kv, p.1.size ≤ maxLen) (hn : kv.length ≤ maxLen) :
    ∃ D : DataW Unit, w.ownsMap P k anyR m kv.length D ∧ Maps.size D = kv.length ∧ (strKeys D).Perm (kv.map (·.1.data.toList)) := by
  obtain ⟨es, clock, hm, hst, hkv⟩ := h
  have hl : es.size = kv.length := by have := congrArg List.length hkv; simpa using this
  have hrd : ∀ x ∈ es.toList, ∃ p ∈ kv, x.key = .string p.1 := by
    intro x hx
    have : kvE x ∈ kv.map kvV := by rw [← hkv]; exact List.mem_map_of_mem hx
    obtain ⟨p, hp, hpe⟩ := List.mem_map.1 this
    refine ⟨p, hp, ?_⟩
    have := congrArg Prod.fst hpe; simp [kvE, kvV] at this; exact this.symm
  refine ⟨keysD P k es, ⟨es, clock, hm, ⟨by omega, hst, ?_⟩, by omega, rfl⟩, ?_, ?_⟩
  · intro x hx
    obtain ⟨p, hp, hx⟩ := hrd x hx
    exact ⟨(.string p.1.data.toList, .nil), by simp [WideElems.rd, hx, anyR, Go.WideMaps.keyOf_string_mk hk (hb p hp)]⟩
  · simp [keysD, Maps.size, length_sorted, hl]
  · have hp : ∀ l : List (Lit × DataW Unit), (l.foldr DataW.insert []).Perm l := by
      intro l; induction l with
      | nil => exact .refl _
      | cons x r ih => exact (insert_perm x _).trans (ih.cons x)
    have := (hp (es.toList.map (WideElems.rg P k anyR))).map (fun q => strOf q.1)
    refine this.trans ?_
    have e1 : (es.toList.map (WideElems.rg P k anyR)).map (fun q => strOf q.1) = kv.map (·.1.data.toList) := by
      have e2 : es.toList.map (·.key) = kv.map (fun p => Value.string p.1) := by
        have := congrArg (List.map Prod.fst) hkv
        simpa [kvE, kvV, Function.comp_def] using this
      have e3 : ∀ (l : List MapEntry) (kv : KV), l.map (·.key) = kv.map (fun p => Value.string p.1) → (∀ p ∈ kv, p.1.size ≤ maxLen) → (l.map (WideElems.rg P k anyR)).map (fun q => strOf q.1) = kv.map (·.1.data.toList) := by
        intro l
        induction l with
        | nil => intro kv h _; cases kv with
          | nil => rfl
          | cons => simp at h
        | cons x r ih =>
          intro kv h hb
          cases kv with
          | nil => simp at h
          | cons p q =>
            simp only [List.map_cons, List.cons.injEq] at h ⊢
            refine ⟨?_, ih q h.2 (fun p' hp' => hb p' (List.mem_cons_of_mem _ hp'))⟩
            simp [WideElems.rg, WideElems.rd, h.1, anyR, Go.WideMaps.keyOf_string_mk hk (hb p (List.mem_cons_self ..)), strOf]
      exact e3 _ _ e2 hb
    rw [e1]
end
end Go.Proofs.YtjdkhclcempafaaGreat
