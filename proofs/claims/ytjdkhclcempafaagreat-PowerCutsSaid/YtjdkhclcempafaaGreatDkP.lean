import Derived.Test.YtjdkhclcempafaaGreatDkO
set_option linter.unusedVariables false
set_option linter.unusedSimpArgs false
namespace Go.Proofs.YtjdkhclcempafaaGreat
open Go.RowKit Go.Shelf Go.Sort Go.Maps

/-- a disk that was made since w0 -/
structure Own (w0 W : World) (a m q : Nat) (fs : List Ent) : Prop where
  disk : DiskAt W a m q fs
  low : ∀ k, foot a m fs k → w0.heap.size ≤ k
  old : Below w0.heap.size w0 W

def OP (v : Value) (w0 : World) (a m q : Nat) (fs : List Ent) (e : Ending) (W' : World) : Prop := e = .returned v ∧ Own w0 W' a m q fs

section
variable {w0 W W' : World} {a m q : Nat} {fs fs' : List Ent}

theorem Own.below (h : Own w0 W a m q fs) (hB : Below W.heap.size W W') : Own w0 W' a m q fs :=
  ⟨h.disk.below hB, h.low, h.old.trans (hB.mono h.old.size)⟩
theorem Own.chg (h : Own w0 W a m q fs) (hd : DiskAt W' a m q fs') (hc : Chg (foot a m fs) W W') (hb : ∀ f ∈ fs', (∃ g ∈ fs, g.blk = f.blk) ∨ W.heap.size ≤ f.blk) : Own w0 W' a m q fs' := by
  have hs := h.old.size
  refine ⟨hd, ?_, h.old.trans (hc.to_below hs h.low)⟩
  rintro k (rfl | rfl | ⟨f, hf, rfl⟩)
  · exact h.low _ (.inl rfl)
  · exact h.low _ (.inr (.inl rfl))
  · rcases hb f hf with ⟨g, hg, he⟩ | hb
    · exact h.low _ (.inr (.inr ⟨g, hg, he⟩))
    · omega

theorem blk_setF {s : ByteArray} {g : Ent → Ent} (hg : ∀ f, (g f).blk = f.blk) : ∀ f ∈ setF s g fs, ∃ h ∈ fs, h.blk = f.blk := by
  intro f hf
  obtain ⟨f0, h0, ⟨_, rfl⟩ | ⟨_, rfl⟩⟩ := mem_setF hf
  · exact ⟨f0, h0, (hg f0).symm⟩
  · exact ⟨f, h0, rfl⟩
theorem blk_appendR (s b : ByteArray) : ∀ f ∈ appendR q s b fs, ∃ h ∈ fs, h.blk = f.blk := by
  unfold appendR; split
  · exact blk_setF (fun _ => rfl)
  · exact fun f hf => ⟨f, hf, rfl⟩
theorem blk_syncR (s : ByteArray) : ∀ f ∈ syncR s fs, ∃ h ∈ fs, h.blk = f.blk := by
  unfold syncR; split
  · exact blk_setF (fun _ => rfl)
  · exact fun f hf => ⟨f, hf, rfl⟩
theorem blk_removeR (s : ByteArray) : ∀ f ∈ removeR s fs, ∃ h ∈ fs, h.blk = f.blk := by
  unfold removeR; split
  · exact fun f hf => ⟨f, mem_delF hf, rfl⟩
  · exact fun f hf => ⟨f, hf, rfl⟩
theorem blk_renameR (s t : ByteArray) : ∀ f ∈ renameR s t fs, ∃ h ∈ fs, h.blk = f.blk := by
  unfold renameR; split
  · split
    · rename_i f0 h0
      intro f hf
      rcases mem_putF hf with rfl | hf
      · exact ⟨f0, (lookF_mem h0).1, rfl⟩
      · exact ⟨f, mem_delF hf, rfl⟩
    · exact fun f hf => ⟨f, hf, rfl⟩
  · exact fun f hf => ⟨f, hf, rfl⟩
theorem blk_crashAt (ks : List Int) : ∀ (l : List ByteArray) (i : Nat) (fs : List Ent), ∀ f ∈ crashAt ks i l fs, ∃ h ∈ fs, h.blk = f.blk
  | [], _, _ => fun f hf => ⟨f, hf, rfl⟩
  | s :: r, i, fs => fun f hf => by
    obtain ⟨g, hg, he⟩ := blk_crashAt ks r (i + 1) _ f hf
    obtain ⟨h, hh, he2⟩ := blk_setF (g := crashG (crashK ks i)) (fun _ => rfl) g hg
    exact ⟨h, hh, he2.trans he⟩
theorem blk_createR (b : Nat) (s : ByteArray) : ∀ f ∈ createR b s fs, (∃ h ∈ fs, h.blk = f.blk) ∨ f.blk = b := by
  unfold createR; split
  · intro f hf
    rcases mem_putF hf with rfl | hf
    · exact .inr rfl
    · exact .inl ⟨f, hf, rfl⟩
  · exact fun f hf => .inl ⟨f, hf, rfl⟩

theorem Own.read (h : Own w0 W a m q fs) (s : ByteArray) : Calls Tryz.prog 25 #[.pointer (some ⟨a, 0, none⟩), .string s] W (OP (.tuple #[.string (readS fs s), .int .i64 (errS fs s)]) w0 a m q fs) :=
  (read_any h.disk s).mono fun e W' ⟨he, hB⟩ => ⟨he, h.below hB⟩
theorem Own.synced (h : Own w0 W a m q fs) (s : ByteArray) : Calls Tryz.prog 26 #[.pointer (some ⟨a, 0, none⟩), .string s] W (OP (.int .i64 (syncS fs s : Int)) w0 a m q fs) :=
  (synced_any h.disk s).mono fun e W' ⟨he, hB⟩ => ⟨he, h.below hB⟩
theorem Own.used (h : Own w0 W a m q fs) : Calls Tryz.prog 50 #[.pointer (some ⟨a, 0, none⟩)] W (OP (.int .i64 (usedF fs : Int)) w0 a m q fs) :=
  (used_any h.disk).mono fun e W' ⟨he, hB⟩ => ⟨he, h.below hB⟩
theorem Own.append (h : Own w0 W a m q fs) (s b : ByteArray) (hb : b.size ≤ 9223372036854775807) : Calls Tryz.prog 36 #[.pointer (some ⟨a, 0, none⟩), .string s, .string b] W (OP (.int .i64 (appendE q fs s b)) w0 a m q (appendR q s b fs)) :=
  (append_any h.disk s b hb).mono fun e W' ⟨he, hd, hc⟩ => ⟨he, h.chg hd hc fun f hf => .inl (blk_appendR s b f hf)⟩
theorem Own.sync (h : Own w0 W a m q fs) (s : ByteArray) : Calls Tryz.prog 38 #[.pointer (some ⟨a, 0, none⟩), .string s] W (OP (.int .i64 (errS fs s)) w0 a m q (syncR s fs)) :=
  (sync_any h.disk s).mono fun e W' ⟨he, hd, hc⟩ => ⟨he, h.chg hd hc fun f hf => .inl (blk_syncR s f hf)⟩
theorem Own.remove (h : Own w0 W a m q fs) (s : ByteArray) : Calls Tryz.prog 42 #[.pointer (some ⟨a, 0, none⟩), .string s] W (OP (.int .i64 (errS fs s)) w0 a m q (removeR s fs)) :=
  (remove_any h.disk s).mono fun e W' ⟨he, hd, hc⟩ => ⟨he, h.chg hd hc fun f hf => .inl (blk_removeR s f hf)⟩
theorem Own.rename (h : Own w0 W a m q fs) (s t : ByteArray) : Calls Tryz.prog 40 #[.pointer (some ⟨a, 0, none⟩), .string s, .string t] W (OP (.int .i64 (renameE fs s t)) w0 a m q (renameR s t fs)) :=
  (rename_any h.disk s t).mono fun e W' ⟨he, hd, hc⟩ => ⟨he, h.chg hd hc fun f hf => .inl (blk_renameR s t f hf)⟩
theorem Own.create (h : Own w0 W a m q fs) (s : ByteArray) : Calls Tryz.prog 34 #[.pointer (some ⟨a, 0, none⟩), .string s] W (fun e W' => ∃ b, OP (.int .i64 (createE fs s)) w0 a m q (createR b s fs) e W') :=
  (create_any h.disk s).mono fun e W' ⟨b, hb, he, hd, hc⟩ => ⟨b, he, h.chg hd hc fun f hf => (blk_createR b s f hf).imp id fun (e : f.blk = b) => by omega⟩
theorem Own.crash (h : Own w0 W a m q fs) (p : Option Addr) (cap : Nat) (ks : List Int) (hk : KeepAt W (foot a m fs) p ks) : Calls Tryz.prog 29 #[.pointer (some ⟨a, 0, none⟩), .slice p ks.length cap] W (OP (.tuple #[]) w0 a m q (crashR ks fs)) :=
  (crash_any h.disk p cap ks hk).mono fun e W' ⟨he, hd, hc⟩ => ⟨he, h.chg hd hc fun f hf => .inl (blk_crashAt ks _ 0 fs f hf)⟩
theorem own_new (w0 W : World) (h : Below w0.heap.size w0 W) (q : Nat) (h1 : 1 ≤ q) (h2 : q ≤ 1048576) : Calls Tryz.prog 7 #[.int .i64 (q : Int)] W (fun e W' => ∃ a m, OP (.pointer (some ⟨a, 0, none⟩)) w0 a m q [] e W') :=
  (new_ok q h1 h2 W).mono fun e W' ⟨a, m, he, ha, hm, hd, hB⟩ => ⟨a, m, he, hd, by
    have hs := h.size
    rintro k (rfl | rfl | ⟨f, hf, _⟩)
    · omega
    · omega
    · exact absurd hf (by simp), h.trans (hB.mono h.size)⟩
theorem KeepAt.below {S : Nat → Prop} {p : Option Addr} {ks : List Int} (h : KeepAt W S p ks) (hB : Below W.heap.size W W') : KeepAt W' S p ks := h.chg (Chg.of_below hB)
end

theorem keep_foot {W : World} {S T : Nat → Prop} {p : Option Addr} {ks : List Int} (h : KeepAt W S p ks) (hs : ∀ k, T k → S k) : KeepAt W T p ks :=
  ⟨fun k hk => let ⟨ad, hp, hl, hn, hc⟩ := h.1 k hk; ⟨ad, hp, hl, fun ht => hn (hs _ ht), hc⟩, h.2⟩
end Go.Proofs.YtjdkhclcempafaaGreat
