/-
  The reference's setting, plain; and in memory.
-/
import Derived.Test.YtahgbecfaihfpaaDoorTSetM
namespace Go.Proofs.YtahgbecfaihfpaaDoor.D
/-- A string begins with another one. -/
def begS (s t : ByteArray) : Bool := decide (t.size ≤ s.size) && sameS (s.extract 0 t.size) t
/-- What is best when the first g glyphs are looked at, of q bytes. -/
def candAt (F : Font) (w : List UInt8) (q g : Nat) (best : Option (List Nat)) : Option (List Nat) :=
  if q ≤ w.length ∧ gIx F.glyphs (baL (w.take q)) F.glyphs.length < g then better (gIx F.glyphs (baL (w.take q)) F.glyphs.length) (setS F (w.drop q)) best else best
def tblR (F : Font) (w : List UInt8) (i : Nat) (o : Option (List Nat)) (k : Nat) : Option (List Nat) := if i < k then setS F (w.drop k) else if k = i then o else none
theorem candAt_zero (F : Font) (w : List UInt8) (q : Nat) (best : Option (List Nat)) : candAt F w q 0 best = best := if_neg (by omega)
theorem candAt_all (F : Font) (w : List UInt8) (q : Nat) (best : Option (List Nat)) : candAt F w q F.glyphs.length best = candS F w (fun k => setS F (w.drop k)) q best := by
  unfold candAt candS
  by_cases h1 : q ≤ w.length
  · rw [if_pos h1]
    by_cases h2 : gIx F.glyphs (baL (w.take q)) F.glyphs.length < F.glyphs.length
    · rw [if_pos ⟨h1, h2⟩, if_pos h2]
    · rw [if_neg (fun h => h2 h.2), if_neg h2]
  · rw [if_neg (fun h => h1 h.1), if_neg h1]
theorem baL_size (l : List UInt8) : (baL l).size = l.length := by show l.toArray.size = l.length; simp
end Go.Proofs.YtahgbecfaihfpaaDoor.D
namespace Go.Proofs.YtahgbecfaihfpaaDoor
open Go.RowKit D
set_option linter.unusedVariables false
theorem begS_iff {s t : ByteArray} : begS s t = true ↔ t.size ≤ s.size ∧ t = baL (s.data.toList.take t.size) := by
  unfold begS
  rw [Bool.and_eq_true, decide_eq_true_eq, sameS_iff, ext_take]
  constructor
  · rintro ⟨h1, h2⟩; exact ⟨h1, h2.symm⟩
  · rintro ⟨h1, h2⟩; exact ⟨h1, h2.symm⟩
/-- The glyph is not the one that is sought. -/
theorem candAt_skip {F : Font} {s : ByteArray} {q g : Nat} (hg : g < F.glyphs.length) (h : (decide ((glD F.glyphs g).text.size = q) && begS s (glD F.glyphs g).text) = false) (best : Option (List Nat)) : candAt F s.data.toList q (g + 1) best = candAt F s.data.toList q g best := by
  have hl : s.data.toList.length = s.size := Array.length_toList
  unfold candAt
  by_cases h1 : q ≤ s.data.toList.length
  · have hne : gIx F.glyphs (baL (s.data.toList.take q)) F.glyphs.length ≠ g := fun he => by
      have h2 := (firstN_spec (p := fun j => sameS (glD F.glyphs j).text (baL (s.data.toList.take q))) (n := F.glyphs.length)).2
      have he' : firstN (fun j => sameS (glD F.glyphs j).text (baL (s.data.toList.take q))) F.glyphs.length = g := he
      rw [he'] at h2
      have h3 := sameS_iff.1 (h2 hg)
      have h4 : (glD F.glyphs g).text.size = q := by rw [h3, baL_size, List.length_take]; omega
      rw [decide_eq_true h4, Bool.true_and] at h
      have h5 : begS s (glD F.glyphs g).text = true := begS_iff.2 ⟨by omega, by rw [h4]; exact h3⟩
      rw [h] at h5; cases h5
    by_cases h6 : gIx F.glyphs (baL (s.data.toList.take q)) F.glyphs.length < g
    · rw [if_pos ⟨h1, by omega⟩, if_pos ⟨h1, h6⟩]
    · rw [if_neg (fun h => by have := h.2; omega), if_neg (fun h => h6 h.2)]
  · rw [if_neg (fun h => h1 h.1), if_neg (fun h => h1 h.1)]
/-- The glyph that is sought. -/
theorem candAt_hit {F : Font} (hk : FontOk F) {s : ByteArray} {q g : Nat} (hg : g < F.glyphs.length) (h4 : (glD F.glyphs g).text.size = q) (h : begS s (glD F.glyphs g).text = true) (best : Option (List Nat)) : q ≤ s.size ∧ candAt F s.data.toList q g best = best ∧ candAt F s.data.toList q (g + 1) best = better g (setS F (s.data.toList.drop q)) best := by
  have hl : s.data.toList.length = s.size := Array.length_toList
  obtain ⟨h1, h2⟩ := begS_iff.1 h
  rw [h4] at h1 h2
  have ht := (glE_wide (hk.gl g hg)).1.2.1
  unfold twice at ht
  have ht := of_decide_eq_false ht
  have he : gIx F.glyphs (baL (s.data.toList.take q)) F.glyphs.length = g := by
    refine firstN_at (fun i hi => ?_) ?_ hg
    · have h5 := (firstN_spec (p := fun k => sameS (glD F.glyphs k).text (glD F.glyphs g).text) (n := g)).1 i (by omega)
      rw [← h2]; exact h5
    · rw [← h2]; exact sameS_iff.2 rfl
  refine ⟨h1, ?_, ?_⟩
  · unfold candAt; rw [he, if_neg (by omega)]
  · unfold candAt; rw [he, if_pos ⟨by omega, by omega⟩]
/-- A setting that is held in a slice; none: nil. -/
def RV (W : World) (o : Option (List Nat)) (v : Value) : Prop := (v = .slice none 0 0 ∧ o.getD [] = []) ∨ ∃ b off cap, v = .slice (some ⟨b, off, none⟩) (o.getD []).length cap ∧ IntsT W ⟨some ⟨b, off, none⟩, cap⟩ ((o.getD []).map Int.ofNat)
theorem RV.below {W W' : World} {o : Option (List Nat)} {v : Value} (h : RV W o v) (hb : Ext2 W W') : RV W' o v := by
  rcases h with h | ⟨b, off, cap, h1, h2⟩
  · exact .inl h
  · exact .inr ⟨b, off, cap, h1, h2.below hb⟩
theorem RV.set {W : World} {o : Option (List Nat)} {v : Value} (h : RV W o v) {e : TypeId} {g j : Nat} {c : Array Value} {f : Nat × Nat} {u : Value} (hg : W.heap[g]? = some (.cells c e f)) (he : 3 ≠ e) : RV (W.setCell ⟨g, j, none⟩ u) o v := by
  rcases h with h | ⟨b, off, cap, h1, h2⟩
  · exact .inl h
  · exact .inr ⟨b, off, cap, h1, h2.set hg he⟩
theorem RV.val {W : World} {o : Option (List Nat)} {v : Value} (h : RV W o v) : ∃ a cap, v = .slice a (o.getD []).length cap := by
  rcases h with ⟨h, h0⟩ | ⟨b, off, cap, h1, h2⟩
  · exact ⟨none, 0, by rw [h, h0]; rfl⟩
  · exact ⟨_, _, h1⟩
theorem tblR_put (F : Font) (wd : List UInt8) (i : Nat) (o : Option (List Nat)) (x : List Nat) (k : Nat) : (if k = i then some x else tblR F wd i o k) = tblR F wd i (some x) k := by
  unfold tblR
  by_cases h : k = i
  · rw [if_pos h, if_neg (by omega), if_pos h]
  · rw [if_neg h, if_neg h]
    split
    · rfl
    · rfl
theorem app_out {W w5 : World} {g : Nat} {l : List Nat} {v5 : Value} (hO5 : OwnR w5 W.heap.size 3 1 v5 (1 + l.length) (intC ((g :: l).map Int.ofNat))) (hg5 : (W.alloc (.cells #[.int .i64 (g : Int)] 3)).grownBy w5 (Value.slice (some ⟨W.heap.size, 0, none⟩) 1 1).ownBlock) : Ext2 W w5 ∧ RV w5 (some (g :: l)) v5 := by
  have HE5 := app_below (Below.refl _ _) (own_one W (Nat.le_refl _) 3 (.int .i64 (g : Int)) (intC ((g :: l).map Int.ofNat)) rfl) (Nat.le_refl _) (by simp) hg5
  have hE5 : Ext2 W w5 := Below.trans (below_alloc' _ _) (HE5.mono (by simp))
  obtain ⟨nb, ncap, rfl, -⟩ := own_some hO5 (by omega)
  have hO := own_rowA hO5
  have hOT := own_ty hO5
  refine ⟨hE5, .inr ⟨nb, 0, ncap, by rw [Option.getD_some, List.length_cons, Nat.add_comm], ?_, hOT⟩⟩
  unfold IntsS
  rw [Option.getD_some, ints_len, List.length_cons, Nat.add_comm]; exact hO
theorem app_nil {W : World} (g : Nat) : Ext2 W (W.alloc (.cells #[.int .i64 (g : Int)] 3)) ∧ RV (W.alloc (.cells #[.int .i64 (g : Int)] 3)) (some [g]) (.slice (some ⟨W.heap.size, 0, none⟩) 1 1) :=
  app_out (l := []) (own_one W (Nat.le_refl _) 3 (.int .i64 (g : Int)) (intC ([g].map Int.ofNat)) rfl) (World.grownBy.refl _ _)
/-- The reference's two lists. -/
structure RSt (w W : World) (n bb cb : Nat) (T : Nat → Option (List Nat)) : Prop where
  bel : Below w.heap.size w W
  lo : w.heap.size ≤ bb ∧ w.heap.size ≤ cb
  best : ∃ c, W.heap[bb]? = some (.cells c 26 (0, 0)) ∧ c.size = n + 1 ∧ ∀ k, k ≤ n → ∃ v, c[k]? = some v ∧ RV W (T k) v
  can : ∃ c, W.heap[cb]? = some (.cells c 4 (0, 0)) ∧ c.size = n + 1 ∧ ∀ k, k ≤ n → c[k]? = some (.bool (T k).isSome)
section
variable {w W W' : World} {n bb cb : Nat} {T T' : Nat → Option (List Nat)}
theorem RSt.ne (h : RSt w W n bb cb T) : bb ≠ cb := fun he => by
  obtain ⟨c, h1, -⟩ := h.best
  obtain ⟨c', h2, -⟩ := h.can
  rw [he, h2] at h1; cases h1
theorem RSt.ext (h : RSt w W n bb cb T) (hb : Ext2 W W') : RSt w W' n bb cb T := by
  obtain ⟨h1, h2, ⟨c, h3, h4, h5⟩, ⟨c', h6, h7, h8⟩⟩ := h
  exact ⟨below_ext h1 hb, h2, ⟨c, Ext2.blk hb h3, h4, fun k hk => by obtain ⟨v, a, b⟩ := h5 k hk; exact ⟨v, a, b.below hb⟩⟩, ⟨c', Ext2.blk hb h6, h7, h8⟩⟩
theorem RSt.at (h : RSt w W n bb cb T) {k : Nat} (hk : k ≤ n) : ∃ v, W.cell? ⟨bb, k, none⟩ = some v ∧ RV W (T k) v ∧ W.cell? ⟨cb, k, none⟩ = some (.bool (T k).isSome) ∧ W.frozen? ⟨bb, k, none⟩ = false ∧ W.frozen? ⟨cb, k, none⟩ = false := by
  obtain ⟨-, -, ⟨c, h3, -, h5⟩, ⟨c', h6, -, h8⟩⟩ := h
  obtain ⟨v, h1, h2⟩ := h5 k hk
  exact ⟨v, (cell_blk h3 k).trans h1, h2, (cell_blk h6 k).trans (h8 k hk), frz_blk h3 k, frz_blk h6 k⟩
theorem RSt.congr (h : RSt w W n bb cb T) (he : ∀ k, k ≤ n → T k = T' k) : RSt w W n bb cb T' := by
  obtain ⟨h1, h2, ⟨c, h3, h4, h5⟩, ⟨c', h6, h7, h8⟩⟩ := h
  exact ⟨h1, h2, ⟨c, h3, h4, fun k hk => by rw [← he k hk]; exact h5 k hk⟩, ⟨c', h6, h7, fun k hk => by rw [← he k hk]; exact h8 k hk⟩⟩
theorem RSt.put (h : RSt w W n bb cb T) {i : Nat} (hi : i ≤ n) {l : List Nat} {v : Value} (hv : RV W (some l) v) : RSt w ((W.setCell ⟨cb, i, none⟩ (.bool true)).setCell ⟨bb, i, none⟩ v) n bb cb (fun k => if k = i then some l else T k) := by
  have hne := h.ne
  obtain ⟨h1, h2, ⟨c, h3, h4, h5⟩, ⟨c', h6, h7, h8⟩⟩ := h
  have g1 := blk_set h6 i (.bool true)
  have g2 := blk_set_ne (b' := cb) (o := i) (v := .bool true) h3 (Ne.symm hne)
  have st : ∀ {o : Option (List Nat)} {u : Value}, RV W o u → RV ((W.setCell ⟨cb, i, none⟩ (.bool true)).setCell ⟨bb, i, none⟩ v) o u := fun hu => (hu.set h6 (by decide)).set g2 (by decide)
  refine ⟨below_set (below_set h1 h2.2) h2.1, h2, ⟨_, blk_set g2 _ _, by simp [h4], fun k hk => ?_⟩, ⟨_, blk_set_ne g1 hne, by simp [h7], fun k hk => ?_⟩⟩
  · by_cases hki : k = i
    · subst hki
      refine ⟨v, ?_, ?_⟩
      · rw [Array.getElem?_setIfInBounds, if_pos rfl, if_pos (by omega)]
      · rw [if_pos rfl]; exact st hv
    · obtain ⟨u, a, b⟩ := h5 k hk
      refine ⟨u, ?_, ?_⟩
      · rw [Array.getElem?_setIfInBounds, if_neg (Ne.symm hki)]; exact a
      · rw [if_neg hki]; exact st b
  · by_cases hki : k = i
    · subst hki
      rw [Array.getElem?_setIfInBounds, if_pos rfl, if_pos (by omega), if_pos rfl]; rfl
    · rw [Array.getElem?_setIfInBounds, if_neg (Ne.symm hki), if_neg hki]; exact h8 k hk
end
theorem elSli : Elem Tryd.prog 139 26 (.slice none 0 0) 1 24 := ⟨by kernel_rfl, by kernel_rfl, rfl, by omega, by omega⟩
theorem elBool : Elem Tryd.prog 140 4 (.bool false) 1 1 := ⟨by kernel_rfl, by kernel_rfl, rfl, by omega, by omega⟩
end Go.Proofs.YtahgbecfaihfpaaDoor
