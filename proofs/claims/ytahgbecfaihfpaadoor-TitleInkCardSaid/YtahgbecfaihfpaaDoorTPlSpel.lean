/-
  What glyphs spell; no setting has fewer glyphs than the one that is found (plain).
-/
import Derived.Test.YtahgbecfaihfpaaDoorTRefD
namespace Go.Proofs.YtahgbecfaihfpaaDoor.D
def spellL (F : Font) (l : List Nat) : List UInt8 := l.flatMap fun g => (glD F.glyphs g).text.data.toList
end Go.Proofs.YtahgbecfaihfpaaDoor.D
namespace Go.Proofs.YtahgbecfaihfpaaDoor
open Go.RowKit D
set_option linter.unusedVariables false
theorem gIx_hit {l : List Gl} {t : ByteArray} (h : gIx l t l.length < l.length) : (glD l (gIx l t l.length)).text = t :=
  sameS_iff.1 ((firstN_spec (p := fun j => sameS (glD l j).text t) (n := l.length)).2 h)
theorem gIx_lt {l : List Gl} {t : ByteArray} {g : Nat} (hg : g < l.length) (ht : (glD l g).text = t) : gIx l t l.length < l.length := by
  rcases Nat.lt_or_ge (gIx l t l.length) l.length with h | h
  · exact h
  · have h1 := (firstN_spec (p := fun j => sameS (glD l j).text t) (n := l.length)).1 g (by show g < gIx l t l.length; omega)
    have h2 : sameS (glD l g).text t = true := sameS_iff.2 ht
    rw [h2] at h1; cases h1
theorem spell_cons (F : Font) (g : Nat) (l : List Nat) : spellL F (g :: l) = (glD F.glyphs g).text.data.toList ++ spellL F l := by simp [spellL]
theorem cand_spell {F : Font} {w : List UInt8} {r : Nat → Option (List Nat)} {long : Nat} {best : Option (List Nat)} (hr : long ≤ w.length → ∀ l, r long = some l → spellL F l = w.drop long) (hb : ∀ l, best = some l → spellL F l = w) : ∀ l, candS F w r long best = some l → spellL F l = w := fun l h => by
  unfold candS at h
  split at h
  · rename_i h1
    split at h
    · rename_i h2
      have h3 := gIx_hit h2
      have hn : ∀ l', r long = some l' → spellL F (gIx F.glyphs (baL (w.take long)) F.glyphs.length :: l') = w := fun l' hl' => by
        rw [spell_cons, h3, data_baL, hr h1 l' hl', List.take_append_drop]
      unfold better at h
      split at h
      · exact hb l h
      · rename_i l' hl'
        split at h
        · simp only [Option.some.injEq] at h; rw [← h]; exact hn l' hl'
        · rename_i b
          split at h
          · simp only [Option.some.injEq] at h; rw [← h]; exact hn l' hl'
          · simp only [Option.some.injEq] at h; subst h; exact hb b rfl
    · exact hb l h
  · exact hb l h
theorem set_spell (F : Font) : ∀ (n : Nat) (w : List UInt8), w.length ≤ n → ∀ l, setS F w = some l → spellL F l = w
  | _, [], _, l, h => by
    rw [setS_nil] at h
    simp only [Option.some.injEq] at h; rw [← h]; rfl
  | 0, _ :: _, hn, _, _ => absurd hn (by simp)
  | n + 1, c :: w, hn, l, h => by
    rw [setS_eq F (by simp)] at h
    have hr : ∀ k, 1 ≤ k → k ≤ (c :: w).length → ∀ l, setS F ((c :: w).drop k) = some l → spellL F l = (c :: w).drop k := fun k h1 h2 l hl =>
      set_spell F n ((c :: w).drop k) (by rw [List.length_drop]; simp at hn ⊢; omega) l hl
    exact cand_spell (hr 1 (by omega)) (cand_spell (hr 2 (by omega)) (cand_spell (hr 3 (by omega)) (fun l h => by cases h))) l h
theorem better_le {g : Nat} {r : Option (List Nat)} {b : List Nat} : ∃ c, better g r (some b) = some c ∧ c.length ≤ b.length := by
  unfold better
  split
  · exact ⟨b, rfl, Nat.le_refl _⟩
  · dsimp only
    split
    · rename_i h; exact ⟨_, rfl, by rw [List.length_cons]; omega⟩
    · exact ⟨b, rfl, Nat.le_refl _⟩
theorem better_new {g : Nat} {l : List Nat} {best : Option (List Nat)} : ∃ c, better g (some l) best = some c ∧ c.length ≤ l.length + 1 := by
  unfold better
  cases best with
  | none => exact ⟨_, rfl, by simp⟩
  | some b =>
    dsimp only
    split
    · exact ⟨_, rfl, by simp⟩
    · rename_i h; exact ⟨b, rfl, by omega⟩
theorem cand_le {F : Font} {w : List UInt8} {r : Nat → Option (List Nat)} {long n : Nat} {best : Option (List Nat)} (h : ∃ b, best = some b ∧ b.length ≤ n) : ∃ c, candS F w r long best = some c ∧ c.length ≤ n := by
  obtain ⟨b, rfl, hb⟩ := h
  unfold candS
  split
  · split
    · obtain ⟨c, h1, h2⟩ := better_le (g := gIx F.glyphs (baL (w.take long)) F.glyphs.length) (r := r long) (b := b)
      exact ⟨c, h1, by omega⟩
    · exact ⟨b, rfl, hb⟩
  · exact ⟨b, rfl, hb⟩
theorem cand_new {F : Font} {w : List UInt8} {r : Nat → Option (List Nat)} {long n : Nat} {best : Option (List Nat)} (h1 : long ≤ w.length) (h2 : gIx F.glyphs (baL (w.take long)) F.glyphs.length < F.glyphs.length) (h3 : ∃ l, r long = some l ∧ l.length ≤ n) : ∃ c, candS F w r long best = some c ∧ c.length ≤ n + 1 := by
  obtain ⟨l, hl, hn⟩ := h3
  unfold candS
  rw [if_pos h1, if_pos h2, hl]
  obtain ⟨c, h4, h5⟩ := better_new (g := gIx F.glyphs (baL (w.take long)) F.glyphs.length) (l := l) (best := best)
  exact ⟨c, h4, by omega⟩
theorem text_len {F : Font} (hk : FontOk F) {g : Nat} (hg : g < F.glyphs.length) : 1 ≤ (glD F.glyphs g).text.data.toList.length ∧ (glD F.glyphs g).text.data.toList.length ≤ 3 := by
  have h := (glE_wide (hk.gl g hg)).1.1
  have hs : (glD F.glyphs g).text.data.toList.length = (glD F.glyphs g).text.size := Array.length_toList
  unfold lettersS at h
  rw [Bool.and_eq_true] at h
  have h2 := of_decide_eq_true h.2
  omega
/-- What is spelled at all is set with no more glyphs. -/
theorem set_least {F : Font} (hk : FontOk F) : ∀ o : List Nat, (∀ g ∈ o, g < F.glyphs.length) → ∃ l, setS F (spellL F o) = some l ∧ l.length ≤ o.length
  | [], _ => ⟨[], rfl, Nat.le_refl _⟩
  | g :: o, h => by
    have hg := h g (List.mem_cons_self ..)
    have ih := set_least hk o (fun x hx => h x (List.mem_cons_of_mem _ hx))
    obtain ⟨t, ht⟩ : ∃ t, t = (glD F.glyphs g).text.data.toList := ⟨_, rfl⟩
    have hl := text_len hk hg
    rw [spell_cons, ← ht]
    rw [← ht] at hl
    have hne : t ++ spellL F o ≠ [] := fun h0 => by
      have h1 := (List.append_eq_nil_iff.1 h0).1
      rw [h1] at hl; simp at hl
    have htk : (t ++ spellL F o).take t.length = t := List.take_left ..
    have hdr : (t ++ spellL F o).drop t.length = spellL F o := List.drop_left ..
    have hb : baL t = (glD F.glyphs g).text := by rw [ht, baL_data]
    have hi : gIx F.glyphs (baL ((t ++ spellL F o).take t.length)) F.glyphs.length < F.glyphs.length := by rw [htk]; exact gIx_lt hg hb.symm
    have hle : t.length ≤ (t ++ spellL F o).length := by rw [List.length_append]; omega
    obtain ⟨w, hw⟩ : ∃ w, w = t ++ spellL F o := ⟨_, rfl⟩
    rw [← hw] at hi hle hne htk hdr ⊢
    rw [setS_eq F hne, List.length_cons]
    have hr : ∃ l, (fun k => setS F (w.drop k)) t.length = some l ∧ l.length ≤ o.length := by dsimp only; rw [hdr]; exact ih
    obtain ⟨k, hkk⟩ : ∃ k, k = t.length := ⟨_, rfl⟩
    rw [← hkk] at hi hle hr hl
    rcases (by omega : k = 1 ∨ k = 2 ∨ k = 3) with rfl | rfl | rfl
    · exact cand_new hle hi hr
    · exact cand_le (cand_new hle hi hr)
    · exact cand_le (cand_le (cand_new hle hi hr))
theorem wid_pos {F : Font} (hk : FontOk F) {l : List Nat} (hm : ∀ x ∈ l, x < F.glyphs.length) : ∀ n, 0 < n → n ≤ l.length → 1 ≤ widS F l n
  | 0, h, _ => absurd h (Nat.lt_irrefl _)
  | n + 1, _, hn => by
    have h1 : widS F l (n + 1) = max (widS F l n) (posS F l n + wd F (l.getD n 0)) := rfl
    have h2 := posS_rng hk hm n (by omega)
    have h3 := (wd_rng hk (getD_mem hm (show n < l.length by omega))).1
    rw [h1]; omega
/-- A font with a further glyph. -/
def D.moreF (F : Font) (g : Gl) : Font := ⟨F.high, F.space, F.glyphs ++ [g], F.kerns⟩
theorem glD_more {l : List Gl} {g : Gl} {i : Nat} (hi : i < l.length) : glD (l ++ [g]) i = glD l i := by
  unfold glD; rw [List.getD_eq_getElem?_getD, List.getD_eq_getElem?_getD, List.getElem?_append_left hi]
theorem glD_last {l : List Gl} {g : Gl} : glD (l ++ [g]) l.length = g := by
  unfold glD; rw [List.getD_eq_getElem?_getD]; simp
theorem spell_more {F : Font} {g : Gl} : ∀ l : List Nat, (∀ x ∈ l, x < F.glyphs.length) → spellL (moreF F g) l = spellL F l
  | [], _ => rfl
  | x :: l, h => by
    rw [spell_cons, spell_cons, spell_more l (fun y hy => h y (List.mem_cons_of_mem _ hy))]
    unfold moreF; dsimp only
    rw [glD_more (h x (List.mem_cons_self ..))]
/-- With a further glyph there are no more glyphs. -/
theorem set_more {F : Font} {g : Gl} (hk : FontOk F) (hg : FontOk (moreF F g)) {w : List UInt8} {l l' : List Nat} (h : setS F w = some l) (h' : setS (moreF F g) w = some l') : l'.length ≤ l.length := by
  have h1 := set_spell F _ w (Nat.le_refl _) l h
  have h2 := setS_mem F _ w (Nat.le_refl _) l h
  obtain ⟨q, h3, h4⟩ := set_least hg l (fun x hx => by unfold moreF; dsimp only; rw [List.length_append]; have := h2 x hx; omega)
  rw [spell_more l h2, h1, h'] at h3
  simp only [Option.some.injEq] at h3
  rw [h3]; exact h4
end Go.Proofs.YtahgbecfaihfpaaDoor
