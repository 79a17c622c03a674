/-
  The reference's best breaks are the program's, plain.
-/
import Derived.Test.YtahgbecfaihfpaaDoorTPlLeast
namespace Go.Proofs.YtahgbecfaihfpaaDoor.D
/-- The best of the first d ends, from the last word on: a line that is too wide is passed by; a later end stays unless the new one is better. -/
def dwnS (F : Font) (R : Rul) (P : List ByteArray) (T : Nat → Rst) (i : Nat) : Nat → Rst
  | 0 => ⟨0, 0, 0⟩
  | d + 1 => if R.measure < wideL F P i (P.length - d) then dwnS F R P T i d
    else if (dwnS F R P T i d).end_ = 0 ∨ lessS (candR F R P T i (P.length - d)) (dwnS F R P T i d) = true then candR F R P T i (P.length - d) else dwnS F R P T i d
end Go.Proofs.YtahgbecfaihfpaaDoor.D
namespace Go.Proofs.YtahgbecfaihfpaaDoor
open Go.RowKit D
set_option linter.unusedVariables false
/-- The best end from lo to hi; of several as good the longest line. -/
def BestE (F : Font) (R : Rul) (P : List ByteArray) (T : Nat → Rst) (i lo hi : Nat) (r : Rst) : Prop :=
  ∃ e, lo ≤ e ∧ e ≤ hi ∧ r = candR F R P T i e ∧ (∀ e', lo ≤ e' → e' ≤ hi → leR r.cost r.lines (candR F R P T i e').cost (candR F R P T i e').lines) ∧ ∀ e', e < e' → e' ≤ hi → ¬ leR (candR F R P T i e').cost (candR F R P T i e').lines r.cost r.lines
section
variable {F : Font} {R : Rul} {P : List ByteArray} {T : Nat → Rst} {i : Nat}
theorem best_uniq {lo hi : Nat} {r q : Rst} (h : BestE F R P T i lo hi r) (g : BestE F R P T i lo hi q) : r = q := by
  obtain ⟨e1, a1, b1, rfl, m1, s1⟩ := h
  obtain ⟨e2, a2, b2, rfl, m2, s2⟩ := g
  rcases Nat.lt_trichotomy e1 e2 with h | h | h
  · exact absurd (m2 e1 a1 b1) (s1 e2 h b2)
  · rw [h]
  · exact absurd (m1 e2 a2 b2) (s2 e1 h b1)
theorem less_true (r q : Rst) : lessS r q = true ↔ ¬ leR q.cost q.lines r.cost r.lines := by
  rw [← less_le]; cases lessS r q <;> simp
theorem inn_best : ∀ c, 0 < c → BestE F R P T i (i + 1) (i + c) (innS F R P T i c)
  | 0, h => absurd h (Nat.lt_irrefl _)
  | c + 1, _ => by
    rw [innS]
    by_cases h0 : c = 0
    · rw [if_pos (.inl h0)]
      subst h0
      exact ⟨i + 1, Nat.le_refl _, Nat.le_refl _, rfl, fun e' h1 h2 => by obtain rfl : e' = i + 1 := by omega
                                                                          exact leR_refl _ _, fun e' h1 h2 => by omega⟩
    · obtain ⟨e, a1, b1, he, m1, s1⟩ := inn_best c (by omega)
      by_cases hl : lessS (innS F R P T i c) (candR F R P T i (i + c + 1)) = false
      · rw [if_pos (.inr hl)]
        refine ⟨i + c + 1, by omega, by omega, rfl, fun e' h1 h2 => ?_, fun e' h1 h2 => by omega⟩
        rcases Nat.lt_or_ge e' (i + c + 1) with h3 | h3
        · exact leR_trans ((less_le _ _).1 hl) (m1 e' h1 (by omega))
        · obtain rfl : e' = i + c + 1 := by omega
          exact leR_refl _ _
      · rw [if_neg (fun h => h.elim h0 hl)]
        have hl' : lessS (innS F R P T i c) (candR F R P T i (i + c + 1)) = true := by cases hq : lessS (innS F R P T i c) (candR F R P T i (i + c + 1)) <;> simp_all
        have hn := (less_true _ _).1 hl'
        refine ⟨e, a1, by omega, he, fun e' h1 h2 => ?_, fun e' h1 h2 => ?_⟩
        · rcases Nat.lt_or_ge e' (i + c + 1) with h3 | h3
          · exact m1 e' h1 (by omega)
          · obtain rfl : e' = i + c + 1 := by omega
            exact (leR_total _ _ _ _).resolve_right hn
        · rcases Nat.lt_or_ge e' (i + c + 1) with h3 | h3
          · exact s1 e' h1 (by omega)
          · obtain rfl : e' = i + c + 1 := by omega
            exact hn
/-- Ends that are too far are passed by. -/
theorem dwn_far (hk : FontOk F) (h : TextOk F R P) (hi : i < P.length) : ∀ d, d ≤ P.length - (i + kmax F R P i) → dwnS F R P T i d = ⟨0, 0, 0⟩
  | 0, _ => rfl
  | d + 1, hd => by
    rw [dwnS, if_pos, dwn_far hk h hi d (by omega)]
    rcases Int.lt_or_le R.measure (wideL F P i (P.length - d)) with h1 | h1
    · exact h1
    · have := fits_kmax hk h (a := i) (z := P.length - d) (by have := kmax_le F R P i; omega) (by omega) h1
      omega
theorem near_fits (hk : FontOk F) (h : TextOk F R P) {z : Nat} (hiz : i < z) (hz : z ≤ i + kmax F R P i) : wideL F P i z ≤ R.measure := by
  have h3 := (firstN_spec (p := fun c => decide (R.measure < wideL F P i (i + c + 1))) (n := P.length - i)).1 (z - i - 1) (by show _ < kmax F R P i; omega)
  have h5 := of_decide_eq_false h3
  rw [show i + (z - i - 1) + 1 = z by omega] at h5
  omega
theorem dwn_best (hk : FontOk F) (h : TextOk F R P) (hi : i < P.length) : ∀ j, 0 < j → j ≤ kmax F R P i → BestE F R P T i (i + kmax F R P i + 1 - j) (i + kmax F R P i) (dwnS F R P T i (P.length - (i + kmax F R P i) + j))
  | 0, h0, _ => absurd h0 (Nat.lt_irrefl _)
  | j + 1, _, hj => by
    have hkl := kmax_le F R P i
    have hpos : P.length - (P.length - (i + kmax F R P i) + j) = i + kmax F R P i - j := by omega
    have hfit : ¬ R.measure < wideL F P i (i + kmax F R P i - j) := by have := near_fits hk h (i := i) (z := i + kmax F R P i - j) (by omega) (by omega); omega
    rw [← Nat.add_assoc, dwnS, hpos, if_neg hfit]
    by_cases h0 : j = 0
    · subst h0
      rw [if_pos (.inl (by rw [Nat.add_zero, dwn_far hk h hi _ (Nat.le_refl _)]))]
      refine ⟨i + kmax F R P i, by omega, Nat.le_refl _, rfl, fun e' h1 h2 => ?_, fun e' h1 h2 => by omega⟩
      obtain rfl : e' = i + kmax F R P i := by omega
      exact leR_refl _ _
    · obtain ⟨e, a1, b1, he, m1, s1⟩ := dwn_best hk h hi j (by omega) (by omega)
      have hend : (dwnS F R P T i (P.length - (i + kmax F R P i) + j)).end_ ≠ 0 := by rw [he]; show (e : Int) ≠ 0; omega
      by_cases hl : lessS (candR F R P T i (i + kmax F R P i - j)) (dwnS F R P T i (P.length - (i + kmax F R P i) + j)) = true
      · rw [if_pos (.inr hl)]
        have hn := (less_true _ _).1 hl
        refine ⟨i + kmax F R P i - j, by omega, by omega, rfl, fun e' h1 h2 => ?_, fun e' h1 h2 => ?_⟩
        · rcases Nat.lt_or_ge (i + kmax F R P i - j) e' with h3 | h3
          · exact leR_trans ((leR_total _ _ _ _).resolve_right hn) (m1 e' (by omega) h2)
          · obtain rfl : e' = i + kmax F R P i - j := by omega
            exact leR_refl _ _
        · intro hle
          exact hn (leR_trans (m1 e' (by omega) h2) hle)
      · rw [if_neg (fun h' => h'.elim hend hl)]
        have hl' : lessS (candR F R P T i (i + kmax F R P i - j)) (dwnS F R P T i (P.length - (i + kmax F R P i) + j)) = false := by cases hq : lessS (candR F R P T i (i + kmax F R P i - j)) (dwnS F R P T i (P.length - (i + kmax F R P i) + j)) <;> simp_all
        refine ⟨e, by omega, b1, he, fun e' h1 h2 => ?_, s1⟩
        rcases Nat.lt_or_ge (i + kmax F R P i - j) e' with h3 | h3
        · exact m1 e' (by omega) h2
        · obtain rfl : e' = i + kmax F R P i - j := by omega
          exact (less_le _ _).1 hl'
/-- Both ways lead to the same end. -/
theorem dwn_inn (hk : FontOk F) (h : TextOk F R P) (hi : i < P.length) : dwnS F R P T i (P.length - i) = innS F R P T i (kmax F R P i) := by
  have hp := kmax_pos h hi
  have hkl := kmax_le F R P i
  have h1 := dwn_best (T := T) hk h hi (kmax F R P i) hp (Nat.le_refl _)
  rw [show P.length - (i + kmax F R P i) + kmax F R P i = P.length - i by omega, show i + kmax F R P i + 1 - kmax F R P i = i + 1 by omega] at h1
  exact best_uniq h1 (inn_best _ hp)
end
end Go.Proofs.YtahgbecfaihfpaaDoor
