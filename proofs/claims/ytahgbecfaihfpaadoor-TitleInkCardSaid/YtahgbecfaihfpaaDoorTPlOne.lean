/-
  A text that fits in one line, plain.
-/
import Derived.Test.YtahgbecfaihfpaaDoorTPlLeast
import Derived.Test.YtahgbecfaihfpaaDoorTWidths
namespace Go.Proofs.YtahgbecfaihfpaaDoor
open Go.RowKit D
set_option linter.unusedVariables false
section
variable {F : Font} {R : Rul} {P : List ByteArray}
theorem inn_pos (hk : FontOk F) (hr : RulOk F R) (h : TextOk F R P) {i c : Nat} (hc : 0 < c) (hi : i + c ≤ P.length) : 0 ≤ (innS F R P (restS F R P) i c).cost ∧ 1 ≤ (innS F R P (restS F R P) i c).lines := by
  obtain ⟨e, h1, h2, h3⟩ := innS_or F R P (restS F R P) i c hc
  rw [h3]
  have h4 := costL_rng hk hr h (a := i) (z := e) h1 (by omega)
  have h5 := rest_rng hk hr h (i := e) (by omega)
  unfold candR
  dsimp only
  omega
/-- The whole text is one line. -/
theorem one_line (hk : FontOk F) (hr : RulOk F R) (h : TextOk F R P) (hf : wideL F P 0 P.length ≤ R.measure) : breaksL F R P = [⟨0, P.length, wideL F P 0 P.length, 0⟩] := by
  have hn := h.n1
  have h1 := fits_kmax hk h (a := 0) (z := P.length) (by omega) (Nat.le_refl _) hf
  have h2 := kmax_le F R P 0
  have hkm : kmax F R P 0 = P.length := by omega
  have h3 := restS_eq F R P (i := 0) (by omega)
  rw [hkm] at h3
  obtain ⟨m, hm⟩ : ∃ m, P.length = m + 1 := ⟨P.length - 1, by omega⟩
  have h4 : innS F R P (restS F R P) 0 P.length = candR F R P (restS F R P) 0 P.length := by
    rw [hm, innS]
    rw [show 0 + m + 1 = m + 1 by omega]
    rw [if_pos]
    rcases Nat.eq_zero_or_pos m with h5 | h5
    · exact .inl h5
    · right
      have h6 := inn_pos hk hr h (i := 0) (c := m) h5 (by omega)
      rw [less_le]
      unfold candR leR
      dsimp only
      rw [← hm, restS_end]
      unfold costL
      rw [if_pos rfl]
      dsimp only
      omega
  rw [h4] at h3
  have h5 : endN F R P 0 = P.length := by unfold endN; rw [h3]; rfl
  have h6 : brk F R P 1 = P.length := by
    have : brk F R P 1 = endN F R P (brk F R P 0) := brk_succ (by simp only [brk]; omega)
    rw [this]; exact h5
  have hN : nLines F R P = 1 := by
    have h7 := (lines_ok h).2.2.1
    have h8 := (lines_ok h).2.2.2
    rcases Nat.lt_or_ge 1 (nLines F R P) with h9 | h9
    · have := h7 1 h9; omega
    · omega
  have h7 : breaksL F R P = [linS F R P 0] := by
    have h8 : breaksL F R P = (List.range (nLines F R P)).map (linS F R P) := rfl
    rw [h8, hN]; rfl
  rw [h7]
  unfold linS lineS
  rw [h6]
  simp only [brk]
  unfold costL
  rw [if_pos rfl]
  rfl
theorem more_lines (h : TextOk F R P) (hf : R.measure < wideL F P 0 P.length) : 1 < nLines F R P := by
  have h8 := (lines_ok h).2.2.2
  rcases Nat.lt_or_ge 1 (nLines F R P) with h9 | h9
  · exact h9
  · have h1 : nLines F R P = 1 := by omega
    have h2 := (lines_ok h).2.1
    have h3 := brk_fits h (k := 0) (by omega)
    rw [h1] at h2
    rw [Nat.zero_add, h2] at h3
    simp only [brk] at h3
    omega
end
end Go.Proofs.YtahgbecfaihfpaaDoor
