/-
  Where the words of a line are (plain).
-/
import Derived.Test.YtahgbecfaihfpaaDoorTPlInk
import Derived.Test.YtahgbecfaihfpaaDoorTPlLeast
namespace Go.Proofs.YtahgbecfaihfpaaDoor
open Go.RowKit D
set_option linter.unusedVariables false
section
variable {F : Font} {R : Rul} {P : List ByteArray}
theorem left_fit (hk : FontOk F) (hr : RulOk F R) (h : TextOk F R P) {k d : Nat} (hkl : k < nLines F R P) (hd : brk F R P k + d < brk F R P (k + 1)) : leftN F R P k d + wW F (strD P (brk F R P k + d)) ≤ R.measure := by
  have hb := brk_lt h hkl
  have h1 := leftN_eq (F := F) (R := R) (P := P) k d
  have h2 := brk_fits h hkl
  have h4 := sumW_mono hk h (brk F R P k) (brk F R P (k + 1) - brk F R P k - (d + 1)) (d + 1) (by omega)
  rw [show d + 1 + (brk F R P (k + 1) - brk F R P k - (d + 1)) = brk F R P (k + 1) - brk F R P k by omega, sumW] at h4
  have h5 : leftN F R P k 0 * 2 ≤ R.measure - wideL F P (brk F R P k) (brk F R P (k + 1)) := by simp only [leftN]; omega
  have h6 := (left_rng hk hr h hkl (d := 0) (by omega)).1
  unfold wideL at h5 h2
  omega
theorem npg_ceil (hr : RulOk F R) (h : TextOk F R P) : ((npg F R P P.length : Nat) : Int) = ((nLines F R P : Int) + R.lines - 1) / R.lines := by
  have hl := hr.lines
  have hlo := lines_ok h
  obtain ⟨n, hn⟩ : ∃ n, P.length = n + 1 := ⟨P.length - 1, by have := h.n1; omega⟩
  have hN : lineOf F R P n = nLines F R P - 1 := by
    have h1 := brk_lt h (k := nLines F R P - 1) (by omega)
    have h2 := hlo.2.1
    rw [show nLines F R P - 1 + 1 = nLines F R P by omega] at h1
    have h3 := lineOf_at h (k := nLines F R P - 1) (d := n - brk F R P (nLines F R P - 1)) (by omega) (by rw [show nLines F R P - 1 + 1 = nLines F R P by omega]; omega)
    rwa [show brk F R P (nLines F R P - 1) + (n - brk F R P (nLines F R P - 1)) = n by omega] at h3
  rw [hn]
  show ((pageN F R P n + 1 : Nat) : Int) = _
  unfold pageN
  rw [hN]
  have e : ((nLines F R P : Int) + R.lines - 1) = ((nLines F R P - 1 : Nat) : Int) + 1 * R.lines := by omega
  rw [e, Int.add_mul_ediv_right _ _ (by omega), Int.natCast_add, Int.natCast_ediv, show ((R.lines.toNat : Nat) : Int) = R.lines by omega]
  rfl
theorem pl_line (hr : RulOk F R) (k d : Nat) : (plN F R P k d).page * R.lines + (plN F R P k d).line = (k : Int) ∧ 0 ≤ (plN F R P k d).line ∧ (plN F R P k d).line < R.lines := by
  have hl := hr.lines
  unfold plN
  dsimp only
  refine ⟨?_, Int.emod_nonneg _ (by omega), Int.emod_lt_of_pos _ (by omega)⟩
  rw [Int.mul_comm]; exact Int.mul_ediv_add_emod _ _
end
end Go.Proofs.YtahgbecfaihfpaaDoor
