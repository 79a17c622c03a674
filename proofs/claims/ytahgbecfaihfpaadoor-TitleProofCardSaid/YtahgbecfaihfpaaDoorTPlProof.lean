/-
  The numbers of Rest are proofs, plain.
-/
import Derived.Test.YtahgbecfaihfpaaDoorTPlLeast
namespace Go.Proofs.YtahgbecfaihfpaaDoor
open Go.RowKit D
set_option linter.unusedVariables false
section
variable {F : Font} {R : Rul} {P : List ByteArray}
theorem end_fits (h : TextOk F R P) {i : Nat} (hi : i < P.length) : wideL F P i (endN F R P i) ≤ R.measure := by
  have h2 := endN_ok h hi
  have h3 := (firstN_spec (p := fun c => decide (R.measure < wideL F P i (i + c + 1))) (n := P.length - i)).1 (endN F R P i - i - 1) (by have h4 := h2.2.2.1; unfold kmax at h4; omega)
  have h5 := of_decide_eq_false h3
  rw [show i + (endN F R P i - i - 1) + 1 = endN F R P i by omega] at h5
  omega
/-- Where the lines get too wide the best end has been met. -/
theorem end_before (hk : FontOk F) (h : TextOk F R P) {i k : Nat} (hi : i < P.length) (hik : i ≤ k) (hkn : k < P.length) (hw : R.measure < sumW F P i (k - i + 1)) : endN F R P i ≤ k := by
  have h1 := end_fits h hi
  have h2 := endN_ok h hi
  rcases Nat.lt_or_ge k (endN F R P i) with h3 | h3
  · have h4 := sumW_mono hk h i (endN F R P i - (k + 1)) (k - i + 1) (by omega)
    unfold wideL at h1
    rw [show k - i + 1 + (endN F R P i - (k + 1)) = endN F R P i - i by omega] at h4
    omega
  · exact h3
/-- This end is as good as the best one. -/
def metAt (F : Font) (R : Rul) (P : List ByteArray) (i e : Nat) : Prop := (restS F R P i).cost = costL F R P i e + (restS F R P e).cost
theorem met_end (h : TextOk F R P) {i : Nat} (hi : i < P.length) : metAt F R P i (endN F R P i) := by
  have h2 := (endN_ok h hi).2.2.2.2
  unfold metAt
  conv => lhs; rw [h2]
  rfl
theorem no_less (hk : FontOk F) (h : TextOk F R P) {i k : Nat} (hik : i ≤ k) (hkn : k < P.length) (hw : sumW F P i (k - i + 1) ≤ R.measure) : (restS F R P i).cost ≤ costL F R P i (k + 1) + (restS F R P (k + 1)).cost := by
  have h1 := rest_min hk h (a := i) (z := k + 1) (by omega) (by omega) (by unfold wideL; rw [show k + 1 - i = k - i + 1 by omega]; exact hw)
  unfold leR at h1
  omega
end
end Go.Proofs.YtahgbecfaihfpaaDoor
