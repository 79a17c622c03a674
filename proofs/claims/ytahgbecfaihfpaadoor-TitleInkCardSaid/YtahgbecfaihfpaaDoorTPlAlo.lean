/-
  A word alone in a text (plain).
-/
import Derived.Test.YtahgbecfaihfpaaDoorTPlInk
import Derived.Test.YtahgbecfaihfpaaDoorTPlFur
import Derived.Test.YtahgbecfaihfpaaDoorTPlLeast
namespace Go.Proofs.YtahgbecfaihfpaaDoor
open Go.RowKit D
set_option linter.unusedVariables false
section
variable {F : Font} {R : Rul} {P : List ByteArray}
theorem one_parts {p : ByteArray} (h : oddS p = false) : partsS p = [p] := by
  unfold partsS
  rw [cutW_one (okS_no32 h)]
  simp [baL_data]
theorem one_ok (h : TextOk F R P) {k : Nat} (hk : k < P.length) : TextOk F R [strD P k] := by
  have e : ∀ i, i < [strD P k].length → strD [strD P k] i = strD P k := fun i hi => by
    have : i = 0 := by simpa using hi
    subst this; rfl
  refine ⟨by simp, by simp, fun i hi => ?_, fun i hi => ?_, fun i hi => ?_, fun i hi => ?_⟩
  · rw [e i hi]; exact h.size k hk
  · rw [e i hi]; exact h.odd k hk
  · rw [e i hi]; exact h.set k hk
  · rw [e i hi]; exact h.wide k hk
theorem one_open {t : ByteArray} (h : openE F R t = 0) {k : Nat} (hk : k < (partsS t).length) : openE F R (strD (partsS t) k) = 0 := by
  obtain ⟨-, -, ht⟩ := open_ok h
  have h1 : checkRul F R = 0 := by unfold openE at h; split at h <;> omega
  have h2 := ht.size k hk
  unfold openE
  rw [if_neg (not_not_intro h1)]
  refine wordsE_ok (by omega) ?_
  rw [one_parts (ht.odd k hk)]
  exact one_ok ht hk
theorem one_npg (hr : RulOk F R) {p : ByteArray} (h : TextOk F R [p]) : npg F R [p] [p].length = 1 := by
  show pageN F R [p] 0 + 1 = 1
  unfold pageN
  rw [lineOf_zero h]; simp
theorem one_pl (hr : RulOk F R) {p : ByteArray} (h : TextOk F R [p]) : plS F R [p] 0 = ⟨0, 0, (R.measure - wW F p) / 2⟩ := by
  have h1 := lineOf_zero h
  have h2 := brk_lt h (k := 0) (by have := (lines_ok h).2.2.2; omega)
  have h3 : brk F R [p] (0 + 1) = 1 := by have h4 : [p].length = 1 := rfl; simp only [brk] at h2 ⊢; omega
  unfold plS
  rw [h1]
  unfold plN
  have h4 : leftN F R [p] 0 (0 - brk F R [p] 0) = (R.measure - wW F p) / 2 := by
    show leftN F R [p] 0 0 = _
    unfold leftN
    rw [h3]
    have h5 : wideL F [p] (brk F R [p] 0) 1 = wW F p := by
      show sumW F [p] 0 1 = _
      rw [sumW, sumW]
      show -F.space + (F.space + wW F p) = wW F p
      omega
    rw [h5]
  rw [h4]
  simp
/-- Pixel by pixel. -/
theorem alone_same (hk : FontOk F) (hr : RulOk F R) (h : TextOk F R P) {k y0 c0 pg j n : Nat} (hkl : k < P.length) (hpg : (plS F R P k).page = (pg : Int)) (hy : (y0 : Int) < F.high) (h1 : (c0 : Int) < wW F (strD P k))
    (hj : (j : Int) = ((plS F R P k).line * (F.high + R.lead) + y0) * R.measure + ((plS F R P k).left + c0)) (hn : (n : Int) = (y0 : Int) * R.measure + ((R.measure - wW F (strD P k)) / 2 + c0)) :
    (j ∈ ptsK F R P pg P.length ↔ n ∈ ptsK F R [strD P k] 0 1) := by
  have ho := one_ok h hkl
  have hp := one_pl hr ho
  have hw : strD [strD P k] 0 = strD P k := rfl
  have hww := h.wide k hkl
  have hlo := lineOf_ok h hkl
  have hfit : 0 ≤ (plS F R P k).left ∧ (plS F R P k).left + c0 < R.measure := by
    have hb := brk_lt h hlo.1
    have e1 : (plS F R P k).left = leftN F R P (lineOf F R P k) (k - brk F R P (lineOf F R P k)) := rfl
    have h2 := left_rng hk hr h hlo.1 (d := k - brk F R P (lineOf F R P k)) (by omega)
    have h3 : leftN F R P (lineOf F R P k) (k - brk F R P (lineOf F R P k)) + wW F (strD P k) ≤ R.measure := by
      have a1 := leftN_eq (F := F) (R := R) (P := P) (lineOf F R P k) (k - brk F R P (lineOf F R P k))
      have a2 := brk_fits h hlo.1
      have a4 := sumW_mono hk h (brk F R P (lineOf F R P k)) (brk F R P (lineOf F R P k + 1) - brk F R P (lineOf F R P k) - (k - brk F R P (lineOf F R P k) + 1)) (k - brk F R P (lineOf F R P k) + 1) (by omega)
      rw [show k - brk F R P (lineOf F R P k) + 1 + (brk F R P (lineOf F R P k + 1) - brk F R P (lineOf F R P k) - (k - brk F R P (lineOf F R P k) + 1)) = brk F R P (lineOf F R P k + 1) - brk F R P (lineOf F R P k) by omega, sumW, show brk F R P (lineOf F R P k) + (k - brk F R P (lineOf F R P k)) = k by omega] at a4
      have a5 : leftN F R P (lineOf F R P k) 0 * 2 ≤ R.measure - wideL F P (brk F R P (lineOf F R P k)) (brk F R P (lineOf F R P k + 1)) := by simp only [leftN]; omega
      have a6 := (left_rng hk hr h hlo.1 (d := 0) (by omega)).1
      unfold wideL at a2 a5
      omega
    rw [e1]
    exact ⟨h2.2.2.1, by omega⟩
  have d1 := dark_box hk hr h hkl hpg hy h1 hfit.2 hfit.1 hj
  have d2 := dark_box hk hr ho (k := 0) (y0 := y0) (c0 := c0) (pg := 0) (j := n) (by simp) (by rw [hp]; rfl) hy (by rw [hw]; exact h1) (by rw [hp]; show (R.measure - wW F (strD P k)) / 2 + (c0 : Int) < R.measure; omega) (by rw [hp]; show 0 ≤ (R.measure - wW F (strD P k)) / 2; omega) (by rw [hp, hn]; show _ = (0 * (F.high + R.lead) + (y0 : Int)) * R.measure + ((R.measure - wW F (strD P k)) / 2 + (c0 : Int)); rw [Int.zero_mul, Int.zero_add])
  rw [hw] at d2
  rw [d1]
  exact d2.symm
end
end Go.Proofs.YtahgbecfaihfpaaDoor
