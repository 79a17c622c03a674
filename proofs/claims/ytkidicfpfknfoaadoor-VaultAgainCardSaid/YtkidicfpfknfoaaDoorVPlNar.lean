/-
  Plain: an hour in a room keeps an order of spans; a can's own temperature stays within.
-/
import Derived.Test.YtkidicfpfknfoaaDoorVPlMv
namespace Go.Proofs.YtkidicfpfknfoaaDoor.D
set_option linter.unusedVariables false
set_option linter.unusedSimpArgs false
/-- So many per cent of the way from one temperature to another one: monotone in both. -/
theorem mix_mono {t t' a a' k : Int} (h0 : 0 ≤ k) (h1 : k ≤ 100) (ht : t ≤ t') (ha : a ≤ a') : t + (a - t) * k / 100 ≤ t' + (a' - t') * k / 100 := by
  have e1 : (a - t) * k = a * k - t * k := Int.sub_mul a t k
  have e2 : (a' - t') * k = a' * k - t' * k := Int.sub_mul a' t' k
  have p : a * k ≤ a' * k := Int.mul_le_mul_of_nonneg_right ha h0
  have q : (t' - t) * k ≤ (t' - t) * 100 := Int.mul_le_mul_of_nonneg_left h1 (by omega)
  have e3 : (t' - t) * k = t' * k - t * k := Int.sub_mul t' t k
  rw [e1, e2]
  generalize a * k = A at *; generalize a' * k = A' at *; generalize t * k = T at *; generalize t' * k = T' at *
  omega
theorem mix_mono' {t t' a a' k : Int} (h0 : 0 ≤ k) (h1 : k ≤ 100) (ht : t ≤ t') (ha : a ≤ a') : t - (t - a) * k / 100 ≤ t' - (t' - a') * k / 100 := by
  have e1 : (t - a) * k = t * k - a * k := Int.sub_mul t a k
  have e2 : (t' - a') * k = t' * k - a' * k := Int.sub_mul t' a' k
  have p : a * k ≤ a' * k := Int.mul_le_mul_of_nonneg_right ha h0
  have q : (t' - t) * k ≤ (t' - t) * 100 := Int.mul_le_mul_of_nonneg_left h1 (by omega)
  have e3 : (t' - t) * k = t' * k - t * k := Int.sub_mul t' t k
  rw [e1, e2]
  generalize a * k = A at *; generalize a' * k = A' at *; generalize t * k = T at *; generalize t' * k = T' at *
  omega
/-- The rate that makes least of a difference. -/
theorem pick_le {n lo hi k : Int} (h1 : lo ≤ k) (h2 : k ≤ hi) : n * (if n < 0 then hi else lo) ≤ n * k := by
  split
  · exact Int.mul_le_mul_of_nonpos_left (by omega) h2
  · exact Int.mul_le_mul_of_nonneg_left h1 (by omega)
theorem pick_eq (a b lo hi : Int) : (if a < b then hi else lo) = (if a - b < 0 then hi else lo) := by
  by_cases h : a < b
  · rw [if_pos h, if_pos (by omega)]
  · rw [if_neg h, if_neg (by omega)]
theorem warm_lo {S : Site} {r : Rm} {t : Span} {o a k : Int} (hR : RateIn S) (ht : t.lo ≤ o) (ha : r.tlo ≤ a) (h1 : S.rlo ≤ k) (h2 : k ≤ S.rhi) : (warmV S r t).lo ≤ o + (a - o) * k / 100 := by
  obtain ⟨s1, s2, s3, s4⟩ := hR
  have m := mix_mono (k := k) (by omega) (by omega) ht ha
  have p := pick_le (n := r.tlo - t.lo) h1 h2
  rw [← pick_eq] at p
  have e : (warmV S r t).lo = t.lo + (r.tlo - t.lo) * (if r.tlo < t.lo then S.rhi else S.rlo) / 100 := rfl
  rw [e]
  generalize (r.tlo - t.lo) * (if r.tlo < t.lo then S.rhi else S.rlo) = X at *
  generalize (r.tlo - t.lo) * k = Y at *
  generalize (a - o) * k = Z at *
  omega
theorem warm_hi {S : Site} {r : Rm} {t : Span} {o a k : Int} (hR : RateIn S) (ht : o ≤ t.hi) (ha : a ≤ r.thi) (h1 : S.rlo ≤ k) (h2 : k ≤ S.rhi) : o - (o - a) * k / 100 ≤ (warmV S r t).hi := by
  obtain ⟨s1, s2, s3, s4⟩ := hR
  have m := mix_mono' (k := k) (by omega) (by omega) ht ha
  have p := pick_le (n := t.hi - r.thi) h1 h2
  rw [← pick_eq] at p
  have e : (warmV S r t).hi = t.hi - (t.hi - r.thi) * (if t.hi < r.thi then S.rhi else S.rlo) / 100 := rfl
  rw [e]
  generalize (t.hi - r.thi) * (if t.hi < r.thi then S.rhi else S.rlo) = X at *
  generalize (t.hi - r.thi) * k = Y at *
  generalize (o - a) * k = Z at *
  omega
/-- One span is within another one. -/
def Within (u t : Span) : Prop := t.lo ≤ u.lo ∧ u.hi ≤ t.hi
theorem warm_within {S S' : Site} {r r' : Rm} {t t' : Span} (hR : RateIn S) (hlo : S.rlo ≤ S'.rlo) (hm : S'.rlo ≤ S'.rhi) (hhi : S'.rhi ≤ S.rhi) (ht : Within t' t) (h1 : r.tlo ≤ r'.tlo) (h2 : r'.thi ≤ r.thi) : Within (warmV S' r' t') (warmV S r t) := by
  have a := warm_lo (S := S) (r := r) (t := t) (o := t'.lo) (a := r'.tlo) (k := if r'.tlo < t'.lo then S'.rhi else S'.rlo) hR ht.1 h1 (by split <;> omega) (by split <;> omega)
  have b := warm_hi (S := S) (r := r) (t := t) (o := t'.hi) (a := r'.thi) (k := if t'.hi < r'.thi then S'.rhi else S'.rlo) hR ht.2 h2 (by split <;> omega) (by split <;> omega)
  exact ⟨a, b⟩
theorem warmN_within {S S' : Site} {r r' : Rm} (hR : RateIn S) (hlo : S.rlo ≤ S'.rlo) (hm : S'.rlo ≤ S'.rhi) (hhi : S'.rhi ≤ S.rhi) (h1 : r.tlo ≤ r'.tlo) (h2 : r'.thi ≤ r.thi) : ∀ (n : Nat) {t t' : Span}, Within t' t → Within (warmN S' r' n t') (warmN S r n t)
  | 0, _, _, h => h
  | n + 1, _, _, h => warmN_within hR hlo hm hhi h1 h2 n (warm_within hR hlo hm hhi h h1 h2)
/-- So many 512ths narrower. -/
def lessS (s : Span) (b : Int) : Span := ⟨s.lo + (s.hi - s.lo) * b / 512, s.hi - (s.hi - s.lo) * b / 512⟩
theorem less_in {s : Span} {b : Int} (h : s.lo ≤ s.hi) (h0 : 0 ≤ b) (h1 : b ≤ 255) : s.lo ≤ (lessS s b).lo ∧ (lessS s b).lo ≤ (lessS s b).hi ∧ (lessS s b).hi ≤ s.hi := by
  unfold lessS
  simp only
  have p : 0 ≤ (s.hi - s.lo) * b := Int.mul_nonneg (by omega) h0
  have q : (s.hi - s.lo) * b ≤ (s.hi - s.lo) * 255 := Int.mul_le_mul_of_nonneg_left h1 (by omega)
  generalize (s.hi - s.lo) * b = X at *
  omega
/-- So many 255ths on. -/
def partV (lo hi : Int) (b : Int) : Int := lo + (hi - lo) * b / 255
theorem part_in {lo hi b : Int} (h : lo ≤ hi) (h0 : 0 ≤ b) (h1 : b ≤ 255) : lo ≤ partV lo hi b ∧ partV lo hi b ≤ hi := by
  unfold partV
  have p : 0 ≤ (hi - lo) * b := Int.mul_nonneg (by omega) h0
  have q : (hi - lo) * b ≤ (hi - lo) * 255 := Int.mul_le_mul_of_nonneg_left h1 (by omega)
  generalize (hi - lo) * b = X at *
  omega
/-- An hour later, rounded either way. -/
def towardV (own room rate : Int) (up : Bool) : Int :=
  if up ∧ (room - own) * rate / 100 * 100 ≠ (room - own) * rate then own + ((room - own) * rate / 100 + 1) else own + (room - own) * rate / 100
theorem toward_in {S : Site} {r : Rm} {t : Span} {o a k : Int} {up : Bool} (hR : RateIn S) (h1 : t.lo ≤ o) (h2 : o ≤ t.hi) (h3 : r.tlo ≤ a) (h4 : a ≤ r.thi) (h5 : S.rlo ≤ k) (h6 : k ≤ S.rhi) :
    (warmV S r t).lo ≤ towardV o a k up ∧ towardV o a k up ≤ (warmV S r t).hi := by
  have p := warm_lo (r := r) (t := t) hR h1 h3 h5 h6
  have q := warm_hi (r := r) (t := t) hR h2 h4 h5 h6
  have e : (o - a) * k = -((a - o) * k) := by rw [← Int.neg_mul]; congr 1; omega
  rw [e] at q
  unfold towardV
  generalize (a - o) * k = X at *
  split <;> omega
theorem toward_range {o a k : Int} {up : Bool} (h1 : -300 ≤ o) (h2 : o ≤ 600) (h3 : -300 ≤ a) (h4 : a ≤ 600) (h5 : 0 ≤ k) (h6 : k ≤ 100) : -300 ≤ towardV o a k up ∧ towardV o a k up ≤ 600 := by
  unfold towardV
  rcases Int.le_total 0 (a - o) with h | h
  · have p : (a - o) * k ≤ (a - o) * 100 := Int.mul_le_mul_of_nonneg_left h6 h
    have q : 0 ≤ (a - o) * k := Int.mul_nonneg h h5
    generalize (a - o) * k = X at *
    split <;> omega
  · have p : (a - o) * 100 ≤ (a - o) * k := Int.mul_le_mul_of_nonpos_left h h6
    have q : (a - o) * k ≤ 0 := Int.mul_nonpos_of_nonpos_of_nonneg h h5
    generalize (a - o) * k = X at *
    split <;> omega
end Go.Proofs.YtkidicfpfknfoaaDoor.D
