/-
  Plain: air and temperatures.
-/
import Derived.Test.YtkidicfpfknfoaaDoorVPl
namespace Go.Proofs.YtkidicfpfknfoaaDoor.D
set_option linter.unusedVariables false
set_option linter.unusedSimpArgs false
theorem inB_iff {n lo hi : Int} : inB n lo hi = true ↔ lo ≤ n ∧ n ≤ hi := by unfold inB; exact decide_eq_true_iff
theorem vap_step : ∀ k : Fin 900, vap (-300 + (k.val : Int)) < vap (-300 + (k.val : Int) + 1) := by decide +kernel
theorem vap_lt {t : Int} (h1 : -300 ≤ t) (h2 : t < 600) : vap t < vap (t + 1) := by
  have := vap_step ⟨(t + 300).toNat, by omega⟩
  have e : (-300 : Int) + (((t + 300).toNat : Nat) : Int) = t := by omega
  simp only [e] at this
  exact this
theorem vap_mono {a b : Int} (h1 : -300 ≤ a) (h2 : a ≤ b) (h3 : b ≤ 600) : vap a ≤ vap b := by
  obtain ⟨n, rfl⟩ : ∃ n : Nat, b = a + n := ⟨(b - a).toNat, by omega⟩
  clear h2
  induction n with
  | zero => simp
  | succ n ih =>
    have := ih (by omega)
    have h := vap_lt (t := a + n) (by omega) (by omega)
    have e : a + ((n + 1 : Nat) : Int) = a + n + 1 := by omega
    rw [e]; omega
theorem vap_lt' {a b : Int} (h1 : -300 ≤ a) (h2 : a < b) (h3 : b ≤ 600) : vap a < vap b := by
  have h := vap_lt (t := a) h1 (by omega)
  have := vap_mono (a := a + 1) (b := b) (by omega) (by omega) h3
  omega
theorem vap_in {t : Int} (h1 : -300 ≤ t) (h2 : t ≤ 600) : 450 ≤ vap t ∧ vap t ≤ 130200 := by
  have a := vap_mono (a := -300) (b := t) (by omega) h1 h2
  have b := vap_mono (a := t) (b := 600) h1 h2 (by omega)
  have e1 : vap (-300) = 450 := by decide +kernel
  have e2 : vap 600 = 130200 := by decide +kernel
  omega
theorem wet_mono {o o' t t' d d' : Int} (h1 : -300 ≤ o') (h2 : o' ≤ o) (h3 : o ≤ 600) (h4 : -300 ≤ t) (h5 : t ≤ t') (h6 : t' ≤ 600) (h7 : 0 ≤ d) (h8 : d ≤ d') (h : wet o t d = true) : wet o' t' d' = true := by
  unfold wet at *
  have h := of_decide_eq_true h
  have a := vap_mono h1 h2 h3
  have b := vap_mono h4 h5 h6
  have c := (vap_in h4 (by omega)).1
  have e : d * vap t ≤ d' * vap t' := Int.mul_le_mul h8 b (by omega) (by omega)
  exact decide_eq_true (by omega)
theorem wet_own {t d : Int} (h1 : -300 ≤ t) (h2 : t ≤ 600) (h3 : d ≤ 1000) : wet t t d = false := by
  unfold wet
  have c := (vap_in h1 h2).1
  have e : d * vap t ≤ 1000 * vap t := Int.mul_le_mul_of_nonneg_right h3 (by omega)
  exact decide_eq_false (by omega)
/-- What part of a difference: between it and 0. -/
theorem share_pos {n r : Int} (h : 0 ≤ n) (h1 : 0 ≤ r) (h2 : r ≤ 100) : 0 ≤ n * r / 100 ∧ n * r / 100 ≤ n := by
  have a : n * r ≤ n * 100 := Int.mul_le_mul_of_nonneg_left h2 h
  have b : 0 ≤ n * r := Int.mul_nonneg h h1
  omega
theorem share_neg {n r : Int} (h : n ≤ 0) (h1 : 0 ≤ r) (h2 : r ≤ 100) : n ≤ n * r / 100 ∧ n * r / 100 ≤ 0 := by
  have a : n * 100 ≤ n * r := Int.mul_le_mul_of_nonpos_left h h2
  have b : n * r ≤ 0 := Int.mul_nonpos_of_nonpos_of_nonneg h h1
  omega
theorem mul_in {n r : Int} (h : -900 ≤ n ∧ n ≤ 900) (h1 : 0 ≤ r) (h2 : r ≤ 100) : -90000 ≤ n * r ∧ n * r ≤ 90000 := by
  rcases Int.le_total 0 n with h0 | h0
  · have a : n * r ≤ n * 100 := Int.mul_le_mul_of_nonneg_left h2 h0
    have b : 0 ≤ n * r := Int.mul_nonneg h0 h1
    omega
  · have a : n * 100 ≤ n * r := Int.mul_le_mul_of_nonpos_left h0 h2
    have b : n * r ≤ 0 := Int.mul_nonpos_of_nonpos_of_nonneg h0 h1
    omega
/-- A span of temperatures. -/
def TIn (t : Span) : Prop := -300 ≤ t.lo ∧ t.lo ≤ 600 ∧ -300 ≤ t.hi ∧ t.hi ≤ 600
def RIn (r : Rm) : Prop := -300 ≤ r.tlo ∧ r.tlo ≤ 600 ∧ -300 ≤ r.thi ∧ r.thi ≤ 600 ∧ 0 ≤ r.dlo ∧ r.dlo ≤ 1000 ∧ 0 ≤ r.dhi ∧ r.dhi ≤ 1000
def RateIn (S : Site) : Prop := 1 ≤ S.rlo ∧ S.rlo ≤ 100 ∧ 1 ≤ S.rhi ∧ S.rhi ≤ 100
theorem warm_in {S : Site} {r : Rm} {t : Span} (hS : RateIn S) (hr : RIn r) (ht : TIn t) : TIn (warmV S r t) := by
  obtain ⟨s1, s2, s3, s4⟩ := hS
  obtain ⟨r1, r2, r3, r4, -, -, -, -⟩ := hr
  obtain ⟨t1, t2, t3, t4⟩ := ht
  unfold warmV TIn
  simp only
  have aux : ∀ (a b : Int) (c : Prop) [Decidable c], -300 ≤ a → a ≤ 600 → -300 ≤ b → b ≤ 600 → -300 ≤ a + (b - a) * (if c then S.rhi else S.rlo) / 100 ∧ a + (b - a) * (if c then S.rhi else S.rlo) / 100 ≤ 600 := by
    intro a b c _ a1 a2 b1 b2
    obtain ⟨r, hr, h1, h2⟩ : ∃ r, r = (if c then S.rhi else S.rlo) ∧ 0 ≤ r ∧ r ≤ 100 := ⟨_, rfl, by split <;> omega, by split <;> omega⟩
    rw [← hr]
    rcases Int.le_total 0 (b - a) with h | h
    · have := share_pos h h1 h2; omega
    · have := share_neg h h1 h2; omega
  have aux2 : ∀ (a b : Int) (c : Prop) [Decidable c], -300 ≤ a → a ≤ 600 → -300 ≤ b → b ≤ 600 → -300 ≤ a - (a - b) * (if c then S.rhi else S.rlo) / 100 ∧ a - (a - b) * (if c then S.rhi else S.rlo) / 100 ≤ 600 := by
    intro a b c _ a1 a2 b1 b2
    obtain ⟨r, hr, h1, h2⟩ : ∃ r, r = (if c then S.rhi else S.rlo) ∧ 0 ≤ r ∧ r ≤ 100 := ⟨_, rfl, by split <;> omega, by split <;> omega⟩
    rw [← hr]
    rcases Int.le_total 0 (a - b) with h | h
    · have := share_pos h h1 h2; omega
    · have := share_neg h h1 h2; omega
  have p := aux t.lo r.tlo (r.tlo < t.lo) t1 t2 r1 r2
  have q := aux2 t.hi r.thi (t.hi < r.thi) t3 t4 r3 r4
  exact ⟨p.1, p.2, q.1, q.2⟩
theorem warmN_in {S : Site} {r : Rm} (hS : RateIn S) (hr : RIn r) : ∀ (n : Nat) {t : Span}, TIn t → TIn (warmN S r n t)
  | 0, _, h => h
  | n + 1, _, h => warmN_in hS hr n (warm_in hS hr h)
theorem warmN_succ {S : Site} {r : Rm} : ∀ (n : Nat) (t : Span), warmN S r (n + 1) t = warmV S r (warmN S r n t)
  | 0, _ => rfl
  | n + 1, t => by rw [warmN, warmN_succ n]; rfl
theorem waitF_in {S : Site} {r nx : Rm} (hS : RateIn S) (hr : RIn r) : ∀ (f n : Nat) {t : Span} {m : Nat} {u : Span}, TIn t → waitF S r nx f n t = some (m, u) → TIn u ∧ n ≤ m ∧ m < n + f ∧ mayS u nx = false
  | 0, _, _, _, _, _, h => by cases h
  | f + 1, n, t, m, u, ht, h => by
    rw [waitF] at h
    split at h
    · have := waitF_in hS hr f (n + 1) (warm_in hS hr ht) h
      exact ⟨this.1, by omega, by omega, this.2.2.2⟩
    · rename_i hm
      obtain ⟨rfl, rfl⟩ : n = m ∧ t = u := by simpa using h
      exact ⟨ht, by omega, by omega, by simpa using hm⟩
/-! The dew point. -/
theorem wet_turn {t d : Int} (h1 : -300 ≤ t) (h2 : t ≤ 600) {a b : Nat} (hab : a ≤ b) (hb : -300 + (b : Int) ≤ 600) (h : wet (-300 + (a : Int)) t d = false) : wet (-300 + (b : Int)) t d = false := by
  unfold wet at *
  have h := of_decide_eq_false h
  have := vap_mono (a := -300 + (a : Int)) (b := -300 + (b : Int)) (by omega) (by omega) hb
  exact decide_eq_false (by omega)
theorem firstN_turns {p : Nat → Bool} {n k : Nat} (hk : k ≤ n) (h0 : 0 < k → p (k - 1) = false) (h1 : k < n → p k = true) (hm : ∀ a b, a ≤ b → b < n → p a = true → p b = true) : firstN p n = k := by
  have hall : ∀ i, i < k → p i = false := fun i hi => by
    cases hp : p i
    · rfl
    · have := hm i (k - 1) (by omega) (by omega) hp
      rw [h0 (by omega)] at this; cases this
  rcases Nat.lt_or_ge k n with h | h
  · exact firstN_at hall (h1 h) h
  · obtain rfl : k = n := by omega
    exact firstN_none hall
theorem dew_in {t d : Int} (h1 : -300 ≤ t) : -300 ≤ dewP t d ∧ dewP t d ≤ t := by
  unfold dewP
  have := firstN_le (fun k => !wet (-300 + (k : Int)) t d) (t + 300).toNat
  omega
/-- A can sweats just below the dew point. -/
theorem dew_iff {o t d : Int} (h1 : -300 ≤ t) (h2 : t ≤ 600) (h3 : -300 ≤ o) (h4 : o ≤ 600) (hd : d ≤ 1000) : wet o t d = decide (o < dewP t d) := by
  obtain ⟨k, hk⟩ : ∃ k, k = firstN (fun k => !wet (-300 + (k : Int)) t d) (t + 300).toNat := ⟨_, rfl⟩
  have hs := firstN_spec (p := fun k => !wet (-300 + (k : Int)) t d) (n := (t + 300).toNat)
  have hl := firstN_le (fun k => !wet (-300 + (k : Int)) t d) (t + 300).toNat
  have hdw : dewP t d = -300 + (k : Int) := by unfold dewP; rw [← hk]
  rw [← hk] at hs hl
  rw [hdw]
  by_cases h : o < -300 + (k : Int)
  · rw [decide_eq_true h]
    have := hs.1 (o + 300).toNat (by omega)
    have e : (-300 : Int) + (((o + 300).toNat : Nat) : Int) = o := by omega
    simp only [e] at this
    simpa using this
  · rw [decide_eq_false h]
    have hw : wet (-300 + (k : Int)) t d = false := by
      rcases Nat.lt_or_ge k (t + 300).toNat with h' | h'
      · simpa using hs.2 h'
      · have : (-300 : Int) + (k : Int) = t := by omega
        rw [this]; exact wet_own h1 h2 hd
    have := wet_turn h1 h2 (a := k) (b := (o + 300).toNat) (by omega) (by omega) hw
    have e : (-300 : Int) + (((o + 300).toNat : Nat) : Int) = o := by omega
    rw [e] at this
    exact this
theorem dew_mono {t t' d d' : Int} (h1 : -300 ≤ t) (h2 : t ≤ t') (h3 : t' ≤ 600) (h4 : 0 ≤ d) (h5 : d ≤ d') (h6 : d' ≤ 1000) : dewP t d ≤ dewP t' d' := by
  refine Int.not_lt.1 fun h => ?_
  have a := dew_in (t := t) (d := d) h1
  have b := dew_in (t := t') (d := d') (by omega)
  have e1 := dew_iff (o := dewP t' d') (t := t) (d := d) h1 (by omega) b.1 (by omega) (by omega)
  have e2 := dew_iff (o := dewP t' d') (t := t') (d := d') (by omega) h3 b.1 (by omega) h6
  rw [decide_eq_true h] at e1
  rw [decide_eq_false (Int.lt_irrefl _)] at e2
  rw [wet_mono b.1 (Int.le_refl _) (by omega) h1 h2 h3 h4 h5 e1] at e2
  cases e2
end Go.Proofs.YtkidicfpfknfoaaDoor.D
