/-
  Plain: colder climates (DecayCooler, DecayMoved).
-/
import Derived.Test.YtfjbgcaogffiaaaDPlwB
import Derived.Test.YtfjbgcaogffiaaaDMvA
namespace Go.Proofs.Ytfjbgcaogffiaaa
open Go.RowKit D
set_option linter.unusedVariables false
/-- A climate that is colder and drier. -/
def lowDay (d : Day) (a b : Int) : Day := ⟨max (-300) (d.tlo - a), max (-300) (d.thi - a), max 0 (d.dlo - b), max 0 (d.dhi - b)⟩
def Cold (x d : Day) : Prop := (x.tlo ≤ d.tlo ∧ x.thi ≤ d.thi) ∧ x.dlo ≤ d.dlo ∧ x.dhi ≤ d.dhi
theorem lowDay_ok {d : Day} (h : DayOk d) {a b : Int} (ha : 0 ≤ a) (hb : 0 ≤ b) : DayOk (lowDay d a b) := by
  have h0 := h.t0; have h1 := h.t1; have h2 := h.d0; have h3 := h.d1; have h4 := h.t; have h5 := h.d
  exact ⟨⟨by simp only [lowDay]; omega, by simp only [lowDay]; omega⟩, ⟨by simp only [lowDay]; omega, by simp only [lowDay]; omega⟩, ⟨by simp only [lowDay]; omega, by simp only [lowDay]; omega⟩, ⟨by simp only [lowDay]; omega, by simp only [lowDay]; omega⟩, by simp only [lowDay]; omega, by simp only [lowDay]; omega⟩
theorem lowDay_cold {d : Day} (h : DayOk d) {a b : Int} (ha : 0 ≤ a) (hb : 0 ≤ b) : Cold (lowDay d a b) d := by
  have h0 := h.t0; have h1 := h.t1; have h2 := h.d0; have h3 := h.d1
  exact ⟨⟨by simp only [lowDay]; omega, by simp only [lowDay]; omega⟩, by simp only [lowDay]; omega, by simp only [lowDay]; omega⟩
theorem cold_trans {x y z : Day} (h : Cold x y) (g : Cold y z) : Cold x z := by unfold Cold at *; omega
theorem cold_refl (x : Day) : Cold x x := by unfold Cold; omega
theorem cold_strength {R : Rule} (hR : RuleOk R) {x d : Day} (hx : DayOk x) (hd : DayOk d) (h : Cold x d) : (strength R x).lo ≤ (strength R d).lo ∧ (strength R x).hi ≤ (strength R d).hi :=
  ⟨strength_up hR hx.t0 hd.t0 hx.d0 hd.d0 h.1.1 h.2.1, strength_up hR hx.t1 hd.t1 hx.d1 hd.d1 h.1.2 h.2.2⟩
/-- The task of DecayCooler. -/
def coolT (T : Task) (a b s o f : Int) : Task :=
  { T with
    rule := { T.rule with own := T.rule.own - T.rule.own / 255 * o, feed := T.rule.feed - T.rule.feed / 255 * f }
    days := T.days.map fun d => lowDay d a b
    start := ⟨T.start.lo - T.start.lo / 255 * s, T.start.hi - T.start.lo / 255 * s⟩
    tests := [] }
theorem down255 {n s : Int} (hn : 0 ≤ n) (h0 : 0 ≤ s) (h1 : s ≤ 255) : 0 ≤ n / 255 * s ∧ n / 255 * s ≤ n := by
  have h2 : 0 ≤ n / 255 := by omega
  have h3 := Int.mul_nonneg h2 h0
  have h4 := Int.mul_le_mul_of_nonneg_left h1 h2
  omega
theorem cool_len (T : Task) (a b s o f : Int) : (coolT T a b s o f).days.length = T.days.length := by simp [coolT]
theorem cool_day {T : Task} {a b s o f : Int} {i : Nat} (h : i < T.days.length) : dayD (coolT T a b s o f).days i = lowDay (dayD T.days i) a b := by
  simp [coolT, dayD, h]
theorem cool_ok {T : Task} (hk : TaskOk T) {a b s o f : Int} (ha : 0 ≤ a) (hb : 0 ≤ b) (hs : 0 ≤ s ∧ s ≤ 255) (ho : 0 ≤ o ∧ o ≤ 255) (hf : 0 ≤ f ∧ f ≤ 255) : TaskOk (coolT T a b s o f) := by
  have hl := cool_len T a b s o f
  have h1 := down255 hk.rule.own.1 ho.1 ho.2
  have h2 := down255 hk.rule.feed.1 hf.1 hf.2
  have h3 := down255 hk.start.1.1 hs.1 hs.2
  have r1 := hk.rule.own; have r2 := hk.rule.feed; have r3 := hk.start
  refine ⟨⟨hk.rule.heat, hk.rule.wet, ⟨by simp only [coolT]; omega, by simp only [coolT]; omega⟩, ⟨by simp only [coolT]; omega, by simp only [coolT]; omega⟩, hk.rule.g0, hk.rule.g1, hk.rule.g2, hk.rule.lost⟩, by rw [hl]; exact hk.nd, Nat.zero_le _, by rw [hl]; exact hk.first, fun j hj => ?_, ⟨⟨by simp only [coolT]; omega, by simp only [coolT]; omega⟩, ⟨by simp only [coolT]; omega, by simp only [coolT]; omega⟩, by simp only [coolT]; omega⟩, fun j hj => absurd hj (Nat.not_lt_zero _)⟩
  rw [hl] at hj
  rw [cool_day hj]
  exact lowDay_ok (hk.days j hj) ha hb
theorem cool_lower {T : Task} (hk : TaskOk T) (ht : T.tests = []) {a b s o f : Int} (ha : 0 ≤ a) (hb : 0 ≤ b) (hs : 0 ≤ s ∧ s ≤ 255) (ho : 0 ≤ o ∧ o ≤ 255) (hf : 0 ≤ f ∧ f ≤ 255) : Lower T (coolT T a b s o f) := by
  have h1 := down255 hk.rule.own.1 ho.1 ho.2
  have h2 := down255 hk.rule.feed.1 hf.1 hf.2
  have h3 := down255 hk.start.1.1 hs.1 hs.2
  refine ⟨by simp only [coolT]; omega, by simp only [coolT]; omega, cool_len T a b s o f, fun i hi => ?_, ⟨by simp only [coolT]; omega, by simp only [coolT]; omega⟩, ht, rfl⟩
  rw [force_at (by rw [cool_len]; exact hi), force_at hi, cool_day hi]
  exact cold_strength hk.rule (lowDay_ok (hk.days i hi) ha hb) (hk.days i hi) (lowDay_cold (hk.days i hi) ha hb)
/-- The coldest and driest of days. -/
def minDay (a b : Day) : Day := ⟨min a.tlo b.tlo, min a.thi b.thi, min a.dlo b.dlo, min a.dhi b.dhi⟩
def minFrom (l : List Day) (k : Nat) : Nat → Day
  | 0 => dayD l k
  | n + 1 => minDay (minFrom l k n) (dayD l (k + n))
theorem minDay_ok {a b : Day} (h : DayOk a) (g : DayOk b) : DayOk (minDay a b) := by
  have h0 := h.t0; have h1 := h.t1; have h2 := h.d0; have h3 := h.d1; have h4 := h.t; have h5 := h.d
  have g0 := g.t0; have g1 := g.t1; have g2 := g.d0; have g3 := g.d1; have g4 := g.t; have g5 := g.d
  exact ⟨⟨by simp only [minDay]; omega, by simp only [minDay]; omega⟩, ⟨by simp only [minDay]; omega, by simp only [minDay]; omega⟩, ⟨by simp only [minDay]; omega, by simp only [minDay]; omega⟩, ⟨by simp only [minDay]; omega, by simp only [minDay]; omega⟩, by simp only [minDay]; omega, by simp only [minDay]; omega⟩
theorem minDay_l (a b : Day) : Cold (minDay a b) a := by simp only [Cold, minDay]; omega
theorem minDay_r (a b : Day) : Cold (minDay a b) b := by simp only [Cold, minDay]; omega
theorem minFrom_ok {l : List Day} {k : Nat} (hk : k < l.length) (h : ∀ j, j < l.length → DayOk (dayD l j)) : ∀ n, k + n ≤ l.length → DayOk (minFrom l k n)
  | 0, _ => h k hk
  | n + 1, hn => minDay_ok (minFrom_ok hk h n (by omega)) (h _ (by omega))
theorem minFrom_cold (l : List Day) (k : Nat) : ∀ n j, j < n → Cold (minFrom l k n) (dayD l (k + j))
  | 0, j, h => absurd h (by omega)
  | n + 1, j, h => by
    rcases Nat.lt_or_ge j n with h1 | h1
    · exact cold_trans (minDay_l _ _) (minFrom_cold l k n j h1)
    · obtain rfl : j = n := by omega
      exact minDay_r _ _
/-- DecayMoved, plain. -/
theorem moved_later {T : Task} (hk : TaskOk T) (ht : T.tests = []) {f a b : Int} (ha : 0 ≤ a) (hb : 0 ≤ b) (h0 : T.first ≤ f) (h1 : f < T.first + T.days.length) {k : Nat} (hkf : k = (f - T.first).toNat) {d : Day} (hd : d = lowDay (minFrom T.days k (T.days.length - k)) a b) :
    movE T f d = 0 ∨ (checkTask T).2.2 ≠ 0 := by
  by_cases h : (checkTask T).2.2 = 0
  · left
    rw [movE, if_neg (not_not_intro h), if_neg (not_not_intro ⟨h0, h1⟩), hd]
    exact climateE_0 (lowDay_ok (minFrom_ok (by omega) hk.days _ (by omega)) ha hb)
  · exact .inr h
theorem moved_lower {T : Task} (hk : TaskOk T) (ht : T.tests = []) {f a b : Int} (ha : 0 ≤ a) (hb : 0 ≤ b) (h0 : T.first ≤ f) (h1 : f < T.first + T.days.length) {k : Nat} (hkf : k = (f - T.first).toNat) {d : Day} (hd : d = lowDay (minFrom T.days k (T.days.length - k)) a b) :
    DayOk d ∧ laterB (lostT (movT T k f d)).lo (lostT T).lo = true ∧ laterB (lostT (movT T k f d)).hi (lostT T).hi = true := by
  have hkl : k < T.days.length := by omega
  have hm := minFrom_ok hkl hk.days (T.days.length - k) (by omega)
  have hdo : DayOk d := by rw [hd]; exact lowDay_ok hm ha hb
  have hU : TaskOk (movT T k f d) := by rw [hkf]; exact movT_ok hk h0 h1 hdo
  have hl : (movDays T.days k d).length = T.days.length := movDays_len (by omega)
  refine ⟨hdo, low_lost hk hU ⟨Int.le_refl _, Int.le_refl _, hl, fun i hi => ?_, ⟨Int.le_refl _, Int.le_refl _⟩, ht, by show movTests T.tests f = []; rw [ht]; rfl⟩ rfl rfl⟩
  rw [force_at (T := movT T k f d) (show i < (movDays T.days k d).length by rw [hl]; exact hi), force_at hi]
  show (strength T.rule (dayD (movDays T.days k d) i)).lo ≤ _ ∧ (strength T.rule (dayD (movDays T.days k d) i)).hi ≤ _
  rw [movDays_at hi]
  split
  · exact ⟨Int.le_refl _, Int.le_refl _⟩
  · rename_i hik
    refine cold_strength hk.rule hdo (hk.days i hi) ?_
    have h := minFrom_cold T.days k (T.days.length - k) (i - k) (by omega)
    rw [show k + (i - k) = i by omega] at h
    rw [hd]
    exact cold_trans (lowDay_cold hm ha hb) h
end Go.Proofs.Ytfjbgcaogffiaaa
