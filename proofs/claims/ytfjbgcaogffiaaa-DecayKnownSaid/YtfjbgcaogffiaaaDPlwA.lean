/-
  Plain: a course of levels.
  Plain: a course of the laws: part, walked, keeps.
  Plain: what the outright laws of the decay layer say of the levels.
-/
import Derived.Test.YtfjbgcaogffiaaaDKnowA
import Derived.Test.YtfjbgcaogffiaaaDGradeA
namespace Go.Proofs.Ytfjbgcaogffiaaa
open D
/-- What a level can be on a morning, by the level of the one before it. -/
def canOf (T : Task) (c : Nat → Int) : Nat → Span
  | 0 => T.start
  | i + 1 => ⟨least T.rule (spanD (forces T) i) (c i), most T.rule (spanD (forces T) i) (c i)⟩
def ownBad (T : Task) (c : Nat → Int) (i : Nat) : Bool := decide (c i < (canOf T c i).lo ∨ (canOf T c i).hi < c i)
theorem ownBad_in (T : Task) (c : Nat → Int) (i : Nat) : inB (c i) (canOf T c i).lo (canOf T c i).hi = !ownBad T c i := by
  unfold inB ownBad
  rw [Bool.eq_iff_iff]; simp <;> omega
def ownI (T : Task) (c : Nat → Int) : Int := firstDay 0 (ownBad T c) (T.days.length + 1)
def ownV (T : Task) (l : List Int) : Int × Int := if (checkTask T).2.2 ≠ 0 then (0, (checkTask T).2.2) else if l.length ≠ T.days.length + 1 then (0, 2) else (ownI T (intD l), 0)
theorem can_lev {T : Task} (hk : TaskOk T) {c : Nat → Int} : ∀ {i : Nat}, i ≤ T.days.length → (∀ j, j < i → ownBad T c j = false) → LevOk (canOf T c i)
  | 0, _, _ => ⟨hk.start.1, hk.start.2.1⟩
  | i + 1, hi, h => by
    have h1 := can_lev hk (c := c) (i := i) (by omega) (fun j hj => h j (by omega))
    have h2 := h i (by omega)
    simp only [ownBad, decide_eq_false_iff_not] at h2
    have hg := (stepOk_at hk (i := i) hi).g
    have hb : 0 ≤ c i ∧ c i ≤ 1000000 := by obtain ⟨⟨a, b⟩, x, y⟩ := h1; omega
    have hc : LevOk ⟨c i, c i⟩ := ⟨hb, hb⟩
    have h3 := grow_lev hg hc
    exact h3
theorem own_lev {T : Task} (hk : TaskOk T) {c : Nat → Int} {i : Nat} (hi : i ≤ T.days.length) (h : ∀ j, j ≤ i → ownBad T c j = false) : 0 ≤ c i ∧ c i ≤ 1000000 := by
  have h1 := can_lev hk (c := c) hi (fun j hj => h j (by omega))
  have h2 := h i (Nat.le_refl _)
  simp only [ownBad, decide_eq_false_iff_not] at h2
  obtain ⟨⟨a, b⟩, x, y⟩ := h1
  omega
end Go.Proofs.Ytfjbgcaogffiaaa
namespace Go.Proofs.Ytfjbgcaogffiaaa
open D
structure Cse where
  start : Int
  steps : List Int
def CseOk (C : Cse) : Prop := (0 ≤ C.start ∧ C.start ≤ 255) ∧ ∀ j, j < C.steps.length → 0 ≤ intD C.steps j ∧ intD C.steps j ≤ 255
def partI (s : Span) (n : Int) : Int := s.lo + (s.hi - s.lo) * n / 255
def stepBy (C : Cse) (i : Nat) : Int := if C.steps.length = 0 then 0 else intD C.steps (i % C.steps.length)
def gr1 (T : Task) (i : Nat) (n : Int) : Span := ⟨least T.rule (spanD (forces T) i) n, most T.rule (spanD (forces T) i) n⟩
def crs (T : Task) (C : Cse) : Nat → Int
  | 0 => partI T.start C.start
  | i + 1 => partI (gr1 T i (crs T C i)) (stepBy C i)
theorem part_in {s : Span} (h : s.lo ≤ s.hi) {n : Int} (h0 : 0 ≤ n) (h1 : n ≤ 255) : s.lo ≤ partI s n ∧ partI s n ≤ s.hi := by
  unfold partI
  have a : 0 ≤ (s.hi - s.lo) * n := Int.mul_nonneg (by omega) h0
  have b : (s.hi - s.lo) * n ≤ (s.hi - s.lo) * 255 := Int.mul_le_mul_of_nonneg_left h1 (by omega)
  omega
theorem step_in {C : Cse} (h : CseOk C) (i : Nat) : 0 ≤ stepBy C i ∧ stepBy C i ≤ 255 := by
  unfold stepBy
  split
  · omega
  · rename_i hn
    exact h.2 _ (Nat.mod_lt _ (Nat.pos_of_ne_zero hn))
theorem gr1_sp {T : Task} (hk : TaskOk T) {i : Nat} (hi : i < T.days.length) {n : Int} (h : 0 ≤ n ∧ n ≤ 1000000) : SpOk (gr1 T i n) := by
  have hs := stepOk_at hk hi
  have ha : SpOk ⟨n, n⟩ := ⟨⟨h, h⟩, Int.le_refl _⟩
  exact grow_sp hs ha
theorem crs_rng {T : Task} (hk : TaskOk T) {C : Cse} (hC : CseOk C) : ∀ {i : Nat}, i ≤ T.days.length → (0 ≤ crs T C i ∧ crs T C i ≤ 1000000)
  | 0, _ => by
    have h := part_in (s := T.start) hk.start.2.2 hC.1.1 hC.1.2
    have := hk.start.1; have := hk.start.2.1
    rw [crs]; omega
  | i + 1, hi => by
    have h1 := crs_rng hk hC (i := i) (by omega)
    obtain ⟨⟨a, b⟩, c⟩ := gr1_sp hk (i := i) hi h1
    have h := part_in c (step_in hC i).1 (step_in hC i).2
    rw [crs]; omega
theorem crs_course {T : Task} (hk : TaskOk T) {C : Cse} (hC : CseOk C) : ∀ {i : Nat}, i ≤ T.days.length → ownBad T (crs T C) i = false
  | 0, _ => by
    have h := part_in (s := T.start) hk.start.2.2 hC.1.1 hC.1.2
    simp only [ownBad, canOf, crs]; exact decide_eq_false (by omega)
  | i + 1, hi => by
    have h1 := crs_rng hk hC (i := i) (by omega)
    obtain ⟨_, c⟩ := gr1_sp hk (i := i) hi h1
    have h := part_in c (step_in hC i).1 (step_in hC i).2
    simp only [ownBad, canOf, crs]
    have e : gr1 T i (crs T C i) = ⟨least T.rule (spanD (forces T) i) (crs T C i), most T.rule (spanD (forces T) i) (crs T C i)⟩ := rfl
    rw [e] at h
    exact decide_eq_false (by rw [e]; dsimp only at h; omega)
def crsL (T : Task) (C : Cse) : List Int := (List.range (T.days.length + 1)).map (crs T C)
theorem crsL_len (T : Task) (C : Cse) : (crsL T C).length = T.days.length + 1 := by simp [crsL]
theorem crsL_at {T : Task} {C : Cse} {i : Nat} (h : i ≤ T.days.length) : intD (crsL T C) i = crs T C i := by simp [crsL, intD, Nat.lt_succ_of_le h]
/-- A course that keeps to a test. -/
def keepsB (T : Task) (l : List Int) (x : Test) : Bool :=
  decide (0 ≤ x.day - T.first ∧ x.day - T.first < l.length ∧ grade T.rule (intD l (x.day - T.first).toNat) - x.grade ≤ x.err ∧ x.grade - grade T.rule (intD l (x.day - T.first).toNat) ≤ x.err)
theorem grade_rng (R : Rule) (n : Int) : 0 ≤ grade R n ∧ grade R n ≤ 3 := by
  unfold grade b1
  repeat' split
  all_goals omega
/-- The levels that keep to a test are those whose grade is near. -/
theorem keep_grade {R : Rule} (h : RuleOk R) {x : Test} (hx : TestOk x) {n : Int} (hn : 0 ≤ n ∧ n ≤ 1000000) : ((keep R x).lo ≤ n ∧ n ≤ (keep R x).hi) ↔ (grade R n - x.grade ≤ x.err ∧ x.grade - grade R n ≤ x.err) := by
  have g0 := h.g0; have g1 := h.g1; have g2 := h.g2
  obtain ⟨x0, x1⟩ := hx
  have hg : grade R n = 0 ∧ n < R.g0 ∨ grade R n = 1 ∧ R.g0 ≤ n ∧ n < R.g1 ∨ grade R n = 2 ∧ R.g1 ≤ n ∧ n < R.g2 ∨ grade R n = 3 ∧ R.g2 ≤ n := by
    unfold grade b1
    repeat' split
    all_goals omega
  have hlo : (keep R x).lo = if x.grade - x.err ≤ 0 then 0 else R.gr (x.grade - x.err - 1).toNat := rfl
  have hhi : (keep R x).hi = if 3 ≤ x.grade + x.err then 1000000 else R.gr (x.grade + x.err).toNat - 1 := rfl
  rw [hlo, hhi]
  have e1 : x.grade - x.err ≤ 0 ∨ x.grade - x.err = 1 ∨ x.grade - x.err = 2 ∨ x.grade - x.err = 3 := by omega
  have e2 : 3 ≤ x.grade + x.err ∨ x.grade + x.err = 0 ∨ x.grade + x.err = 1 ∨ x.grade + x.err = 2 := by omega
  rcases e1 with e1 | e1 | e1 | e1 <;> rcases e2 with e2 | e2 | e2 | e2 <;>
    (first | rw [if_pos e1] | (rw [if_neg (by omega), e1])) <;> (first | rw [if_pos e2] | (rw [if_neg (by omega), e2])) <;>
    (try simp only [Rule.gr, Int.reduceSub, Int.toNat_zero, Int.reduceToNat]) <;> rcases hg with ⟨a, b⟩ | ⟨a, b, c⟩ | ⟨a, b, c⟩ | ⟨a, b⟩ <;> rw [a] <;> constructor <;> intro hh <;> omega
end Go.Proofs.Ytfjbgcaogffiaaa
namespace Go.Proofs.Ytfjbgcaogffiaaa
open D
def InS (s : Span) (n : Int) : Prop := s.lo ≤ n ∧ n ≤ s.hi
theorem gF_le {T : Task} {i : Nat} : ∀ (l : List Nat) (s : Span), s.lo ≤ (l.foldl (gF T i) s).lo ∧ (l.foldl (gF T i) s).hi ≤ s.hi ∧ ∀ j ∈ l, mo T j = i → (kp T j).lo ≤ (l.foldl (gF T i) s).lo ∧ (l.foldl (gF T i) s).hi ≤ (kp T j).hi
  | [], s => ⟨Int.le_refl _, Int.le_refl _, fun j hj => by cases hj⟩
  | x :: l, s => by
    obtain ⟨h1, h2, h3⟩ := gF_le (T := T) (i := i) l (gF T i s x)
    simp only [List.foldl_cons]
    have hx : s.lo ≤ (gF T i s x).lo ∧ (gF T i s x).hi ≤ s.hi ∧ (mo T x = i → (kp T x).lo ≤ (gF T i s x).lo ∧ (gF T i s x).hi ≤ (kp T x).hi) := by
      unfold gF
      split
      · simp only [both]; omega
      · rename_i hn; exact ⟨Int.le_refl _, Int.le_refl _, fun h => absurd h hn⟩
    refine ⟨by omega, by omega, fun j hj hm => ?_⟩
    rcases List.mem_cons.1 hj with rfl | hj
    · have := hx.2.2 hm; omega
    · exact h3 j hj hm
theorem gF_in {T : Task} {i : Nat} {n : Int} : ∀ (l : List Nat) (s : Span), InS s n → (∀ j ∈ l, mo T j = i → InS (kp T j) n) → InS (l.foldl (gF T i) s) n
  | [], s, h, _ => h
  | x :: l, s, h, hk => by
    simp only [List.foldl_cons]
    refine gF_in (T := T) (i := i) l _ ?_ (fun j hj => hk j (List.mem_cons_of_mem _ hj))
    unfold gF
    split
    · rename_i hm
      have := hk x List.mem_cons_self hm
      unfold InS both at *
      dsimp only; omega
    · exact h
/-- The levels of a morning keep to the tests of it that are taken. -/
theorem fwd_keeps {T : Task} {i j : Nat} (hi : i ≤ T.days.length) (hj : j ∈ goodT T) (hm : mo T j = i) : (kp T j).lo ≤ (fwd T i).lo ∧ (fwd T i).hi ≤ (kp T j).hi := by
  have h := (gF_le (T := T) (i := i) (goodT T) (dawn T i).now).2.2 j hj hm
  rwa [gF_end T hi] at h
theorem lv_keeps {T : Task} (hk : TaskOk T) {i j : Nat} (hi : i ≤ T.days.length) (hj : j ∈ goodT T) (hm : mo T j = i) : (kp T j).lo ≤ (lv T i).lo ∧ (lv T i).hi ≤ (kp T j).hi := by
  have h1 := fwd_keeps hi hj hm
  have h2 := lv_ok hk hi
  omega
/-- A course (its levels follow one another). -/
def IsCourse (T : Task) (c : Nat → Int) : Prop := ∀ i, i ≤ T.days.length → ownBad T c i = false
theorem course_can {T : Task} {c : Nat → Int} (hc : IsCourse T c) {i : Nat} (hi : i ≤ T.days.length) : InS (canOf T c i) (c i) := by
  have h := hc i hi
  simp only [ownBad, decide_eq_false_iff_not] at h
  unfold InS; omega
theorem course_fwd {T : Task} (hk : TaskOk T) {c : Nat → Int} (hc : IsCourse T c) (hg : ∀ j ∈ goodT T, InS (kp T j) (c (mo T j))) : ∀ {i : Nat}, i ≤ T.days.length → InS (fwd T i) (c i)
  | 0, hi => by
    have h := course_can hc hi
    rw [← gF_end T hi]
    exact gF_in _ _ h (fun j hj hm => by have := hg j hj; rwa [hm] at this)
  | i + 1, hi => by
    have h := course_can hc hi
    have ih := course_fwd hk hc hg (i := i) (by omega)
    have hs := (stepOk_at hk (i := i) hi).g
    rw [← gF_end T hi]
    refine gF_in _ _ ?_ (fun j hj hm => by have := hg j hj; rwa [hm] at this)
    have e : (dawn T (i + 1)).now = grow T.rule (spanD (forces T) i) (fwd T i) := rfl
    rw [e]
    have a := least_mono hs ih.1
    have b := most_mono hs ih.2
    unfold InS at h ⊢
    simp only [canOf] at h
    simp only [grow]; omega
theorem course_lv {T : Task} (hk : TaskOk T) {c : Nat → Int} (hc : IsCourse T c) (hg : ∀ j ∈ goodT T, InS (kp T j) (c (mo T j))) : ∀ (d : Nat) {i : Nat}, T.days.length - i = d → i ≤ T.days.length → InS (lv T i) (c i)
  | 0, i, hd, hi => by
    obtain rfl : i = T.days.length := by omega
    rw [lv_last]; exact course_fwd hk hc hg hi
  | d + 1, i, hd, hi => by
    have ih := course_lv hk hc hg d (i := i + 1) (by omega) (by omega)
    have hf := course_fwd hk hc hg hi
    have hb := lv_backOk hk (i := i) (by omega)
    have h := course_can hc (i := i + 1) (by omega)
    simp only [InS, canOf] at h ih hf
    refine ⟨?_, ?_⟩
    · rcases Int.lt_or_le (c i) (lv T i).lo with h1 | h1
      · have := hb.lo2 (c i) (by omega) h1; omega
      · exact h1
    · rcases Int.lt_or_le (lv T i).hi (c i) with h1 | h1
      · have := hb.hi2 (c i) (by omega) h1; omega
      · exact h1
/-- From each level of a morning one of the next can follow. -/
theorem lv_step {T : Task} (hk : TaskOk T) {i : Nat} (hi : i < T.days.length) {n : Int} (hn : InS (lv T i) n) : (lv T (i + 1)).lo ≤ most T.rule (spanD (forces T) i) n ∧ least T.rule (spanD (forces T) i) n ≤ (lv T (i + 1)).hi := by
  have hb := lv_backOk hk hi
  have hs := (stepOk_at hk hi).g
  have a := most_mono hs hn.1
  have b := least_mono hs hn.2
  have := hb.lo1; have := hb.hi1
  omega
/-- The levels of a morning lie within those that can follow. -/
theorem lv_within {T : Task} (hk : TaskOk T) {i : Nat} (hi : i < T.days.length) : least T.rule (spanD (forces T) i) (lv T i).lo ≤ (lv T (i + 1)).lo ∧ (lv T (i + 1)).hi ≤ most T.rule (spanD (forces T) i) (lv T i).hi := by
  have hb := lv_backOk hk hi
  have hs := stepOk_at hk hi
  have hf := fwd_next hk hi
  have hl := lv_ok hk (i := i + 1) hi
  have h0 := lv_ok hk (i := i) (by omega)
  have hfs := fwd_sp hk (i := i) (by omega)
  obtain ⟨⟨⟨a1, a2⟩, a3, a4⟩, a5⟩ := h0.1
  obtain ⟨⟨⟨f1, f2⟩, f3, f4⟩, f5⟩ := hfs
  refine ⟨?_, ?_⟩
  · rcases Int.lt_or_le (fwd T i).lo (lv T i).lo with h | h
    · have h1 := hb.lo2 ((lv T i).lo - 1) (by omega) (by omega)
      have h2 := least_next hs.g hs.le (n := (lv T i).lo - 1) (by omega)
      rw [show (lv T i).lo - 1 + 1 = (lv T i).lo by omega] at h2
      omega
    · have := least_mono hs.g (n := (lv T i).lo) (m := (fwd T i).lo) (by omega)
      omega
  · rcases Int.lt_or_le (lv T i).hi (fwd T i).hi with h | h
    · have h1 := hb.hi2 ((lv T i).hi + 1) (by omega) (by omega)
      have h2 := least_next hs.g hs.le (n := (lv T i).hi) (by omega)
      omega
    · have := most_mono hs.g (n := (fwd T i).hi) (m := (lv T i).hi) (by omega)
      omega
end Go.Proofs.Ytfjbgcaogffiaaa
