/-
  Plain definitions: the decay layer's data and functions, as plain Lean; no program in sight.
  Plain facts on curves.
  Plain: the tests in order of their days; what is known of all mornings.
  Plain: the reference's walk over the tests comes to the same; levels and their growth.
-/

namespace Go.Proofs.Ytfjbgcaogffiaaa.D
structure Pt where
  at_ : Int
  fac : Int
  deriving DecidableEq, Inhabited
def firstBad (bad : Nat → Int) : Nat → Nat → Nat × Int
  | _, 0 => (0, 0)
  | i, n + 1 => if bad i = 0 then firstBad bad (i + 1) n else (i, bad i)
theorem firstBad_skip (bad : Nat → Int) : ∀ (k i n : Nat), (∀ j, i ≤ j → j < i + k → bad j = 0) → k ≤ n → firstBad bad i n = firstBad bad (i + k) (n - k)
  | 0, i, n, _, _ => by simp
  | k + 1, i, n, h, hk => by
    match n, hk with
    | n + 1, hk =>
      rw [firstBad, if_pos (h i (Nat.le_refl _) (by omega)), firstBad_skip bad k (i + 1) n (fun j h1 h2 => h j (by omega) (by omega)) (by omega)]
      congr 1 <;> omega
theorem firstBad_none (bad : Nat → Int) (n : Nat) (h : ∀ j, j < n → bad j = 0) : firstBad bad 0 n = (0, 0) := by
  rw [firstBad_skip bad n 0 n (fun j _ h2 => h j (by omega)) (Nat.le_refl _), Nat.sub_self]; rfl
theorem firstBad_some (bad : Nat → Int) (n k : Nat) (h : ∀ j, j < k → bad j = 0) (hk : k < n) (hb : bad k ≠ 0) : firstBad bad 0 n = (k, bad k) := by
  rw [firstBad_skip bad k 0 n (fun j _ h2 => h j (by omega)) (by omega), Nat.zero_add]
  obtain ⟨m, hm⟩ : ∃ m, n - k = m + 1 := ⟨n - k - 1, by omega⟩
  rw [hm, firstBad, if_neg hb]
def inB (n lo hi : Int) : Bool := decide (lo ≤ n ∧ n ≤ hi)
theorem inB_t {n lo hi : Int} (h : lo ≤ n ∧ n ≤ hi) : inB n lo hi = true := decide_eq_true h
theorem inB_f {n lo hi : Int} (h : ¬ (lo ≤ n ∧ n ≤ hi)) : inB n lo hi = false := decide_eq_false h
theorem inB_of {n lo hi : Int} (h : inB n lo hi = true) : lo ≤ n ∧ n ≤ hi := of_decide_eq_true h
theorem inB_not {n lo hi : Int} (h : inB n lo hi = false) : ¬ (lo ≤ n ∧ n ≤ hi) := of_decide_eq_false h
def ptD (l : List Pt) (i : Nat) : Pt := l.getD i ⟨0, 0⟩
def badPt (lo hi : Int) (l : List Pt) (i : Nat) : Int :=
  if (lo ≤ (ptD l i).at_ ∧ (ptD l i).at_ ≤ hi) ∧ (0 ≤ (ptD l i).fac ∧ (ptD l i).fac ≤ 1000) then
    (if 0 < i ∧ ((ptD l i).at_ ≤ (ptD l (i - 1)).at_ ∨ (ptD l i).fac < (ptD l (i - 1)).fac) then 2 else 0) else 7
def curve (l : List Pt) (lo hi : Int) : Nat × Int :=
  if 2 ≤ l.length ∧ l.length ≤ 8 then firstBad (badPt lo hi l) 0 l.length else (0, 3)
theorem curve_at {l : List Pt} {lo hi e : Int} {k : Nat} (hl : 2 ≤ l.length ∧ l.length ≤ 8) (h : ∀ j, j < k → badPt lo hi l j = 0) (hk : k < l.length) (hb : badPt lo hi l k = e) (he : e ≠ 0) : curve l lo hi = (k, e) := by
  rw [curve, if_pos hl, firstBad_some _ _ k h hk (by rw [hb]; exact he), hb]
theorem curve_ok {l : List Pt} {lo hi : Int} (hl : 2 ≤ l.length ∧ l.length ≤ 8) (h : ∀ j, j < l.length → badPt lo hi l j = 0) : curve l lo hi = (0, 0) := by
  rw [curve, if_pos hl, firstBad_none _ _ h]
theorem badPt_7 {l : List Pt} {lo hi x f : Int} {k : Nat} (hx : x = (ptD l k).at_) (hf : f = (ptD l k).fac) (h : ¬ ((lo ≤ x ∧ x ≤ hi) ∧ (0 ≤ f ∧ f ≤ 1000))) : badPt lo hi l k = 7 := by
  rw [badPt, if_neg (by rw [← hx, ← hf]; exact h)]
theorem badPt_2 {l : List Pt} {lo hi x f x' f' : Int} {k : Nat} (hx : x = (ptD l k).at_) (hf : f = (ptD l k).fac) (hx' : x' = (ptD l (k - 1)).at_) (hf' : f' = (ptD l (k - 1)).fac)
    (h : (lo ≤ x ∧ x ≤ hi) ∧ (0 ≤ f ∧ f ≤ 1000)) (hk : 0 < k) (h' : x ≤ x' ∨ f < f') : badPt lo hi l k = 2 := by
  rw [badPt, if_pos (by rw [← hx, ← hf]; exact h), if_pos (by rw [← hx, ← hf, ← hx', ← hf']; exact ⟨hk, h'⟩)]
theorem badPt_0 {l : List Pt} {lo hi x f x' f' : Int} {k : Nat} (hx : x = (ptD l k).at_) (hf : f = (ptD l k).fac) (hx' : x' = (ptD l (k - 1)).at_) (hf' : f' = (ptD l (k - 1)).fac)
    (h : (lo ≤ x ∧ x ≤ hi) ∧ (0 ≤ f ∧ f ≤ 1000)) (h' : ¬ (x ≤ x' ∨ f < f')) : badPt lo hi l k = 0 := by
  rw [badPt, if_pos (by rw [← hx, ← hf]; exact h), if_neg (by rw [← hx, ← hf, ← hx', ← hf']; exact fun q => h' q.2)]
theorem badPt_00 {l : List Pt} {lo hi x f : Int} (hx : x = (ptD l 0).at_) (hf : f = (ptD l 0).fac)
    (h : (lo ≤ x ∧ x ≤ hi) ∧ (0 ≤ f ∧ f ≤ 1000)) : badPt lo hi l 0 = 0 := by
  rw [badPt, if_pos (by rw [← hx, ← hf]; exact h), if_neg (by omega)]
theorem badPt_rng {l : List Pt} {lo hi : Int} {k : Nat} (h : badPt lo hi l k = 0) : (lo ≤ (ptD l k).at_ ∧ (ptD l k).at_ ≤ hi) ∧ (0 ≤ (ptD l k).fac ∧ (ptD l k).fac ≤ 1000) := by
  rw [badPt] at h; split at h
  · assumption
  · cases h
theorem below_succ {p : Nat → Prop} {k : Nat} (h : ∀ j, j < k → p j) (hk : p k) : ∀ j, j < k + 1 → p j := fun j hj => by
  rcases Nat.lt_succ_iff_lt_or_eq.1 hj with h1 | rfl
  · exact h j h1
  · exact hk
structure Rule where
  heat : List Pt
  wet : List Pt
  own : Int
  feed : Int
  g0 : Int
  g1 : Int
  g2 : Int
  lost : Int
structure Day where
  tlo : Int
  thi : Int
  dlo : Int
  dhi : Int
structure Span where
  lo : Int
  hi : Int
  deriving DecidableEq
structure Test where
  day : Int
  grade : Int
  err : Int
structure Task where
  rule : Rule
  first : Int
  days : List Day
  start : Span
  tests : List Test
structure Strike where
  test : Int
  by_ : Int
  deriving DecidableEq
def dayD (l : List Day) (i : Nat) : Day := l.getD i ⟨0, 0, 0, 0⟩
def testD (l : List Test) (i : Nat) : Test := l.getD i ⟨0, 0, 0⟩
def spanD (l : List Span) (i : Nat) : Span := l.getD i ⟨0, 0⟩
def strikeD (l : List Strike) (i : Nat) : Strike := l.getD i ⟨0, 0⟩
def intD (l : List Int) (i : Nat) : Int := l.getD i 0
def Rule.gr (R : Rule) : Nat → Int
  | 0 => R.g0
  | 1 => R.g1
  | _ => R.g2
def badGrade (R : Rule) (i : Nat) : Int :=
  if 1 ≤ R.gr i ∧ R.gr i ≤ 1000000 then (if 0 < i ∧ R.gr i ≤ R.gr (i - 1) then 2 else 0) else 7
/-- What is asked of a rule: the part, the index in it, the error. -/
def check (R : Rule) : Int × Int × Int :=
  if (curve R.heat (-300) 600).2 ≠ 0 then (1, (curve R.heat (-300) 600).1, (curve R.heat (-300) 600).2)
  else if (curve R.wet 0 1000).2 ≠ 0 then (2, (curve R.wet 0 1000).1, (curve R.wet 0 1000).2)
  else if ¬ ((0 ≤ R.own ∧ R.own ≤ 100000) ∧ (0 ≤ R.feed ∧ R.feed ≤ 999999)) then (3, 0, 7)
  else if (firstBad (badGrade R) 0 3).2 ≠ 0 then (4, (firstBad (badGrade R) 0 3).1, (firstBad (badGrade R) 0 3).2)
  else if ¬ (1 ≤ R.lost ∧ R.lost ≤ 1000000) then (5, 0, 7)
  else (0, 0, 0)
theorem badGrade_7 {R : Rule} {k : Nat} (h : ¬ (1 ≤ R.gr k ∧ R.gr k ≤ 1000000)) : badGrade R k = 7 := by rw [badGrade, if_neg h]
theorem badGrade_2 {R : Rule} {k : Nat} (h : 1 ≤ R.gr k ∧ R.gr k ≤ 1000000) (hk : 0 < k) (h' : R.gr k ≤ R.gr (k - 1)) : badGrade R k = 2 := by rw [badGrade, if_pos h, if_pos ⟨hk, h'⟩]
theorem badGrade_0 {R : Rule} {k : Nat} (h : 1 ≤ R.gr k ∧ R.gr k ≤ 1000000) (h' : ¬ (0 < k ∧ R.gr k ≤ R.gr (k - 1))) : badGrade R k = 0 := by rw [badGrade, if_pos h, if_neg h']
theorem badGrade_rng {R : Rule} {k : Nat} (h : badGrade R k = 0) : 1 ≤ R.gr k ∧ R.gr k ≤ 1000000 := by
  rw [badGrade] at h; split at h
  · assumption
  · cases h
theorem gr0 (R : Rule) : R.gr 0 = R.g0 := rfl
theorem gr1 (R : Rule) : R.gr 1 = R.g1 := rfl
theorem gr2 (R : Rule) : R.gr 2 = R.g2 := rfl
def Part3 (R : Rule) : Prop := (curve R.heat (-300) 600).2 = 0 ∧ (curve R.wet 0 1000).2 = 0 ∧ (0 ≤ R.own ∧ R.own ≤ 100000) ∧ (0 ≤ R.feed ∧ R.feed ≤ 999999)
theorem check_1 {R : Rule} {i : Nat} {e : Int} (h : curve R.heat (-300) 600 = (i, e)) (he : e ≠ 0) : check R = (1, (i : Int), e) := by
  rw [check, h]; simp only [ne_eq, he, not_false_eq_true, if_true]
theorem check_2 {R : Rule} {i j : Nat} {e : Int} (h : curve R.heat (-300) 600 = (i, 0)) (h2 : curve R.wet 0 1000 = (j, e)) (he : e ≠ 0) : check R = (2, (j : Int), e) := by
  rw [check, h, h2]; simp only [ne_eq, he, not_true_eq_false, if_false, not_false_eq_true, if_true]
theorem check_3 {R : Rule} {i j : Nat} (h : curve R.heat (-300) 600 = (i, 0)) (h2 : curve R.wet 0 1000 = (j, 0)) (h3 : ¬ ((0 ≤ R.own ∧ R.own ≤ 100000) ∧ (0 ≤ R.feed ∧ R.feed ≤ 999999))) : check R = (3, 0, 7) := by
  rw [check, h, h2]; simp only [ne_eq, not_true_eq_false, if_false, h3, not_false_eq_true, if_true]
theorem check_4 {R : Rule} {k : Nat} {e : Int} (h : Part3 R) (hb : ∀ j, j < k → badGrade R j = 0) (hk : k < 3) (he : badGrade R k = e) (h0 : e ≠ 0) : check R = (4, (k : Int), e) := by
  obtain ⟨p1, p2, p3⟩ := h
  have p3' : ¬ ¬ ((0 ≤ R.own ∧ R.own ≤ 100000) ∧ (0 ≤ R.feed ∧ R.feed ≤ 999999)) := fun h => h p3
  rw [check, if_neg (fun h => h p1), if_neg (fun h => h p2), if_neg p3', firstBad_some (badGrade R) 3 k hb hk (by rw [he]; exact h0), he, if_pos h0]
theorem check_5 {R : Rule} (h : Part3 R) (hb : ∀ j, j < 3 → badGrade R j = 0) : check R = if ¬ (1 ≤ R.lost ∧ R.lost ≤ 1000000) then (5, 0, 7) else (0, 0, 0) := by
  obtain ⟨p1, p2, p3⟩ := h
  have p3' : ¬ ¬ ((0 ≤ R.own ∧ R.own ≤ 100000) ∧ (0 ≤ R.feed ∧ R.feed ≤ 999999)) := fun h => h p3
  rw [check, if_neg (fun h => h p1), if_neg (fun h => h p2), if_neg p3', firstBad_none (badGrade R) 3 hb, if_neg (fun h => h rfl)]
def climateE (d : Day) : Int :=
  if (((-300 ≤ d.tlo ∧ d.tlo ≤ 600) ∧ (-300 ≤ d.thi ∧ d.thi ≤ 600)) ∧ (0 ≤ d.dlo ∧ d.dlo ≤ 1000)) ∧ (0 ≤ d.dhi ∧ d.dhi ≤ 1000) then
    (if d.thi < d.tlo ∨ d.dhi < d.dlo then 2 else 0) else 7
def levelsE (lo hi : Int) : Int :=
  if (0 ≤ lo ∧ lo ≤ 1000000) ∧ (0 ≤ hi ∧ hi ≤ 1000000) then (if hi < lo then 2 else 0) else 7
def badTest (T : Task) (i : Nat) : Int :=
  if ((T.first ≤ (testD T.tests i).day ∧ (testD T.tests i).day ≤ T.first + T.days.length) ∧ (0 ≤ (testD T.tests i).grade ∧ (testD T.tests i).grade ≤ 3)) ∧ (0 ≤ (testD T.tests i).err ∧ (testD T.tests i).err ≤ 3) then 0 else 7
def badDay (T : Task) (i : Nat) : Int := climateE (dayD T.days i)
def checkTask (T : Task) : Int × Int × Int :=
  if (check T.rule).2.2 ≠ 0 then (1, 0, (check T.rule).2.2)
  else if 400 < T.days.length ∨ 20 < T.tests.length then (2, 0, 3)
  else if ¬ ((0 ≤ T.first ∧ T.first ≤ 80000) ∧ T.first + T.days.length ≤ 80000) then (2, 0, 7)
  else if (firstBad (badDay T) 0 T.days.length).2 ≠ 0 then (3, (firstBad (badDay T) 0 T.days.length).1, (firstBad (badDay T) 0 T.days.length).2)
  else if levelsE T.start.lo T.start.hi ≠ 0 then (4, 0, levelsE T.start.lo T.start.hi)
  else if (firstBad (badTest T) 0 T.tests.length).2 ≠ 0 then (5, (firstBad (badTest T) 0 T.tests.length).1, (firstBad (badTest T) 0 T.tests.length).2)
  else (0, 0, 0)
theorem checkTask_1 {T : Task} {e : Int} (h : (check T.rule).2.2 = e) (he : e ≠ 0) : checkTask T = (1, 0, e) := by
  rw [checkTask, h, if_pos he]
theorem checkTask_2 {T : Task} (h : (check T.rule).2.2 = 0) (h2 : 400 < T.days.length ∨ 20 < T.tests.length) : checkTask T = (2, 0, 3) := by
  rw [checkTask, if_neg (fun x => x h), if_pos h2]
theorem checkTask_3 {T : Task} (h : (check T.rule).2.2 = 0) (h2 : ¬ (400 < T.days.length ∨ 20 < T.tests.length)) (h3 : ¬ ((0 ≤ T.first ∧ T.first ≤ 80000) ∧ T.first + T.days.length ≤ 80000)) : checkTask T = (2, 0, 7) := by
  rw [checkTask, if_neg (fun x => x h), if_neg h2, if_pos h3]
structure Task3 (T : Task) : Prop where
  rule : (check T.rule).2.2 = 0
  long : ¬ (400 < T.days.length ∨ 20 < T.tests.length)
  first : (0 ≤ T.first ∧ T.first ≤ 80000) ∧ T.first + T.days.length ≤ 80000
theorem checkTask_4 {T : Task} {k : Nat} {e : Int} (h : Task3 T) (hb : ∀ j, j < k → badDay T j = 0) (hk : k < T.days.length) (he : badDay T k = e) (h0 : e ≠ 0) : checkTask T = (3, (k : Int), e) := by
  rw [checkTask, if_neg (fun x => x h.rule), if_neg h.long, if_neg (fun x => x h.first), firstBad_some (badDay T) T.days.length k hb hk (by rw [he]; exact h0), he, if_pos h0]
theorem checkTask_5 {T : Task} {e : Int} (h : Task3 T) (hb : ∀ j, j < T.days.length → badDay T j = 0) (he : levelsE T.start.lo T.start.hi = e) (h0 : e ≠ 0) : checkTask T = (4, 0, e) := by
  rw [checkTask, if_neg (fun x => x h.rule), if_neg h.long, if_neg (fun x => x h.first), firstBad_none (badDay T) _ hb, if_neg (fun x => x rfl), he, if_pos h0]
theorem checkTask_6 {T : Task} {k : Nat} {e : Int} (h : Task3 T) (hd : ∀ j, j < T.days.length → badDay T j = 0) (hl : levelsE T.start.lo T.start.hi = 0) (hb : ∀ j, j < k → badTest T j = 0) (hk : k < T.tests.length) (he : badTest T k = e) (h0 : e ≠ 0) : checkTask T = (5, (k : Int), e) := by
  rw [checkTask, if_neg (fun x => x h.rule), if_neg h.long, if_neg (fun x => x h.first), firstBad_none (badDay T) _ hd, if_neg (fun x => x rfl), if_neg (fun x => x hl), firstBad_some (badTest T) T.tests.length k hb hk (by rw [he]; exact h0), he, if_pos h0]
theorem checkTask_7 {T : Task} (h : Task3 T) (hd : ∀ j, j < T.days.length → badDay T j = 0) (hl : levelsE T.start.lo T.start.hi = 0) (hb : ∀ j, j < T.tests.length → badTest T j = 0) : checkTask T = (0, 0, 0) := by
  rw [checkTask, if_neg (fun x => x h.rule), if_neg h.long, if_neg (fun x => x h.first), firstBad_none (badDay T) _ hd, if_neg (fun x => x rfl), if_neg (fun x => x hl), firstBad_none (badTest T) _ hb, if_neg (fun x => x rfl)]
theorem badTest_0 {T : Task} {i : Nat} (h1 : T.first ≤ (testD T.tests i).day ∧ (testD T.tests i).day ≤ T.first + T.days.length) (h2 : (0 ≤ (testD T.tests i).grade ∧ (testD T.tests i).grade ≤ 3) ∧ (0 ≤ (testD T.tests i).err ∧ (testD T.tests i).err ≤ 3)) : badTest T i = 0 := by
  rw [badTest, if_pos ⟨⟨h1, h2.1⟩, h2.2⟩]
theorem badTest_7 {T : Task} {i : Nat} (h : ¬ (((T.first ≤ (testD T.tests i).day ∧ (testD T.tests i).day ≤ T.first + T.days.length) ∧ (0 ≤ (testD T.tests i).grade ∧ (testD T.tests i).grade ≤ 3)) ∧ (0 ≤ (testD T.tests i).err ∧ (testD T.tests i).err ≤ 3))) : badTest T i = 7 := by
  rw [badTest, if_neg h]
def interp (a b : Pt) (n : Int) : Int := a.fac + (b.fac - a.fac) * (n - a.at_) / (b.at_ - a.at_)
/-- The first point at or behind a number. -/
def ge (l : List Pt) (n : Int) : Nat := l.findIdx fun p => decide (n ≤ p.at_)
def factor (l : List Pt) (n : Int) : Int :=
  if ge l n = 0 then (ptD l 0).fac
  else if ge l n = l.length then (ptD l (l.length - 1)).fac
  else interp (ptD l (ge l n - 1)) (ptD l (ge l n)) n
def strength (R : Rule) (d : Day) : Span :=
  ⟨factor R.heat d.tlo * factor R.wet d.dlo / 1000, factor R.heat d.thi * factor R.wet d.dhi / 1000⟩
def least (R : Rule) (s : Span) (n : Int) : Int := min 1000000 (n + (R.own * 1000000 + n * R.feed) * s.lo / 1000000000)
def most (R : Rule) (s : Span) (n : Int) : Int := min 1000000 (n + ((R.own * 1000000 + n * R.feed) * s.hi + 999999999) / 1000000000)
def grow (R : Rule) (s : Span) (n : Span) : Span := ⟨least R s n.lo, most R s n.hi⟩
def b1 (p : Prop) [Decidable p] : Int := if p then 1 else 0
def grade (R : Rule) (n : Int) : Int := b1 (R.g0 ≤ n) + b1 (R.g1 ≤ n) + b1 (R.g2 ≤ n)
def keep (R : Rule) (x : Test) : Span :=
  ⟨if x.grade - x.err ≤ 0 then 0 else R.gr (x.grade - x.err - 1).toNat, if 3 ≤ x.grade + x.err then 1000000 else R.gr (x.grade + x.err).toNat - 1⟩
def both (a b : Span) : Span := ⟨max a.lo b.lo, min a.hi b.hi⟩
def forces (T : Task) : List Span := T.days.map (strength T.rule)
/-- The levels on a morning that follow from those on an earlier one. -/
def onF (R : Rule) (F : List Span) (n : Span) (i : Nat) : Nat → Span
  | 0 => n
  | k + 1 => grow R (spanD F (i + k)) (onF R F n i k)
def on (R : Rule) (F : List Span) (n : Span) (i j : Nat) : Span := onF R F n i (j - i)
end Go.Proofs.Ytfjbgcaogffiaaa.D
namespace Go.Proofs.Ytfjbgcaogffiaaa.D
structure CurveOk (lo hi : Int) (l : List Pt) : Prop where
  len : 2 ≤ l.length ∧ l.length ≤ 8
  pts : ∀ j, j < l.length → badPt lo hi l j = 0
theorem firstBad_zero {bad : Nat → Int} : ∀ {n i : Nat}, (firstBad bad i n).2 = 0 → ∀ j, i ≤ j → j < i + n → bad j = 0
  | 0, i, _, j, h1, h2 => by omega
  | n + 1, i, h, j, h1, h2 => by
    rw [firstBad] at h
    split at h
    · rename_i hb
      rcases Nat.eq_or_lt_of_le h1 with rfl | h3
      · exact hb
      · exact firstBad_zero h j (by omega) (by omega)
    · rename_i hb; exact absurd h hb
theorem curveOk_of {lo hi : Int} {l : List Pt} (h : (curve l lo hi).2 = 0) : CurveOk lo hi l := by
  rw [curve] at h
  split at h
  · rename_i hl
    exact ⟨hl, fun j hj => firstBad_zero h j (by omega) (by omega)⟩
  · cases h
theorem CurveOk.rng {lo hi : Int} {l : List Pt} (h : CurveOk lo hi l) {k : Nat} (hk : k < l.length) : (lo ≤ (ptD l k).at_ ∧ (ptD l k).at_ ≤ hi) ∧ (0 ≤ (ptD l k).fac ∧ (ptD l k).fac ≤ 1000) := badPt_rng (h.pts k hk)
theorem CurveOk.step {lo hi : Int} {l : List Pt} (h : CurveOk lo hi l) {k : Nat} (hk : k + 1 < l.length) : (ptD l k).at_ < (ptD l (k + 1)).at_ ∧ (ptD l k).fac ≤ (ptD l (k + 1)).fac := by
  have := h.pts (k + 1) hk
  rw [badPt] at this
  split at this
  · split at this
    · cases this
    · rename_i h1; simp only [Nat.add_sub_cancel] at h1; omega
  · cases this
theorem CurveOk.mono {lo hi : Int} {l : List Pt} (h : CurveOk lo hi l) {i : Nat} : ∀ {d : Nat}, i + d < l.length → (ptD l i).at_ ≤ (ptD l (i + d)).at_ ∧ (ptD l i).fac ≤ (ptD l (i + d)).fac
  | 0, _ => ⟨Int.le_refl _, Int.le_refl _⟩
  | d + 1, hd => by
    have h1 := h.mono (i := i) (d := d) (by omega)
    have h2 := h.step (k := i + d) (by omega)
    rw [← Nat.add_assoc]
    omega
theorem ptD_eq {l : List Pt} {i : Nat} (h : i < l.length) : ptD l i = l[i] := by
  rw [ptD, List.getD_eq_getElem?_getD, List.getElem?_eq_getElem h]; rfl
theorem ge_le (l : List Pt) (n : Int) : ge l n ≤ l.length := List.findIdx_le_length
theorem ge_before {l : List Pt} {n : Int} {i : Nat} (h : i < ge l n) : ¬ n ≤ (ptD l i).at_ := by
  have hl : i < l.length := Nat.lt_of_lt_of_le h (ge_le l n)
  have := List.not_of_lt_findIdx h
  rw [ptD_eq hl]
  simpa using this
theorem ge_at {l : List Pt} {n : Int} (h : ge l n < l.length) : n ≤ (ptD l (ge l n)).at_ := by
  have := List.findIdx_getElem (w := h)
  rw [ptD_eq h]
  exact of_decide_eq_true this
theorem ge_behind {lo hi : Int} {l : List Pt} {n : Int} (h : CurveOk lo hi l) {i : Nat} (h1 : ge l n ≤ i) (h2 : i < l.length) : n ≤ (ptD l i).at_ := by
  have := ge_at (l := l) (n := n) (by omega)
  have h3 := (h.mono (i := ge l n) (d := i - ge l n) (by omega)).1
  rw [show ge l n + (i - ge l n) = i by omega] at h3
  omega
end Go.Proofs.Ytfjbgcaogffiaaa.D
namespace Go.Proofs.Ytfjbgcaogffiaaa.D
/-! Insertion. -/
def insAt (l : List Nat) (k : Nat) (x : Nat) : List Nat := l.take k ++ x :: l.drop k
def slide (d : Nat → Int) (l : List Nat) (x : Nat) : Nat → Nat
  | 0 => 0
  | k + 1 => if d x < d (l.getD k 0) then slide d l x k else k + 1
def ins (d : Nat → Int) (l : List Nat) (x : Nat) : List Nat := insAt l (slide d l x l.length) x
def insSort (d : Nat → Int) : Nat → List Nat
  | 0 => []
  | n + 1 => ins d (insSort d n) n
theorem insAt_len (l : List Nat) {k : Nat} (x : Nat) (hk : k ≤ l.length) : (insAt l k x).length = l.length + 1 := by simp [insAt]; omega
theorem slide_le (d : Nat → Int) (l : List Nat) (x : Nat) : ∀ k, slide d l x k ≤ k
  | 0 => Nat.le_refl _
  | k + 1 => by rw [slide]; split; exact Nat.le_succ_of_le (slide_le d l x k); exact Nat.le_refl _
theorem insSort_len (d : Nat → Int) : ∀ n, (insSort d n).length = n
  | 0 => rfl
  | n + 1 => by rw [insSort, ins, insAt_len _ _ (slide_le _ _ _ _), insSort_len d n]
theorem insAt_mem {l : List Nat} {k x y : Nat} (h : y ∈ insAt l k x) : y = x ∨ y ∈ l := by
  rw [insAt, List.mem_append, List.mem_cons] at h
  rcases h with h | h | h
  · exact .inr (List.mem_of_mem_take h)
  · exact .inl h
  · exact .inr (List.mem_of_mem_drop h)
theorem insSort_mem {d : Nat → Int} : ∀ {n y : Nat}, y ∈ insSort d n → y < n
  | n + 1, y, h => by
    rw [insSort, ins] at h
    rcases insAt_mem h with rfl | h
    · omega
    · have := insSort_mem h; omega
theorem insSort_lt {d : Nat → Int} {n j : Nat} (h : j < n) : (insSort d n).getD j 0 < n := by
  have hj : j < (insSort d n).length := by rw [insSort_len]; exact h
  rw [List.getD_eq_getElem?_getD, List.getElem?_eq_getElem hj]
  exact insSort_mem (List.getElem_mem hj)
theorem slide_split (d : Nat → Int) (A B : List Nat) (x : Nat) (hA : ∀ y ∈ A, ¬ d x < d y) (hB : ∀ y ∈ B, d x < d y) : ∀ k, k ≤ B.length → slide d (A ++ B) x (A.length + k) = A.length
  | 0, _ => by
    cases hl : A.length with
    | zero => rfl
    | succ m =>
      rw [Nat.add_zero, slide, if_neg]
      have hm : m < A.length := by omega
      rw [List.getD_eq_getElem?_getD, List.getElem?_append_left hm, List.getElem?_eq_getElem hm]
      exact hA _ (List.getElem_mem _)
  | k + 1, hk => by
    rw [← Nat.add_assoc, slide, if_pos]
    · exact slide_split d A B x hA hB k (by omega)
    · have hm : k < B.length := by omega
      rw [List.getD_eq_getElem?_getD, List.getElem?_append_right (by omega), show A.length + k - A.length = k by omega, List.getElem?_eq_getElem hm]
      exact hB _ (List.getElem_mem _)
theorem ins_split (d : Nat → Int) (A B : List Nat) (x : Nat) (hA : ∀ y ∈ A, ¬ d x < d y) (hB : ∀ y ∈ B, d x < d y) : ins d (A ++ B) x = A ++ x :: B := by
  rw [ins, List.length_append, slide_split d A B x hA hB _ (Nat.le_refl _), insAt, List.take_left, List.drop_left]
/-- The numbers below m of one class, in order. -/
def cls (d : Nat → Int) (v : Int) (m : Nat) : List Nat := (List.range m).filter fun j => decide (d j = v)
theorem cls_mem {d : Nat → Int} {v : Int} {m j : Nat} : j ∈ cls d v m ↔ j < m ∧ d j = v := by simp [cls]
theorem cls_succ (d : Nat → Int) (v : Int) (m : Nat) : cls d v (m + 1) = cls d v m ++ (if d m = v then [m] else []) := by
  rw [cls, List.range_succ, List.filter_append]; congr 1; by_cases h : d m = v <;> simp [h]
def byDay (d : Nat → Int) (first : Int) (m : Nat) : Nat → List Nat
  | 0 => []
  | n + 1 => byDay d first m n ++ cls d (first + n) m
theorem byDay_mem {d : Nat → Int} {first : Int} {m : Nat} : ∀ {n j : Nat}, j ∈ byDay d first m n → j < m ∧ first ≤ d j ∧ d j < first + n
  | n + 1, j, h => by
    rw [byDay, List.mem_append] at h
    rcases h with h | h
    · have := byDay_mem h; omega
    · have := cls_mem.1 h; omega
theorem byDay_same {d : Nat → Int} {first : Int} {m : Nat} : ∀ {n : Nat}, first + n ≤ d m → byDay d first (m + 1) n = byDay d first m n
  | 0, _ => rfl
  | n + 1, h => by rw [byDay, byDay, byDay_same (by omega), cls_succ, if_neg (by omega), List.append_nil]
theorem insSort_byDay (d : Nat → Int) (first : Int) (n : Nat) : ∀ m, (∀ j, j < m → first ≤ d j ∧ d j < first + n) → insSort d m = byDay d first m n
  | 0, _ => by
    have : ∀ n, byDay d first 0 n = [] := fun n => by induction n with | zero => rfl | succ n ih => rw [byDay, ih]; rfl
    rw [this]; rfl
  | m + 1, h => by
    rw [insSort, insSort_byDay d first n m (fun j hj => h j (by omega))]
    have hm := h m (by omega)
    have key : ∀ n : Nat, first ≤ d m → d m < first + n → ∃ A B, byDay d first m n = A ++ B ∧ byDay d first (m + 1) n = A ++ m :: B ∧ (∀ y ∈ A, ¬ d m < d y) ∧ (∀ y ∈ B, d m < d y) := by
      intro n
      induction n with
      | zero => intro h1 h2; omega
      | succ n ih =>
        intro h1 h2
        by_cases he : d m = first + n
        · refine ⟨byDay d first m (n + 1), [], by simp, ?_, fun y hy => ?_, fun y hy => by cases hy⟩
          · rw [byDay, byDay, byDay_same (by omega), cls_succ, if_pos he, List.append_assoc]
          · have := byDay_mem hy; omega
        · obtain ⟨A, B, e1, e2, hA, hB⟩ := ih h1 (by omega)
          refine ⟨A, B ++ cls d (first + n) m, ?_, ?_, hA, fun y hy => ?_⟩
          · rw [byDay, e1, List.append_assoc]
          · rw [byDay, e2, cls_succ, if_neg he, List.append_nil, List.append_assoc, List.cons_append]
          · rcases List.mem_append.1 hy with hy | hy
            · exact hB y hy
            · have := cls_mem.1 hy; omega
    obtain ⟨A, B, e1, e2, hA, hB⟩ := key n hm.1 hm.2
    rw [e1, e2, ins_split d A B m hA hB]
/-! What is known. -/
def dayD' (T : Task) (j : Nat) : Int := (testD T.tests j).day
def dayTests (T : Task) (i : Nat) : List Nat := cls (dayD' T) (T.first + i) T.tests.length
def orderT (T : Task) : List Nat := insSort (dayD' T) T.tests.length
structure Mst where
  now : Span
  good : List Nat
  struck : List Strike
def bad (s : Span) : Bool := decide (s.hi < s.lo)
def kp (T : Task) (j : Nat) : Span := keep T.rule (testD T.tests j)
/-- The morning of a test. -/
def mo (T : Task) (j : Nat) : Nat := (dayD' T j - T.first).toNat
/-- What follows on morning i from a test that is kept. -/
def aheadT (T : Task) (j i : Nat) : Span := on T.rule (forces T) (kp T j) (mo T j) i
def byOf (T : Task) (good : List Nat) (i : Nat) (w : Span) : Int :=
  match good.reverse.find? (fun k => bad (both (aheadT T k i) w)) with
  | some k => (k : Int)
  | none => -1
def tstep (T : Task) (i : Nat) (s : Mst) (j : Nat) : Mst :=
  if bad (both s.now (kp T j)) then { s with struck := s.struck ++ [⟨(j : Int), byOf T s.good i (kp T j)⟩] } else ⟨both s.now (kp T j), s.good ++ [j], s.struck⟩
def grown (T : Task) (i : Nat) (s : Mst) : Mst := { s with now := grow T.rule (spanD (forces T) i) s.now }
/-- The state on a morning, aheadT of its tests. -/
def dawn (T : Task) : Nat → Mst
  | 0 => ⟨T.start, [], []⟩
  | i + 1 => grown T i ((dayTests T i).foldl (tstep T i) (dawn T i))
def dusk (T : Task) (i : Nat) : Mst := (dayTests T i).foldl (tstep T i) (dawn T i)
theorem dawn_succ (T : Task) (i : Nat) : dawn T (i + 1) = grown T i (dusk T i) := rfl
def fwd (T : Task) (i : Nat) : Span := (dusk T i).now
def struckT (T : Task) : List Strike := (dusk T T.days.length).struck
def goodT (T : Task) : List Nat := (dusk T T.days.length).good
/-- The first number from lo on, at most n steps, that is one. -/
def upTo (p : Int → Bool) (lo : Int) : Nat → Int
  | 0 => lo
  | n + 1 => if p lo then lo else upTo p (lo + 1) n
def dnTo (p : Int → Bool) (hi : Int) : Nat → Int
  | 0 => hi
  | n + 1 => if p hi then hi else dnTo p (hi - 1) n
def back (R : Rule) (s a b : Span) : Span := ⟨upTo (fun x => decide (b.lo ≤ most R s x)) a.lo (a.hi - a.lo + 1).toNat, dnTo (fun x => decide (least R s x ≤ b.hi)) a.hi (a.hi - a.lo + 1).toNat⟩
/-- The levels on the morning that is d mornings aheadT of the last one. -/
def bwd (T : Task) : Nat → Span
  | 0 => fwd T T.days.length
  | d + 1 => back T.rule (spanD (forces T) (T.days.length - d - 1)) (fwd T (T.days.length - d - 1)) (bwd T d)
def lv (T : Task) (i : Nat) : Span := bwd T (T.days.length - i)
def levelsT (T : Task) : List Span := (List.range (T.days.length + 1)).map (lv T)
theorem lv_last (T : Task) : lv T T.days.length = fwd T T.days.length := by rw [lv, Nat.sub_self]; rfl
theorem lv_back (T : Task) {i : Nat} (h : i < T.days.length) : lv T i = back T.rule (spanD (forces T) i) (fwd T i) (lv T (i + 1)) := by
  rw [lv, show T.days.length - i = (T.days.length - (i + 1)) + 1 by omega, bwd, show T.days.length - (T.days.length - (i + 1)) - 1 = i by omega]
  rfl
end Go.Proofs.Ytfjbgcaogffiaaa.D
namespace Go.Proofs.Ytfjbgcaogffiaaa.D
structure Rst where
  now : Span
  at_ : Nat
  good : List Nat
  struck : List Strike
def rstep (T : Task) (s : Rst) (j : Nat) : Rst :=
  if bad (both (on T.rule (forces T) s.now s.at_ (mo T j)) (kp T j)) then ⟨on T.rule (forces T) s.now s.at_ (mo T j), mo T j, s.good, s.struck ++ [⟨(j : Int), byOf T s.good (mo T j) (kp T j)⟩]⟩
  else ⟨both (on T.rule (forces T) s.now s.at_ (mo T j)) (kp T j), mo T j, s.good ++ [j], s.struck⟩
def rfold (T : Task) (n : Nat) : Rst := ((orderT T).take n).foldl (rstep T) ⟨T.start, 0, [], []⟩
theorem rfold_succ (T : Task) {n : Nat} (h : n < (orderT T).length) : rfold T (n + 1) = rstep T (rfold T n) ((orderT T).getD n 0) := by
  rw [rfold, List.take_succ_eq_append_getElem h, List.foldl_append, List.getD_eq_getElem?_getD, List.getElem?_eq_getElem h]; rfl
theorem on_self (R : Rule) (F : List Span) (n : Span) (i : Nat) : on R F n i i = n := by rw [on, Nat.sub_self]; rfl
theorem on_succ (R : Rule) (F : List Span) (n : Span) {i j : Nat} (h : i ≤ j) : on R F n i (j + 1) = grow R (spanD F j) (on R F n i j) := by
  rw [on, show j + 1 - i = (j - i) + 1 by omega, onF, show i + (j - i) = j by omega]; rfl
/-- The days are those of the task. -/
def Days (T : Task) : Prop := ∀ j, j < T.tests.length → T.first ≤ dayD' T j ∧ dayD' T j < T.first + ((T.days.length + 1 : Nat) : Int)
theorem order_byDay {T : Task} (h : Days T) : orderT T = byDay (dayD' T) T.first T.tests.length (T.days.length + 1) := insSort_byDay _ _ _ _ h
theorem mo_of {T : Task} {i j : Nat} (h : j ∈ dayTests T i) : mo T j = i ∧ j < T.tests.length := by
  have := cls_mem.1 h
  refine ⟨?_, this.1⟩
  rw [mo, this.2]; omega
theorem fold_day (T : Task) (i : Nat) : ∀ (l : List Nat), (∀ j ∈ l, mo T j = i) → ∀ (s : Rst) (m : Mst), s.good = m.good → s.struck = m.struck → s.at_ ≤ i → on T.rule (forces T) s.now s.at_ i = m.now →
    ∃ s', s' = l.foldl (rstep T) s ∧ s'.good = (l.foldl (tstep T i) m).good ∧ s'.struck = (l.foldl (tstep T i) m).struck ∧ s'.at_ ≤ i ∧ on T.rule (forces T) s'.now s'.at_ i = (l.foldl (tstep T i) m).now
  | [], _, s, m, h1, h2, h3, h4 => ⟨s, rfl, h1, h2, h3, h4⟩
  | j :: l, hl, s, m, h1, h2, h3, h4 => by
    have hj := hl j List.mem_cons_self
    have hs : (rstep T s j).good = (tstep T i m j).good ∧ (rstep T s j).struck = (tstep T i m j).struck ∧ (rstep T s j).at_ ≤ i ∧ on T.rule (forces T) (rstep T s j).now (rstep T s j).at_ i = (tstep T i m j).now := by
      rw [rstep, tstep, hj, h4, h1, h2]
      by_cases hb : bad (both m.now (kp T j)) = true
      · rw [if_pos hb, if_pos hb]; exact ⟨rfl, rfl, Nat.le_refl _, on_self _ _ _ _⟩
      · rw [if_neg hb, if_neg hb]; exact ⟨rfl, rfl, Nat.le_refl _, on_self _ _ _ _⟩
    obtain ⟨k1, k2, k3, k4⟩ := hs
    obtain ⟨s', e, r⟩ := fold_day T i l (fun j hj => hl j (List.mem_cons_of_mem _ hj)) (rstep T s j) (tstep T i m j) k1 k2 k3 k4
    exact ⟨s', by rw [List.foldl_cons]; exact e, by rw [List.foldl_cons]; exact r⟩
theorem fold_days (T : Task) : ∀ n, ∃ s, s = (byDay (dayD' T) T.first T.tests.length (n + 1)).foldl (rstep T) ⟨T.start, 0, [], []⟩ ∧ s.good = (dusk T n).good ∧ s.struck = (dusk T n).struck ∧ s.at_ ≤ n ∧ on T.rule (forces T) s.now s.at_ n = (dusk T n).now
  | 0 => by
    rw [byDay, byDay, List.nil_append]
    exact fold_day T 0 (dayTests T 0) (fun j hj => (mo_of hj).1) _ (dawn T 0) rfl rfl (Nat.le_refl _) (on_self _ _ _ _)
  | n + 1 => by
    obtain ⟨s, e, h1, h2, h3, h4⟩ := fold_days T n
    rw [byDay, List.foldl_append, ← e]
    exact fold_day T (n + 1) (dayTests T (n + 1)) (fun j hj => (mo_of hj).1) s (dawn T (n + 1)) h1 h2 (by omega) (by rw [on_succ _ _ _ h3, h4]; rfl)
theorem rfold_end {T : Task} (h : Days T) : (rfold T T.tests.length).good = goodT T ∧ (rfold T T.tests.length).struck = struckT T := by
  obtain ⟨s, e, h1, h2, _⟩ := fold_days T T.days.length
  have hl : (orderT T).length = T.tests.length := insSort_len _ _
  rw [← order_byDay h] at e
  rw [rfold, ← hl, List.take_length, ← e]
  exact ⟨h1, h2⟩
theorem byOf_snoc (T : Task) (l : List Nat) (k i : Nat) (w : Span) : byOf T (l ++ [k]) i w = if bad (both (aheadT T k i) w) then (k : Int) else byOf T l i w := by
  simp only [byOf, List.reverse_append, List.reverse_cons, List.reverse_nil, List.nil_append, List.cons_append, List.find?_cons]
  cases bad (both (aheadT T k i) w) <;> rfl
theorem byDay_sorted {d : Nat → Int} {first : Int} {m : Nat} : ∀ n, (byDay d first m n).Pairwise fun x y => d x ≤ d y
  | 0 => List.Pairwise.nil
  | n + 1 => by
    rw [byDay, List.pairwise_append]
    refine ⟨byDay_sorted n, ?_, fun x hx y hy => ?_⟩
    · refine List.Pairwise.imp_of_mem (R := fun _ _ => True) (fun {x y} hx hy _ => ?_) (List.pairwise_of_forall fun _ _ => trivial)
      have := cls_mem.1 hx; have := cls_mem.1 hy; omega
    · have := byDay_mem hx; have := cls_mem.1 hy; omega
theorem order_len (T : Task) : (orderT T).length = T.tests.length := insSort_len _ _
theorem order_lt {T : Task} {n : Nat} (h : n < T.tests.length) : (orderT T).getD n 0 < T.tests.length := insSort_lt h
theorem order_le {T : Task} (h : Days T) {i n : Nat} (hi : i ≤ n) (hn : n < T.tests.length) : dayD' T ((orderT T).getD i 0) ≤ dayD' T ((orderT T).getD n 0) := by
  have hs := byDay_sorted (d := dayD' T) (first := T.first) (m := T.tests.length) (T.days.length + 1)
  rw [← order_byDay h] at hs
  have hl := order_len T
  rcases Nat.eq_or_lt_of_le hi with rfl | hlt
  · exact Int.le_refl _
  · have := List.pairwise_iff_getElem.1 hs i n (by omega) (by omega) hlt
    simp only [List.getD_eq_getElem?_getD]
    rw [List.getElem?_eq_getElem (by omega : i < (orderT T).length), List.getElem?_eq_getElem (by omega : n < (orderT T).length)]
    exact this
structure RInv (T : Task) (n : Nat) : Prop where
  good : ∀ j ∈ (rfold T n).good, ∃ i, i < n ∧ j = (orderT T).getD i 0
  glen : (rfold T n).good.length ≤ n
  slen : (rfold T n).struck.length ≤ n
  at_ : (rfold T n).at_ = 0 ∨ ∃ i, i < n ∧ (rfold T n).at_ = mo T ((orderT T).getD i 0)
theorem rinv {T : Task} : ∀ {n : Nat}, n ≤ T.tests.length → RInv T n
  | 0, _ => ⟨fun j hj => (by cases hj), Nat.le_refl _, Nat.le_refl _, .inl rfl⟩
  | n + 1, hn => by
    have ih := rinv (T := T) (n := n) (by omega)
    have hs := rfold_succ T (n := n) (by rw [order_len]; omega)
    obtain ⟨i1, i2, i3, i4⟩ := ih
    have e1 : (rfold T (n + 1)).at_ = mo T ((orderT T).getD n 0) := by rw [hs, rstep]; split <;> rfl
    refine ⟨fun j hj => ?_, ?_, ?_, .inr ⟨n, by omega, e1⟩⟩
    · rw [hs, rstep] at hj
      split at hj
      · obtain ⟨i, h1, h2⟩ := i1 j hj; exact ⟨i, by omega, h2⟩
      · rcases List.mem_append.1 hj with hj | hj
        · obtain ⟨i, h1, h2⟩ := i1 j hj; exact ⟨i, by omega, h2⟩
        · exact ⟨n, by omega, by simpa using hj⟩
    · rw [hs, rstep]; split <;> simp <;> omega
    · rw [hs, rstep]; split <;> simp <;> omega
theorem RInv.lt {T : Task} {n : Nat} (h : RInv T n) (hn : n ≤ T.tests.length) {k : Nat} (hk : k < (rfold T n).good.length) : (rfold T n).good.getD k 0 < T.tests.length := by
  rw [List.getD_eq_getElem?_getD, List.getElem?_eq_getElem hk]
  obtain ⟨i, h1, h2⟩ := h.good _ (List.getElem_mem hk)
  show (rfold T n).good[k] < _
  rw [h2]; exact order_lt (by omega)
theorem mo_le {T : Task} (h : Days T) {i n : Nat} (hi : i ≤ n) (hn : n < T.tests.length) : mo T ((orderT T).getD i 0) ≤ mo T ((orderT T).getD n 0) := by
  have := order_le h hi hn
  rw [mo, mo]; omega
theorem RInv.mo_good {T : Task} {n : Nat} (h : RInv T n) (hd : Days T) (hn : n < T.tests.length) {k : Nat} (hk : k < (rfold T n).good.length) : mo T ((rfold T n).good.getD k 0) ≤ mo T ((orderT T).getD n 0) := by
  rw [List.getD_eq_getElem?_getD, List.getElem?_eq_getElem hk]
  obtain ⟨i, h1, h2⟩ := h.good _ (List.getElem_mem hk)
  show D.mo T (rfold T n).good[k] ≤ _
  rw [h2]; exact mo_le hd (by omega) hn
theorem RInv.at_le {T : Task} {n : Nat} (h : RInv T n) (hd : Days T) (hn : n < T.tests.length) : (rfold T n).at_ ≤ mo T ((orderT T).getD n 0) := by
  rcases h.at_ with h | ⟨i, h1, h2⟩
  · omega
  · rw [h2]; exact mo_le hd (by omega) hn
theorem mo_days {T : Task} (h : Days T) {j : Nat} (hj : j < T.tests.length) : mo T j ≤ T.days.length ∧ (mo T j : Int) = dayD' T j - T.first := by
  have := h j hj
  rw [mo]; omega
end Go.Proofs.Ytfjbgcaogffiaaa.D
