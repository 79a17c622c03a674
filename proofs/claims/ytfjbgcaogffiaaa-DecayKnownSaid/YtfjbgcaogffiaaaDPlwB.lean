/-
  Plain: what strikes a test (for the outright laws).
  Plain: courses, and the laws DecayTrue, DecayNever, DecayNamed.
  Plain: the levels by what is kept on each morning; the laws DecayPrefix, DecayFewer, DecayCooler.
-/
import Derived.Test.YtfjbgcaogffiaaaDPlwA
import Derived.Test.YtfjbgcaogffiaaaDLaw1
namespace Go.Proofs.Ytfjbgcaogffiaaa
open D
/-- A test is taken up before place c of morning k. -/
def Bef (T : Task) (k c x : Nat) : Prop := mo T x < k ∨ mo T x = k ∧ x < c
structure StrOk (T : Task) (good : List Nat) (q : Strike) (n : Nat) : Prop where
  test : q.test = (n : Int)
  lt : n < T.tests.length
  new : n ∉ good
  by_ : (q.by_ = -1 ∧ bad (both (on T.rule (forces T) T.start 0 (mo T n)) (kp T n)) = true) ∨ (∃ x, x ∈ good ∧ q.by_ = (x : Int) ∧ x < T.tests.length ∧ Bef T (mo T n) n x ∧ bad (both (aheadT T x (mo T n)) (kp T n)) = true)
structure NInv (T : Task) (k c : Nat) (s : Mst) : Prop where
  good : ∀ x ∈ s.good, x < T.tests.length ∧ Bef T k c x
  struck : ∀ q ∈ s.struck, ∃ n, StrOk T s.good q n ∧ Bef T k c n
  lo : s.now.lo = (on T.rule (forces T) T.start 0 k).lo ∨ ∃ x, x ∈ s.good ∧ s.now.lo = (aheadT T x k).lo
  hi : s.now.hi = (on T.rule (forces T) T.start 0 k).hi ∨ ∃ x, x ∈ s.good ∧ s.now.hi = (aheadT T x k).hi
theorem byOf_cases (T : Task) (L : List Nat) (i : Nat) (w : Span) : (byOf T L i w = -1 ∧ ∀ x ∈ L, bad (both (aheadT T x i) w) = false) ∨ ∃ x, x ∈ L ∧ byOf T L i w = (x : Int) ∧ bad (both (aheadT T x i) w) = true := by
  unfold byOf
  cases h : L.reverse.find? (fun k => bad (both (aheadT T k i) w)) with
  | none =>
    left
    rw [List.find?_eq_none] at h
    refine ⟨rfl, fun x hx => ?_⟩
    have := h x (List.mem_reverse.2 hx)
    simpa using this
  | some x =>
    right
    have hf : (fun k => bad (both (aheadT T k i) w)) x = true := List.find?_some (p := fun k => bad (both (aheadT T k i) w)) h
    exact ⟨x, List.mem_reverse.1 (List.mem_of_find?_eq_some h), rfl, hf⟩
theorem bad_of {s : Span} (h : s.hi < s.lo) : bad s = true := decide_eq_true h
theorem of_bad {s : Span} (h : bad s = true) : s.hi < s.lo := of_decide_eq_true h
theorem bef_le {T : Task} {k c c' x : Nat} (h : c ≤ c') (hb : Bef T k c x) : Bef T k c' x := by unfold Bef at *; omega
theorem strOk_grow {T : Task} {good : List Nat} {q : Strike} {n j : Nat} (h : StrOk T good q n) (hj : n ≠ j) : StrOk T (good ++ [j]) q n := by
  refine ⟨h.test, h.lt, fun hm => ?_, ?_⟩
  · rcases List.mem_append.1 hm with hm | hm
    · exact h.new hm
    · exact hj (by simpa using hm)
  · rcases h.by_ with h | ⟨x, h1, h2⟩
    · exact .inl h
    · exact .inr ⟨x, List.mem_append_left _ h1, h2⟩
theorem tstep_ninv {T : Task} (hk : TaskOk T) {k c j : Nat} {s : Mst} (h : NInv T k c s) (hs : SpOk s.now) (hj : j < T.tests.length) (hm : mo T j = k) (hc : c ≤ j) : NInv T k (j + 1) (tstep T k s j) := by
  have hnb : ¬ Bef T k c j := by unfold Bef; omega
  have hB : ∀ x, Bef T k c x → Bef T k (j + 1) x := fun x hx => bef_le (by omega) hx
  have hBj : Bef T k (j + 1) j := by unfold Bef; omega
  rw [tstep]
  by_cases hb : bad (both s.now (kp T j)) = true
  · rw [if_pos hb]
    refine ⟨fun x hx => ⟨(h.good x hx).1, hB x (h.good x hx).2⟩, fun q hq => ?_, h.lo, h.hi⟩
    rcases List.mem_append.1 hq with hq | hq
    · obtain ⟨n, h1, h2⟩ := h.struck q hq
      exact ⟨n, h1, hB n h2⟩
    · obtain rfl : q = ⟨(j : Int), byOf T s.good k (kp T j)⟩ := by simpa using hq
      refine ⟨j, ⟨rfl, hj, fun hx => hnb (h.good j hx).2, ?_⟩, hBj⟩
      rw [hm]
      rcases byOf_cases T s.good k (kp T j) with ⟨e, ha⟩ | ⟨x, hx, e, ha⟩
      · left
        refine ⟨e, ?_⟩
        have hk1 := (kp_sp hk hj).2
        have hs1 := hs.2
        have hb' := of_bad hb
        simp only [both] at hb'
        rcases (show (kp T j).hi < s.now.lo ∨ s.now.hi < (kp T j).lo by omega) with h1 | h1
        · rcases h.lo with e1 | ⟨x, hx, e1⟩
          · refine bad_of ?_; simp only [both]; omega
          · have := ha x hx
            rw [bad_of (by simp only [both]; omega)] at this; cases this
        · rcases h.hi with e1 | ⟨x, hx, e1⟩
          · refine bad_of ?_; simp only [both]; omega
          · have := ha x hx
            rw [bad_of (by simp only [both]; omega)] at this; cases this
      · right
        refine ⟨x, hx, e, (h.good x hx).1, bef_le hc (h.good x hx).2, ha⟩
  · rw [if_neg hb]
    refine ⟨fun x hx => ?_, fun q hq => ?_, ?_, ?_⟩
    · rcases List.mem_append.1 hx with hx | hx
      · exact ⟨(h.good x hx).1, hB x (h.good x hx).2⟩
      · obtain rfl : x = j := by simpa using hx
        exact ⟨hj, hBj⟩
    · obtain ⟨n, h1, h2⟩ := h.struck q hq
      exact ⟨n, strOk_grow h1 (fun e => hnb (e ▸ h2)), hB n h2⟩
    · have e : aheadT T j k = kp T j := by rw [aheadT, hm, on_self]
      rcases (show max s.now.lo (kp T j).lo = s.now.lo ∨ max s.now.lo (kp T j).lo = (kp T j).lo by omega) with h1 | h1
      · rcases h.lo with e1 | ⟨x, hx, e1⟩
        · left; show max _ _ = _; omega
        · right; exact ⟨x, List.mem_append_left _ hx, by show max _ _ = _; omega⟩
      · right; exact ⟨j, List.mem_append_right _ (by simp), by rw [e]; exact h1⟩
    · have e : aheadT T j k = kp T j := by rw [aheadT, hm, on_self]
      rcases (show min s.now.hi (kp T j).hi = s.now.hi ∨ min s.now.hi (kp T j).hi = (kp T j).hi by omega) with h1 | h1
      · rcases h.hi with e1 | ⟨x, hx, e1⟩
        · left; show min _ _ = _; omega
        · right; exact ⟨x, List.mem_append_left _ hx, by show min _ _ = _; omega⟩
      · right; exact ⟨j, List.mem_append_right _ (by simp), by rw [e]; exact h1⟩
theorem fold_ninv {T : Task} (hk : TaskOk T) {k : Nat} : ∀ (l : List Nat) {c : Nat} {s : Mst}, l.Pairwise (· < ·) → (∀ j ∈ l, j < T.tests.length ∧ mo T j = k ∧ c ≤ j) → NInv T k c s → SpOk s.now → c ≤ T.tests.length → ∃ c', c' ≤ T.tests.length ∧ NInv T k c' (l.foldl (tstep T k) s)
  | [], c, s, _, _, h, _, hc => ⟨c, hc, h⟩
  | j :: l, c, s, hp, hl, h, hs, hc => by
    obtain ⟨h1, h2, h3⟩ := hl j List.mem_cons_self
    rw [List.pairwise_cons] at hp
    have := fold_ninv hk (k := k) l (c := j + 1) (s := tstep T k s j) hp.2 (fun i hi => ⟨(hl i (List.mem_cons_of_mem _ hi)).1, (hl i (List.mem_cons_of_mem _ hi)).2.1, hp.1 i hi⟩) (tstep_ninv hk h hs h1 h2 h3) (step_sp hk h1 hs).1 h1
    exact this
theorem cls_sorted (d : Nat → Int) (v : Int) (m : Nat) : (cls d v m).Pairwise (· < ·) := List.Pairwise.filter _ List.pairwise_lt_range
theorem ahead_succ {T : Task} {x k : Nat} (h : mo T x ≤ k) : aheadT T x (k + 1) = grow T.rule (spanD (forces T) k) (aheadT T x k) := by rw [aheadT, on_succ _ _ _ h]; rfl
theorem grown_ninv {T : Task} {k c : Nat} {s : Mst} (h : NInv T k c s) : NInv T (k + 1) 0 (grown T k s) := by
  have hB : ∀ x, Bef T k c x → Bef T (k + 1) 0 x := fun x hx => by unfold Bef at *; omega
  refine ⟨fun x hx => ⟨(h.good x hx).1, hB x (h.good x hx).2⟩, fun q hq => ?_, ?_, ?_⟩
  · obtain ⟨n, h1, h2⟩ := h.struck q hq
    exact ⟨n, h1, hB n h2⟩
  · rcases h.lo with e1 | ⟨x, hx, e1⟩
    · left; rw [on_succ _ _ _ (Nat.zero_le _)]; show least _ _ _ = least _ _ _; rw [e1]
    · right; refine ⟨x, hx, ?_⟩
      rw [ahead_succ (by have := (h.good x hx).2; unfold Bef at this; omega)]; show least _ _ _ = least _ _ _; rw [e1]
  · rcases h.hi with e1 | ⟨x, hx, e1⟩
    · left; rw [on_succ _ _ _ (Nat.zero_le _)]; show most _ _ _ = most _ _ _; rw [e1]
    · right; refine ⟨x, hx, ?_⟩
      rw [ahead_succ (by have := (h.good x hx).2; unfold Bef at this; omega)]; show most _ _ _ = most _ _ _; rw [e1]
theorem dusk_ninv {T : Task} (hk : TaskOk T) : ∀ {k : Nat}, k ≤ T.days.length → NInv T k 0 (dawn T k) ∧ ∃ c, c ≤ T.tests.length ∧ NInv T k c (dusk T k)
  | 0, _ => by
    have h0 : NInv T 0 0 (dawn T 0) := ⟨fun x hx => (by cases hx), fun q hq => (by cases hq), .inl (by rw [on_self]; rfl), .inl (by rw [on_self]; rfl)⟩
    exact ⟨h0, fold_ninv hk _ (cls_sorted _ _ _) (fun j hj => ⟨(mo_of hj).2, (mo_of hj).1, Nat.zero_le _⟩) h0 (dusk_sp hk (i := 0) (by omega)).1 (Nat.zero_le _)⟩
  | k + 1, hi => by
    obtain ⟨_, c, hc, h1⟩ := dusk_ninv hk (k := k) (by omega)
    have h0 : NInv T (k + 1) 0 (dawn T (k + 1)) := grown_ninv h1
    exact ⟨h0, fold_ninv hk _ (cls_sorted _ _ _) (fun j hj => ⟨(mo_of hj).2, (mo_of hj).1, Nat.zero_le _⟩) h0 (dusk_sp hk hi).1 (Nat.zero_le _)⟩
/-- What a struck test is. -/
theorem struck_ok {T : Task} (hk : TaskOk T) {q : Strike} (hq : q ∈ struckT T) : ∃ n, StrOk T (goodT T) q n := by
  obtain ⟨_, c, hc, h⟩ := dusk_ninv hk (Nat.le_refl T.days.length)
  obtain ⟨n, h1, _⟩ := h.struck q hq
  exact ⟨n, h1⟩
theorem struckB_of {l : List Strike} {n : Int} : struckB l n = true ↔ ∃ q, q ∈ l ∧ q.test = n := by
  rw [struckB, List.any_eq_true]
  constructor
  · rintro ⟨q, h1, h2⟩; exact ⟨q, h1, by simpa using h2⟩
  · rintro ⟨q, h1, h2⟩; exact ⟨q, h1, by simpa using h2⟩
/-- A test that is taken is not struck. -/
theorem good_not_struck {T : Task} (hk : TaskOk T) {x : Nat} (hx : x ∈ goodT T) : struckB (struckT T) (x : Int) = false := by
  cases h : struckB (struckT T) (x : Int) with
  | false => rfl
  | true =>
    obtain ⟨q, h1, h2⟩ := struckB_of.1 h
    obtain ⟨n, h3⟩ := struck_ok hk h1
    have e : n = x := by have := h3.test; omega
    exact absurd hx (e ▸ h3.new)
/-! Each test is taken or struck. -/
theorem fold_has (T : Task) (i : Nat) : ∀ (l : List Nat) (s : Mst), (∀ x, x ∈ s.good → x ∈ (l.foldl (tstep T i) s).good) ∧ (∀ q, q ∈ s.struck → q ∈ (l.foldl (tstep T i) s).struck) ∧ ∀ x, x ∈ l → x ∈ (l.foldl (tstep T i) s).good ∨ ∃ q, q ∈ (l.foldl (tstep T i) s).struck ∧ q.test = (x : Int)
  | [], s => ⟨fun _ h => h, fun _ h => h, fun x h => by cases h⟩
  | j :: l, s => by
    obtain ⟨h1, h2, h3⟩ := fold_has T i l (tstep T i s j)
    rw [List.foldl_cons]
    by_cases hb : bad (both s.now (kp T j)) = true
    · have e : tstep T i s j = { s with struck := s.struck ++ [⟨(j : Int), byOf T s.good i (kp T j)⟩] } := by rw [tstep, if_pos hb]
      refine ⟨fun x hx => h1 x (by rw [e]; exact hx), fun q hq => h2 q (by rw [e]; exact List.mem_append_left _ hq), fun x hx => ?_⟩
      rcases List.mem_cons.1 hx with rfl | hx
      · exact .inr ⟨⟨(x : Int), byOf T s.good i (kp T x)⟩, h2 _ (by rw [e]; exact List.mem_append_right _ (by simp)), rfl⟩
      · exact h3 x hx
    · have e : tstep T i s j = ⟨both s.now (kp T j), s.good ++ [j], s.struck⟩ := by rw [tstep, if_neg hb]
      refine ⟨fun x hx => h1 x (by rw [e]; exact List.mem_append_left _ hx), fun q hq => h2 q (by rw [e]; exact hq), fun x hx => ?_⟩
      rcases List.mem_cons.1 hx with rfl | hx
      · exact .inl (h1 x (by rw [e]; exact List.mem_append_right _ (by simp)))
      · exact h3 x hx
theorem dusk_keeps (T : Task) (i : Nat) : ∀ d, (∀ x, x ∈ (dusk T i).good → x ∈ (dusk T (i + d)).good) ∧ ∀ q, q ∈ (dusk T i).struck → q ∈ (dusk T (i + d)).struck
  | 0 => ⟨fun _ h => h, fun _ h => h⟩
  | d + 1 => by
    obtain ⟨h1, h2⟩ := dusk_keeps T i d
    obtain ⟨f1, f2, _⟩ := fold_has T (i + d + 1) (dayTests T (i + d + 1)) (dawn T (i + d + 1))
    exact ⟨fun x hx => f1 x (h1 x hx), fun q hq => f2 q (h2 q hq)⟩
theorem day_mem {T : Task} (hd : Days T) {j : Nat} (hj : j < T.tests.length) : j ∈ dayTests T (mo T j) := by
  have := mo_days hd hj
  exact cls_mem.2 ⟨hj, by omega⟩
theorem taken_or {T : Task} (hd : Days T) {j : Nat} (hj : j < T.tests.length) : j ∈ goodT T ∨ struckB (struckT T) (j : Int) = true := by
  have hm := (mo_days hd hj).1
  obtain ⟨k1, k2⟩ := dusk_keeps T (mo T j) (T.days.length - mo T j)
  rw [show mo T j + (T.days.length - mo T j) = T.days.length by omega] at k1 k2
  rcases (fold_has T (mo T j) (dayTests T (mo T j)) (dawn T (mo T j))).2.2 j (day_mem hd hj) with h | ⟨q, h1, h2⟩
  · exact .inl (k1 j h)
  · exact .inr (struckB_of.2 ⟨q, k2 q h1, h2⟩)
theorem days_ok {T : Task} (hk : TaskOk T) : Days T := fun j hj => by
  have := (hk.tests j hj).2
  simp only [dayD']; omega
theorem not_struck_good {T : Task} (hk : TaskOk T) {j : Nat} (hj : j < T.tests.length) (h : struckB (struckT T) (j : Int) = false) : j ∈ goodT T := by
  rcases taken_or (days_ok hk) hj with h1 | h1
  · exact h1
  · rw [h] at h1; cases h1
end Go.Proofs.Ytfjbgcaogffiaaa
namespace Go.Proofs.Ytfjbgcaogffiaaa
open D
set_option linter.unusedVariables false
theorem check_mk {R : Rule} (h : RuleOk R) : (check R).2.2 = 0 := by
  have hc : ∀ {lo hi : Int} {l : List Pt}, CurveOk lo hi l → (curve l lo hi).2 = 0 := fun h => by rw [curve_ok h.len h.pts]
  have hg : ∀ j, j < 3 → badGrade R j = 0 := fun j hj => by
    have g0 := h.g0; have g1 := h.g1; have g2 := h.g2
    rcases (show j = 0 ∨ j = 1 ∨ j = 2 by omega) with rfl | rfl | rfl
    · exact badGrade_0 (by simp only [gr0]; omega) (by simp)
    · exact badGrade_0 (by simp only [D.gr1]; omega) (by simp only [Nat.sub_self, gr0, D.gr1]; omega)
    · exact badGrade_0 (by simp only [D.gr2]; omega) (by simp only [Nat.reduceSub, D.gr1, D.gr2]; omega)
  rw [check_5 ⟨hc h.heat, hc h.wet, h.own, h.feed⟩ hg, if_neg (fun x => x h.lost)]
theorem climate0 {d : Day} (h : DayOk d) : climateE d = 0 := by
  rw [climateE, if_pos ⟨⟨⟨h.t0, h.t1⟩, h.d0⟩, h.d1⟩, if_neg (by have := h.t; have := h.d; omega)]
theorem levels0 {lo hi : Int} (h : (0 ≤ lo ∧ lo ≤ 1000000) ∧ (0 ≤ hi ∧ hi ≤ 1000000) ∧ lo ≤ hi) : levelsE lo hi = 0 := by
  rw [levelsE, if_pos ⟨h.1, h.2.1⟩, if_neg (by omega)]
theorem task_mk {T : Task} (h : TaskOk T) : (checkTask T).2.2 = 0 := by
  have hf := h.first
  have h1 : ∀ j, j < T.days.length → badDay T j = 0 := fun j hj => by
    have hd := h.days j hj
    unfold badDay climateE
    rw [if_pos ⟨⟨⟨hd.t0, hd.t1⟩, hd.d0⟩, hd.d1⟩, if_neg (by have := hd.t; have := hd.d; omega)]
  have h2 : levelsE T.start.lo T.start.hi = 0 := by
    obtain ⟨s1, s2, s3⟩ := h.start
    unfold levelsE
    rw [if_pos ⟨s1, s2⟩, if_neg (by omega)]
  have h3 : ∀ j, j < T.tests.length → badTest T j = 0 := fun j hj => by
    obtain ⟨⟨h1, h2⟩, h3⟩ := h.tests j hj
    exact badTest_0 h3 ⟨h1, h2⟩
  rw [checkTask_7 ⟨check_mk h.rule, by have := h.nd; have := h.nt; omega, by omega⟩ h1 h2 h3]
/-- A course goes on within what follows from any span that it is in. -/
theorem crs_on {T : Task} (hk : TaskOk T) {C : Cse} (hC : CseOk C) {a : Span} {i : Nat} (h : InS a (crs T C i)) : ∀ d, i + d ≤ T.days.length → InS (on T.rule (forces T) a i (i + d)) (crs T C (i + d))
  | 0, _ => by rw [Nat.add_zero, on_self]; exact h
  | d + 1, hd => by
    have ih := crs_on hk hC h d (by omega)
    have hg := (stepOk_at hk (i := i + d) (by omega)).g
    have hr := crs_rng hk hC (i := i + d) (by omega)
    obtain ⟨_, c⟩ := gr1_sp hk (i := i + d) (by omega) hr
    have hp := part_in c (step_in hC (i + d)).1 (step_in hC (i + d)).2
    rw [← Nat.add_assoc, on_succ _ _ _ (by omega)]
    have a1 := least_mono hg ih.1
    have a2 := most_mono hg ih.2
    have e : crs T C (i + d + 1) = partI (gr1 T (i + d) (crs T C (i + d))) (stepBy C (i + d)) := rfl
    unfold InS
    rw [e]
    have e1 : (gr1 T (i + d) (crs T C (i + d))).lo = least T.rule (spanD (forces T) (i + d)) (crs T C (i + d)) := rfl
    have e2 : (gr1 T (i + d) (crs T C (i + d))).hi = most T.rule (spanD (forces T) (i + d)) (crs T C (i + d)) := rfl
    simp only [grow]
    omega
/-- A course never descends. -/
theorem crs_up {T : Task} (hk : TaskOk T) {C : Cse} (hC : CseOk C) {i : Nat} : ∀ d, i + d ≤ T.days.length → crs T C i ≤ crs T C (i + d)
  | 0, _ => Int.le_refl _
  | d + 1, hd => by
    have ih := crs_up hk hC (i := i) d (by omega)
    have hg := (stepOk_at hk (i := i + d) (by omega)).g
    have hr := crs_rng hk hC (i := i + d) (by omega)
    obtain ⟨_, c⟩ := gr1_sp hk (i := i + d) (by omega) hr
    have hp := part_in c (step_in hC (i + d)).1 (step_in hC (i + d)).2
    have e : crs T C (i + d + 1) = partI (gr1 T (i + d) (crs T C (i + d))) (stepBy C (i + d)) := rfl
    have e1 : (gr1 T (i + d) (crs T C (i + d))).lo = least T.rule (spanD (forces T) (i + d)) (crs T C (i + d)) := rfl
    have hl := (least_rng hg hr.1 hr.2).1
    rw [← Nat.add_assoc, e]; omega
theorem crs_is {T : Task} (hk : TaskOk T) {C : Cse} (hC : CseOk C) : IsCourse T (crs T C) := fun i hi => crs_course hk hC hi
theorem own_crs {T : Task} (hk : TaskOk T) {C : Cse} (hC : CseOk C) : ownV T (crsL T C) = (-1, 0) := by
  rw [ownV, if_neg (fun h => h (task_mk hk)), if_neg (fun h => h (crsL_len T C))]
  congr 1
  refine firstDay_none fun i hi => ?_
  have hi' : i ≤ T.days.length := by omega
  have h := crs_course hk hC hi'
  have e : ∀ j, j ≤ i → intD (crsL T C) j = crs T C j := fun j hj => crsL_at (by omega)
  cases i with
  | zero =>
    have e0 := e 0 (Nat.le_refl _)
    rw [ownBad, canOf] at h ⊢
    rw [e0]; exact h
  | succ i =>
    have e0 := e i (by omega)
    have e1 := e (i + 1) (Nat.le_refl _)
    rw [ownBad, canOf] at h ⊢
    rw [e0, e1]; exact h
/-- A course keeps to a test just if it is in what keeps to it. -/
theorem keeps_iff {T U : Task} (hk : TaskOk T) {C : Cse} (hC : CseOk C) {x : Test} (hx : TestOk x) {i : Nat} (hi : i ≤ T.days.length) (hd : x.day - T.first = i) : keepsB T (crsL T C) x = true ↔ InS (keep T.rule x) (crs T C i) := by
  have hr := crs_rng hk hC hi
  have hg := keep_grade hk.rule hx hr
  unfold keepsB InS
  rw [decide_eq_true_iff, hg, hd, crsL_len]
  have e : ((i : Int)).toNat = i := Int.toNat_natCast i
  rw [e, crsL_at hi]
  constructor
  · exact fun h => h.2.2
  · exact fun h => ⟨by omega, by omega, h⟩
theorem firstDay_le {first : Int} (h0 : 0 ≤ first) {p : Nat → Bool} : ∀ {n k : Nat}, k < n → p k = true → 0 ≤ firstDay first p n ∧ firstDay first p n ≤ first + k
  | n + 1, k, hk, hp => by
    rw [firstDay]
    rcases firstDay_rng h0 (p := p) n with h | h
    · rw [h, if_neg (fun h => h rfl)]
      rcases Nat.lt_or_ge k n with h1 | h1
      · have := firstDay_le h0 h1 hp; omega
      · obtain rfl : k = n := by omega
        rw [hp]; simp; omega
    · rw [if_pos (by omega)]
      rcases Nat.lt_or_ge k n with h1 | h1
      · exact firstDay_le h0 h1 hp
      · omega
theorem firstDay_at {first : Int} (h0 : 0 ≤ first) {p : Nat → Bool} : ∀ {n : Nat}, 0 ≤ firstDay first p n → ∃ k, k < n ∧ firstDay first p n = first + k ∧ p k = true
  | 0, h => by simp [firstDay] at h
  | n + 1, h => by
    rw [firstDay] at h ⊢
    rcases firstDay_rng h0 (p := p) n with h1 | h1
    · rw [h1, if_neg (fun h => h rfl)] at h ⊢
      by_cases hp : p n = true
      · rw [hp] at h ⊢; exact ⟨n, by omega, rfl, hp⟩
      · rw [if_neg hp] at h; omega
    · rw [if_pos (by omega)] at h ⊢
      obtain ⟨k, a, b, c⟩ := firstDay_at h0 h
      exact ⟨k, by omega, b, c⟩
/-- DecayTrue, plain. -/
theorem true_in {T : Task} (hk : TaskOk T) {C : Cse} (hC : CseOk C) (hg : ∀ j, j < T.tests.length → struckB (struckT T) (j : Int) = true ∨ keepsB T (crsL T C) (testD T.tests j) = true) {i : Nat} (hi : i ≤ T.days.length) : InS (lv T i) (crs T C i) := by
  refine course_lv hk (crs_is hk hC) (fun j hj => ?_) _ rfl hi
  have hd := days_ok hk
  have hj' := good_lt hd j hj
  have hm := mo_days hd hj'
  rcases hg j hj' with h | h
  · rw [good_not_struck hk hj] at h; cases h
  · exact (keeps_iff (U := T) hk hC (hk.tests j hj').1 hm.1 (by have := hm.2; simp only [dayD'] at this; omega)).1 h
theorem true_lost1 {T : Task} (hk : TaskOk T) {i : Nat} (hi : i ≤ T.days.length) {n : Int} (h : InS (lv T i) n) (hn : T.rule.lost ≤ n) : 0 ≤ (lostT T).lo ∧ (lostT T).lo ≤ T.first + i :=
  firstDay_le hk.first.1 (k := i) (by omega) (decide_eq_true (by have := h.2; omega))
theorem true_lost2 {T : Task} (hk : TaskOk T) {C : Cse} (hC : CseOk C) (h : ∀ i, i ≤ T.days.length → InS (lv T i) (crs T C i)) {i : Nat} (hi : i ≤ T.days.length) (hn : crs T C i < T.rule.lost) : (lostT T).hi < 0 ∨ T.first + i < (lostT T).hi := by
  rcases Int.lt_or_le (lostT T).hi 0 with h1 | h1
  · exact .inl h1
  · right
    obtain ⟨k, a, b, c⟩ := firstDay_at hk.first.1 h1
    have b' : (lostT T).hi = T.first + k := b
    rcases Nat.lt_or_ge i k with h2 | h2
    · omega
    · have c' := of_decide_eq_true c
      have h3 := (h k (by omega)).1
      have h4 := crs_up hk hC (i := k) (i - k) (by omega)
      rw [show k + (i - k) = i by omega] at h4
      omega
/-! DecayNever. -/
theorem never_fold {T : Task} {i : Nat} {n : Int} : ∀ (l : List Nat) {s : Mst}, s.struck = [] → InS s.now n → (∀ j ∈ l, InS (kp T j) n) → (l.foldl (tstep T i) s).struck = [] ∧ InS (l.foldl (tstep T i) s).now n
  | [], s, h, h1, _ => ⟨h, h1⟩
  | j :: l, s, h, h1, h2 => by
    have hj := h2 j List.mem_cons_self
    have hb : ¬ bad (both s.now (kp T j)) = true := fun hb => by
      have := of_bad hb
      unfold InS at h1 hj
      simp only [both] at this; omega
    rw [List.foldl_cons]
    refine never_fold (T := T) (i := i) (n := n) l ?_ ?_ (fun x hx => h2 x (List.mem_cons_of_mem _ hx))
    · rw [tstep, if_neg hb]; exact h
    · rw [tstep, if_neg hb]
      unfold InS both at *
      dsimp only; omega
theorem never_dusk {T : Task} (hk : TaskOk T) {C : Cse} (hC : CseOk C) (h : ∀ j, j < T.tests.length → InS (kp T j) (crs T C (mo T j))) : ∀ {i : Nat}, i ≤ T.days.length → (dusk T i).struck = [] ∧ InS (fwd T i) (crs T C i)
  | 0, _ => by
    have h0 := course_can (crs_is hk hC) (i := 0) (by omega)
    exact never_fold _ rfl h0 (fun j hj => by have := h j (mo_of hj).2; rwa [(mo_of hj).1] at this)
  | i + 1, hi => by
    obtain ⟨a, b⟩ := never_dusk hk hC h (i := i) (by omega)
    refine never_fold _ (s := dawn T (i + 1)) a ?_ (fun j hj => by have := h j (mo_of hj).2; rwa [(mo_of hj).1] at this)
    have h1 := crs_on hk hC b 1 hi
    rw [on_succ _ _ _ (Nat.le_refl _), on_self] at h1
    exact h1
theorem never_struck {T : Task} (hk : TaskOk T) {C : Cse} (hC : CseOk C) (h : ∀ j, j < T.tests.length → InS (kp T j) (crs T C (mo T j))) : struckT T = [] := (never_dusk hk hC h (Nat.le_refl _)).1
/-- A test made true of a course, wrong by at most its Error. -/
def trueTest (g : Int) (y : Test) (i : Nat) : Test := ⟨y.day, min 3 (max 0 (g + y.err * ((i : Int) % 3 - 1))), y.err⟩
theorem trueTest_near {g : Int} (hg : 0 ≤ g ∧ g ≤ 3) {y : Test} (hy : TestOk y) (i : Nat) : TestOk (trueTest g y i) ∧ g - (trueTest g y i).grade ≤ y.err ∧ (trueTest g y i).grade - g ≤ y.err := by
  have he := hy.e
  have h1 : (i : Int) % 3 = 0 ∨ (i : Int) % 3 = 1 ∨ (i : Int) % 3 = 2 := by omega
  have e : y.err * ((i : Int) % 3 - 1) = - y.err ∨ y.err * ((i : Int) % 3 - 1) = 0 ∨ y.err * ((i : Int) % 3 - 1) = y.err := by
    rcases h1 with h | h | h <;> rw [h] <;> simp
  refine ⟨⟨?_, he⟩, ?_, ?_⟩ <;> simp only [trueTest] <;> omega
/-- The task of DecayNever. -/
def nevT (T : Task) (C : Cse) : Task := { T with tests := (List.range T.tests.length).map fun i => trueTest (grade T.rule (crs T C (mo T i))) (testD T.tests i) i }
theorem nevT_len (T : Task) (C : Cse) : (nevT T C).tests.length = T.tests.length := by simp [nevT]
theorem nevT_test {T : Task} {C : Cse} {i : Nat} (h : i < T.tests.length) : testD (nevT T C).tests i = trueTest (grade T.rule (crs T C (mo T i))) (testD T.tests i) i := by
  simp [nevT, testD, List.getD_eq_getElem?_getD, h]
theorem nev_ok {T : Task} (hk : TaskOk T) (C : Cse) : TaskOk (nevT T C) := by
  refine ⟨hk.rule, hk.nd, by rw [nevT_len]; exact hk.nt, hk.first, hk.days, hk.start, fun j hj => ?_⟩
  rw [nevT_len] at hj
  rw [nevT_test hj]
  have ht := hk.tests j hj
  exact ⟨(trueTest_near (grade_rng _ _) ht.1 j).1, ht.2⟩
theorem nev_crs (T : Task) (C : Cse) : ∀ i, crs (nevT T C) C i = crs T C i
  | 0 => rfl
  | i + 1 => by rw [crs, crs, nev_crs T C i]; rfl
theorem nev_mo {T : Task} {C : Cse} {j : Nat} (h : j < T.tests.length) : mo (nevT T C) j = mo T j := by
  unfold mo dayD'; rw [nevT_test h]; rfl
theorem nev_in {T : Task} (hk : TaskOk T) {C : Cse} (hC : CseOk C) {j : Nat} (hj : j < T.tests.length) : InS (kp (nevT T C) j) (crs (nevT T C) C (mo (nevT T C) j)) := by
  have hm := (mo_days (days_ok hk) hj).1
  rw [nev_crs, nev_mo hj, kp, nevT_test hj]
  have hn := trueTest_near (grade_rng T.rule (crs T C (mo T j))) (hk.tests j hj).1 j
  exact (keep_grade hk.rule hn.1 (crs_rng hk hC hm)).2 ⟨hn.2.1, hn.2.2⟩
theorem nev_none {T : Task} (hk : TaskOk T) {C : Cse} (hC : CseOk C) : struckT (nevT T C) = [] :=
  never_struck (nev_ok hk C) hC (fun j hj => nev_in hk hC (by rwa [nevT_len] at hj))
theorem nev_lv {T : Task} (hk : TaskOk T) {C : Cse} (hC : CseOk C) {i : Nat} (hi : i ≤ T.days.length) : InS (lv (nevT T C) i) (crs T C i) := by
  rw [← nev_crs]
  exact course_lv (nev_ok hk C) (crs_is (nev_ok hk C) hC) (fun j hj => nev_in hk hC (by have := good_lt (days_ok (nev_ok hk C)) j hj; rwa [nevT_len] at this)) _ rfl hi
/-! DecayNamed. -/
/-- The task behind a test, from any level on. -/
def fromT (T : Task) (x : Nat) : Task := { T with first := dayD' T x, days := T.days.drop (mo T x), start := ⟨0, 1000000⟩, tests := [] }
def bareT (T : Task) : Task := { T with tests := [] }
theorem bare_ok {T : Task} (hk : TaskOk T) : TaskOk (bareT T) := ⟨hk.rule, hk.nd, Nat.zero_le _, hk.first, hk.days, hk.start, fun j hj => absurd hj (Nat.not_lt_zero _)⟩
theorem dayD_drop (l : List Day) (k i : Nat) : dayD (l.drop k) i = dayD l (k + i) := by simp [dayD, List.getD_eq_getElem?_getD]
theorem from_ok {T : Task} (hk : TaskOk T) {x : Nat} (hx : x < T.tests.length) : TaskOk (fromT T x) := by
  obtain ⟨m1, m2⟩ := mo_days (days_ok hk) hx
  have hl : (fromT T x).days.length = T.days.length - mo T x := List.length_drop
  have hf := hk.first
  refine ⟨hk.rule, by have := hk.nd; omega, Nat.zero_le _, ?_, fun j hj => ?_, (show ((0:Int) ≤ 0 ∧ (0:Int) ≤ 1000000) ∧ ((0:Int) ≤ 1000000 ∧ (1000000:Int) ≤ 1000000) ∧ (0:Int) ≤ 1000000 by decide), fun j hj => absurd hj (Nat.not_lt_zero _)⟩
  · rw [hl]; show 0 ≤ dayD' T x ∧ dayD' T x + _ ≤ _; omega
  · show DayOk (dayD (T.days.drop (mo T x)) j)
    rw [dayD_drop]; exact hk.days _ (by omega)
theorem forces_drop (T : Task) (x i : Nat) : spanD (forces (fromT T x)) i = spanD (forces T) (mo T x + i) := by
  simp [spanD, forces, fromT, List.getD_eq_getElem?_getD, List.map_drop]
theorem on_from (T : Task) (x : Nat) (a : Span) : ∀ d, on T.rule (forces (fromT T x)) a 0 d = on T.rule (forces T) a (mo T x) (mo T x + d)
  | 0 => by rw [on_self, Nat.add_zero, on_self]
  | d + 1 => by rw [on_succ _ _ _ (Nat.zero_le _), on_from T x a d, ← Nat.add_assoc, on_succ _ _ _ (by omega), forces_drop]
theorem named_by {T : Task} (hk : TaskOk T) {C : Cse} (hC : CseOk C) {x n : Nat} (hx : x < T.tests.length) (hn : n < T.tests.length) (hm : mo T x ≤ mo T n) (hb : bad (both (aheadT T x (mo T n)) (kp T n)) = true) :
    keepsB (fromT T x) (crsL (fromT T x) C) (testD T.tests x) = false ∨ keepsB (fromT T x) (crsL (fromT T x) C) (testD T.tests n) = false := by
  have hu := from_ok hk hx
  have hl : (fromT T x).days.length = T.days.length - mo T x := List.length_drop
  obtain ⟨x1, x2⟩ := mo_days (days_ok hk) hx
  obtain ⟨n1, n2⟩ := mo_days (days_ok hk) hn
  cases h1 : keepsB (fromT T x) (crsL (fromT T x) C) (testD T.tests x) with
  | false => exact .inl rfl
  | true =>
    cases h2 : keepsB (fromT T x) (crsL (fromT T x) C) (testD T.tests n) with
    | false => exact .inr rfl
    | true =>
      exfalso
      have k1 := (keeps_iff (U := T) hu hC (hk.tests x hx).1 (i := 0) (Nat.zero_le _) (by show (testD T.tests x).day - dayD' T x = _; simp [dayD'])).1 h1
      have k2 := (keeps_iff (U := T) hu hC (hk.tests n hn).1 (i := mo T n - mo T x) (by omega) (by show (testD T.tests n).day - dayD' T x = _; simp only [dayD'] at *; omega)).1 h2
      have h3 := crs_on hu hC k1 (mo T n - mo T x) (by omega)
      rw [Nat.zero_add] at h3
      have e := on_from T x (kp T x) (mo T n - mo T x)
      rw [show mo T x + (mo T n - mo T x) = mo T n by omega] at e
      have h4 : InS (aheadT T x (mo T n)) (crs (fromT T x) C (mo T n - mo T x)) := by rw [aheadT, ← e]; exact h3
      have h5 := of_bad hb
      have k3 : InS (kp T n) (crs (fromT T x) C (mo T n - mo T x)) := k2
      unfold InS at h4 k3
      simp only [both] at h5; omega
theorem bare_crs (T : Task) (C : Cse) : ∀ i, crs (bareT T) C i = crs T C i
  | 0 => rfl
  | i + 1 => by rw [crs, crs, bare_crs T C i]; rfl
theorem named_start {T : Task} (hk : TaskOk T) {C : Cse} (hC : CseOk C) {n : Nat} (hn : n < T.tests.length) (hb : bad (both (on T.rule (forces T) T.start 0 (mo T n)) (kp T n)) = true) : keepsB (bareT T) (crsL (bareT T) C) (testD T.tests n) = false := by
  have hu := bare_ok hk
  obtain ⟨n1, n2⟩ := mo_days (days_ok hk) hn
  cases h2 : keepsB (bareT T) (crsL (bareT T) C) (testD T.tests n) with
  | false => rfl
  | true =>
    exfalso
    have k2 := (keeps_iff (U := T) hu hC (hk.tests n hn).1 (i := mo T n) n1 (by show (testD T.tests n).day - T.first = _; simp only [dayD'] at *; omega)).1 h2
    have k1 := course_can (crs_is hu hC) (i := 0) (by omega)
    have h3 := crs_on hu hC k1 (mo T n) (by rw [Nat.zero_add]; exact n1)
    rw [Nat.zero_add] at h3
    have h4 : InS (on T.rule (forces T) T.start 0 (mo T n)) (crs (bareT T) C (mo T n)) := h3
    have k3 : InS (kp T n) (crs (bareT T) C (mo T n)) := k2
    have h5 := of_bad hb
    unfold InS at h4 k3
    simp only [both] at h5; omega
end Go.Proofs.Ytfjbgcaogffiaaa
namespace Go.Proofs.Ytfjbgcaogffiaaa
open D
set_option linter.unusedVariables false
set_option linter.unusedSimpArgs false
def kps (T : Task) (i : Nat) : List Span := (dayTests T i).map (kp T)
def nc (s : Span × Nat) (k : Span) : Span × Nat := if bad (both s.1 k) then (s.1, s.2 + 1) else (both s.1 k, s.2)
theorem fold_nc (T : Task) (i : Nat) : ∀ (l : List Nat) (s : Mst), (l.map (kp T)).foldl nc (s.now, s.struck.length) = ((l.foldl (tstep T i) s).now, (l.foldl (tstep T i) s).struck.length)
  | [], _ => rfl
  | j :: l, s => by
    rw [List.map_cons, List.foldl_cons, List.foldl_cons, ← fold_nc T i l (tstep T i s j)]
    congr 1
    rw [nc, tstep]
    by_cases hb : bad (both s.now (kp T j)) = true
    · rw [if_pos hb, if_pos hb]; simp
    · rw [if_neg hb, if_neg hb]
/-- The state of each morning, by what is kept. -/
def dnc (R : Rule) (F : Nat → Span) (ks : Nat → List Span) (a : Span) : Nat → Span × Nat
  | 0 => (ks 0).foldl nc (a, 0)
  | i + 1 => (ks (i + 1)).foldl nc (grow R (F i) (dnc R F ks a i).1, (dnc R F ks a i).2)
theorem dusk_nc (T : Task) : ∀ i, dnc T.rule (spanD (forces T)) (kps T) T.start i = ((dusk T i).now, (dusk T i).struck.length)
  | 0 => fold_nc T 0 (dayTests T 0) (dawn T 0)
  | i + 1 => by
    rw [dnc, dusk_nc T i]
    exact fold_nc T (i + 1) (dayTests T (i + 1)) (dawn T (i + 1))
theorem dnc_congr {R : Rule} {F G : Nat → Span} {ks ls : Nat → List Span} {a : Span} : ∀ {i : Nat}, (∀ j, j < i → F j = G j) → (∀ j, j ≤ i → ks j = ls j) → dnc R F ks a i = dnc R G ls a i
  | 0, _, h => by rw [dnc, dnc, h 0 (Nat.le_refl _)]
  | i + 1, hF, h => by rw [dnc, dnc, h (i + 1) (Nat.le_refl _), dnc_congr (i := i) (fun j hj => hF j (by omega)) (fun j hj => h j (by omega)), hF i (by omega)]
theorem fwd_nc (T : Task) (i : Nat) : fwd T i = (dnc T.rule (spanD (forces T)) (kps T) T.start i).1 := by rw [dusk_nc]; rfl
theorem struck_nc (T : Task) : (struckT T).length = (dnc T.rule (spanD (forces T)) (kps T) T.start T.days.length).2 := by rw [dusk_nc]; rfl
/-- What is kept on a morning, by the tests of that day. -/
theorem range_filter {α β : Type} (l : List α) (d : α) (p : α → Bool) (f : α → β) : ∀ {n : Nat}, n ≤ l.length → ((List.range n).filter (fun j => p (l.getD j d))).map (fun j => f (l.getD j d)) = ((l.take n).filter p).map f
  | 0, _ => by simp
  | n + 1, h => by
    have hl : n < l.length := h
    rw [List.range_succ, List.filter_append, List.map_append, range_filter l d p f (n := n) (by omega), List.take_succ_eq_append_getElem hl, List.filter_append, List.map_append]
    congr 1
    have e : l.getD n d = l[n] := by rw [List.getD_eq_getElem?_getD, List.getElem?_eq_getElem hl]; rfl
    by_cases hp : p l[n] = true
    · rw [List.filter_cons, if_pos (by rw [e]; exact hp), List.filter_cons, if_pos hp]
      simp only [List.filter_nil, List.map_cons, List.map_nil, e]
    · rw [List.filter_cons, if_neg (by rw [e]; exact hp), List.filter_cons, if_neg hp]
      simp only [List.filter_nil, List.map_nil]
def onDay (v : Int) (x : Test) : Bool := decide (x.day = v)
theorem cls_kp (T : Task) (i : Nat) {n : Nat} (h : n ≤ T.tests.length) : (cls (dayD' T) (T.first + i) n).map (kp T) = ((T.tests.take n).filter (onDay (T.first + i))).map (keep T.rule) :=
  range_filter T.tests ⟨0, 0, 0⟩ (onDay (T.first + i)) (keep T.rule) h
theorem kps_at (T : Task) (i : Nat) : kps T i = (T.tests.filter (onDay (T.first + i))).map (keep T.rule) := by
  have := cls_kp T i (Nat.le_refl T.tests.length)
  rwa [List.take_length] at this
/-! What lies within what. -/
def SubS (a b : Span) : Prop := b.lo ≤ a.lo ∧ a.hi ≤ b.hi
theorem sub_refl (a : Span) : SubS a a := ⟨Int.le_refl _, Int.le_refl _⟩
theorem sub_trans {a b c : Span} (h : SubS a b) (g : SubS b c) : SubS a c := ⟨Int.le_trans g.1 h.1, Int.le_trans h.2 g.2⟩
theorem span_ext {a b : Span} (h1 : a.lo = b.lo) (h2 : a.hi = b.hi) : a = b := by cases a; cases b; simp_all
theorem grow_sub {R : Rule} {s : Span} (h : GrowOk R s) {a b : Span} (hs : SubS a b) : SubS (grow R s a) (grow R s b) := ⟨least_mono h hs.1, most_mono h hs.2⟩
/-- The levels of the backward pass grow with what they come from. -/
theorem back_sub {R : Rule} {s a b x a' b' x' : Span} (h : BackOk R s a b x) (h' : BackOk R s a' b' x') (ha : SubS a a') (hb : SubS b b') : SubS x x' := by
  refine ⟨?_, ?_⟩
  · rcases Int.lt_or_le x.lo x'.lo with h1 | h1
    · have := h'.lo2 x.lo (by have := h.lo; have := ha.1; omega) h1
      have := h.lo1; have := hb.1; omega
    · exact h1
  · rcases Int.lt_or_le x'.hi x.hi with h1 | h1
    · have := h'.hi2 x.hi (by have := h.hi; have := ha.2; omega) h1
      have := h.hi1; have := hb.2; omega
    · exact h1
/-- Two tasks of the same days up to a morning: where the levels of one lie within those of the other one there, they do before it. -/
theorem lv_sub {T U : Task} (hT : TaskOk T) (hU : TaskOk U) (hR : U.rule = T.rule) {k : Nat} (hk : k ≤ T.days.length) (hk' : k ≤ U.days.length) (hF : ∀ i, i < k → spanD (forces U) i = spanD (forces T) i) (hf : ∀ i, i ≤ k → SubS (fwd T i) (fwd U i)) (hl : SubS (lv T k) (lv U k)) :
    ∀ d i, k - i = d → i ≤ k → SubS (lv T i) (lv U i)
  | 0, i, h, hi => by obtain rfl : i = k := by omega
                      exact hl
  | d + 1, i, h, hi => by
    have ih := lv_sub hT hU hR hk hk' hF hf hl d (i + 1) (by omega) (by omega)
    have b1 := lv_backOk hT (i := i) (by omega)
    have b2 := lv_backOk hU (i := i) (by omega)
    rw [hR, hF i (by omega)] at b2
    exact back_sub b1 b2 (hf i hi) ih
theorem sub_eq {a b : Span} (h : SubS a b) (g : SubS b a) : a = b := span_ext (by have := h.1; have := g.1; omega) (by have := h.2; have := g.2; omega)
/-- Where no test is behind a morning, the backward pass takes nothing off. -/
theorem fwd_bare {T : Task} {i : Nat} (h : kps T (i + 1) = []) : fwd T (i + 1) = grow T.rule (spanD (forces T) i) (fwd T i) := by
  rw [fwd_nc, dnc, h, ← fwd_nc]; rfl
theorem lv_bare {T : Task} (hk : TaskOk T) {i0 : Nat} (h : ∀ j, i0 < j → j ≤ T.days.length → kps T j = []) : ∀ d i, T.days.length - i = d → i0 ≤ i → i ≤ T.days.length → lv T i = fwd T i
  | 0, i, hd, _, hi => by obtain rfl : i = T.days.length := by omega
                          exact lv_last T
  | d + 1, i, hd, h0, hi => by
    have ih := lv_bare hk h d (i + 1) (by omega) (by omega) (by omega)
    have hb := lv_backOk hk (i := i) (by omega)
    rw [ih, fwd_bare (h (i + 1) (by omega) (by omega))] at hb
    have hs := stepOk_at hk (i := i) (by omega)
    obtain ⟨⟨⟨f1, f2⟩, f3, f4⟩, f5⟩ := fwd_sp hk (i := i) hi
    refine span_ext ?_ ?_
    · rcases Int.lt_or_le (fwd T i).lo (lv T i).lo with h1 | h1
      · have := hb.lo2 (fwd T i).lo (Int.le_refl _) h1
        have := least_most hs.g hs.le f1
        simp only [grow] at *; omega
      · have := hb.lo; omega
    · rcases Int.lt_or_le (lv T i).hi (fwd T i).hi with h1 | h1
      · have := hb.hi2 (fwd T i).hi (Int.le_refl _) h1
        have := least_most hs.g hs.le f3
        simp only [grow] at *; omega
      · have := hb.hi; omega
/-! DecayPrefix. -/
def cutT (T : Task) (k : Nat) : Task := { T with days := T.days.take k, tests := T.tests.filter fun x => decide (x.day ≤ T.first + k) }
theorem dayD_take (l : List Day) {k i : Nat} (h : i < k) : dayD (l.take k) i = dayD l i := by simp [dayD, List.getD_eq_getElem?_getD, List.getElem?_take, h]
theorem testD_mem {l : List Test} {j : Nat} (h : j < l.length) : testD l j ∈ l := by
  rw [testD, List.getD_eq_getElem?_getD, List.getElem?_eq_getElem h]; exact List.getElem_mem h
theorem tests_all {T : Task} (hk : TaskOk T) {x : Test} (hx : x ∈ T.tests) : TestOk x ∧ T.first ≤ x.day ∧ x.day ≤ T.first + T.days.length := by
  obtain ⟨j, hj, rfl⟩ := List.getElem_of_mem hx
  have := hk.tests j hj
  rwa [testD, List.getD_eq_getElem?_getD, List.getElem?_eq_getElem hj] at this
theorem cut_days {T : Task} {k : Nat} (h : k ≤ T.days.length) : (cutT T k).days.length = k := by show (T.days.take k).length = k; rw [List.length_take]; omega
theorem cut_ok {T : Task} (hk : TaskOk T) {k : Nat} (h : k ≤ T.days.length) : TaskOk (cutT T k) := by
  have hl := cut_days h
  have hf := hk.first
  refine ⟨hk.rule, by have := hk.nd; omega, Nat.le_trans (List.length_filter_le _ _) hk.nt, ⟨hf.1, ?_⟩, fun j hj => ?_, hk.start, fun j hj => ?_⟩
  · rw [hl]; show T.first + _ ≤ _; omega
  · rw [hl] at hj
    show DayOk (dayD (T.days.take k) j)
    rw [dayD_take _ hj]; exact hk.days j (by omega)
  · have hm := testD_mem hj
    obtain ⟨h1, h2⟩ := List.mem_filter.1 hm
    have h3 := of_decide_eq_true h2
    rw [hl]
    exact ⟨(tests_all hk h1).1, (tests_all hk h1).2.1, h3⟩
theorem cut_forces (T : Task) {k i : Nat} (h : i < k) : spanD (forces (cutT T k)) i = spanD (forces T) i := by
  simp [spanD, forces, cutT, List.getD_eq_getElem?_getD, List.map_take, List.getElem?_take, h]
theorem cut_kps (T : Task) {k i : Nat} (h : i ≤ k) : kps (cutT T k) i = kps T i := by
  rw [kps_at, kps_at]
  show ((T.tests.filter _).filter (onDay (T.first + i))).map (keep T.rule) = _
  rw [List.filter_filter]
  congr 2
  funext x
  simp only [onDay, Bool.and_eq_left_iff_imp, decide_eq_true_eq]
  omega
theorem cut_fwd {T : Task} {k i : Nat} (h : i ≤ k) : fwd (cutT T k) i = fwd T i := by
  rw [fwd_nc, fwd_nc]
  exact congrArg Prod.fst (dnc_congr (fun j hj => cut_forces T (by omega)) (fun j hj => cut_kps T (by omega)))
theorem cut_last {T : Task} {k : Nat} (h : k ≤ T.days.length) : lv (cutT T k) k = fwd T k := by
  have := lv_last (cutT T k)
  rw [cut_days h] at this
  rw [this, cut_fwd (Nat.le_refl _)]
theorem prefix_sub {T : Task} (hk : TaskOk T) {k i : Nat} (h : k ≤ T.days.length) (hi : i ≤ k) : SubS (lv T i) (lv (cutT T k) i) := by
  refine lv_sub hk (cut_ok hk h) rfl h (by rw [cut_days h]; exact Nat.le_refl _) (fun i hi => cut_forces T hi) (fun i hi => by rw [cut_fwd hi]; exact sub_refl _) ?_ _ i rfl hi
  rw [cut_last h]
  exact (lv_ok hk h).2
/-- No tests behind a morning. -/
theorem cut_all {T : Task} {k : Nat} (h : (cutT T k).tests.length = T.tests.length) : ∀ j, k < j → kps T j = [] := by
  have h1 : ∀ x ∈ T.tests, decide (x.day ≤ T.first + k) = true := List.length_filter_eq_length_iff.1 h
  intro j hj
  rw [kps_at, List.map_eq_nil_iff, List.filter_eq_nil_iff]
  intro x hx
  have := of_decide_eq_true (h1 x hx)
  simp only [onDay, decide_eq_true_eq]; omega
theorem prefix_eq {T : Task} (hk : TaskOk T) {k i : Nat} (h : k ≤ T.days.length) (ht : (cutT T k).tests.length = T.tests.length) (hi : i ≤ k) : lv (cutT T k) i = lv T i := by
  have hl := lv_bare hk (i0 := k) (fun j h1 _ => cut_all ht j h1) _ k rfl (Nat.le_refl _) h
  refine sub_eq ?_ (prefix_sub hk h hi)
  refine lv_sub (cut_ok hk h) hk rfl (by rw [cut_days h]; exact Nat.le_refl _) h (fun i hi => (cut_forces T hi).symm) (fun i hi => by rw [cut_fwd hi]; exact sub_refl _) ?_ _ i rfl hi
  rw [cut_last h, hl]; exact sub_refl _
def restT (T : Task) (k : Nat) : Task := { T with first := T.first + k, days := T.days.drop k, start := lv (cutT T k) k, tests := [] }
theorem rest_days (T : Task) (k : Nat) : (restT T k).days.length = T.days.length - k := List.length_drop
theorem rest_ok {T : Task} (hk : TaskOk T) {k : Nat} (h : k ≤ T.days.length) : TaskOk (restT T k) := by
  have hl := rest_days T k
  have hf := hk.first
  have hs := (lv_ok (cut_ok hk h) (i := k) (by rw [cut_days h]; exact Nat.le_refl _)).1
  refine ⟨hk.rule, by have := hk.nd; omega, Nat.zero_le _, ?_, fun j hj => ?_, ⟨hs.1.1, hs.1.2, hs.2⟩, fun j hj => absurd hj (Nat.not_lt_zero _)⟩
  · rw [hl]; show 0 ≤ T.first + (k : Int) ∧ T.first + (k : Int) + _ ≤ _; omega
  · show DayOk (dayD (T.days.drop k) j)
    rw [dayD_drop]; exact hk.days _ (by omega)
theorem rest_forces (T : Task) (k i : Nat) : spanD (forces (restT T k)) i = spanD (forces T) (k + i) := by
  simp [spanD, forces, restT, List.getD_eq_getElem?_getD, List.map_drop]
theorem bare_kps {T : Task} (h : T.tests = []) (i : Nat) : kps T i = [] := by rw [kps_at, h]; rfl
theorem rest_fwd {T : Task} {k : Nat} (h : k ≤ T.days.length) (ht : (cutT T k).tests.length = T.tests.length) : ∀ i, fwd (restT T k) i = fwd T (k + i)
  | 0 => by
    rw [fwd_nc, dnc, bare_kps rfl]
    exact cut_last h
  | i + 1 => by
    rw [fwd_bare (bare_kps rfl _), rest_fwd h ht i, ← Nat.add_assoc, fwd_bare (cut_all ht _ (by omega)), rest_forces]; rfl
theorem rest_lv {T : Task} (hk : TaskOk T) {k i : Nat} (h : k ≤ T.days.length) (ht : (cutT T k).tests.length = T.tests.length) (hi : k + i ≤ T.days.length) : lv (restT T k) i = lv T (k + i) := by
  have h1 := lv_bare (rest_ok hk h) (i0 := 0) (fun j _ _ => bare_kps rfl j) _ i rfl (Nat.zero_le _) (by rw [rest_days]; omega)
  have h2 := lv_bare hk (i0 := k) (fun j h1 _ => cut_all ht j h1) _ (k + i) rfl (by omega) hi
  rw [h1, h2, rest_fwd h ht]
/-! DecayFewer. -/
def lessT (T : Task) (k : Nat) : Task := { T with tests := T.tests.take k ++ T.tests.drop (k + 1) }
theorem less_mem {T : Task} {k : Nat} {x : Test} (h : x ∈ (lessT T k).tests) : x ∈ T.tests := by
  rcases List.mem_append.1 h with h | h
  · exact List.mem_of_mem_take h
  · exact List.mem_of_mem_drop h
theorem tests_split {T : Task} {k : Nat} (h : k < T.tests.length) : T.tests = T.tests.take k ++ testD T.tests k :: T.tests.drop (k + 1) := by
  have e : testD T.tests k = T.tests[k] := by rw [testD, List.getD_eq_getElem?_getD, List.getElem?_eq_getElem h]; rfl
  rw [e, List.getElem_cons_drop, List.take_append_drop]
theorem less_len {T : Task} {k : Nat} (h : k < T.tests.length) : (lessT T k).tests.length = T.tests.length - 1 := by
  show (T.tests.take k ++ T.tests.drop (k + 1)).length = _
  rw [List.length_append, List.length_take, List.length_drop]; omega
theorem less_ok {T : Task} (hk : TaskOk T) {k : Nat} (h : k < T.tests.length) : TaskOk (lessT T k) := by
  refine ⟨hk.rule, hk.nd, by rw [less_len h]; have := hk.nt; omega, hk.first, hk.days, hk.start, fun j hj => ?_⟩
  exact tests_all hk (less_mem (testD_mem hj))
theorem nc_count : ∀ (l : List Span) (s : Span) (c m : Nat), l.foldl nc (s, c + m) = ((l.foldl nc (s, c)).1, (l.foldl nc (s, c)).2 + m)
  | [], _, _, _ => rfl
  | k :: l, s, c, m => by
    rw [List.foldl_cons, List.foldl_cons]
    unfold nc
    by_cases hb : bad (both s k) = true
    · rw [if_pos hb, if_pos hb]
      have := nc_count l s (c + 1) m
      rw [show c + 1 + m = c + m + 1 by omega] at this
      exact this
    · rw [if_neg hb, if_neg hb]; exact nc_count l _ c m
/-- A struck test is struck where it is met. -/
theorem struck_met {T : Task} (hk : TaskOk T) {k : Nat} (h : k < T.tests.length) (hs : struckB (struckT T) (k : Int) = true) : bad (both ((((T.tests.take k).filter (onDay (T.first + mo T k))).map (keep T.rule)).foldl nc ((dawn T (mo T k)).now, (dawn T (mo T k)).struck.length)).1 (kp T k)) = true := by
  obtain ⟨m1, m2⟩ := mo_days (days_ok hk) h
  rw [← cls_kp T (mo T k) (by omega), fold_nc T (mo T k)]
  cases hb : bad (both ((cls (dayD' T) (T.first + mo T k) k).foldl (tstep T (mo T k)) (dawn T (mo T k))).now (kp T k)) with
  | true => rfl
  | false =>
    exfalso
    have hsp : ∃ R, dayTests T (mo T k) = cls (dayD' T) (T.first + mo T k) k ++ k :: R := by
      have h1 : ∀ d, ∃ R, cls (dayD' T) (T.first + mo T k) (k + 1 + d) = cls (dayD' T) (T.first + mo T k) k ++ k :: R := by
        intro d
        induction d with
        | zero => exact ⟨[], by rw [Nat.add_zero, cls_succ, if_pos (by omega)]⟩
        | succ d ih =>
          obtain ⟨R, e⟩ := ih
          refine ⟨R ++ (if dayD' T (k + 1 + d) = T.first + mo T k then [k + 1 + d] else []), ?_⟩
          rw [← Nat.add_assoc, cls_succ, e, List.append_assoc, List.cons_append]
      have h2 := h1 (T.tests.length - (k + 1))
      rw [show k + 1 + (T.tests.length - (k + 1)) = T.tests.length by omega] at h2
      exact h2
    obtain ⟨R, e⟩ := hsp
    have hg : k ∈ (dusk T (mo T k)).good := by
      rw [dusk, e, List.foldl_append, List.foldl_cons]
      refine (fold_has T (mo T k) R _).1 k ?_
      rw [tstep, if_neg (by rw [hb]; exact Bool.false_ne_true)]
      exact List.mem_append_right _ (by simp)
    have hg2 := (dusk_keeps T (mo T k) (T.days.length - mo T k)).1 k hg
    rw [show mo T k + (T.days.length - mo T k) = T.days.length by omega] at hg2
    rw [good_not_struck hk hg2] at hs; cases hs
theorem less_kps {T : Task} {k i : Nat} (h : k < T.tests.length) (hi : onDay (T.first + i) (testD T.tests k) = false) : kps (lessT T k) i = kps T i := by
  rw [kps_at, kps_at]
  show ((T.tests.take k ++ T.tests.drop (k + 1)).filter (onDay (T.first + i))).map (keep T.rule) = _
  conv => rhs; rw [tests_split h]
  rw [List.filter_append, List.filter_append, List.filter_cons, hi]; simp
theorem less_struck {T : Task} (hk : TaskOk T) {k : Nat} (h : k < T.tests.length) (hs : struckB (struckT T) (k : Int) = true) : ∀ i,
    (i < mo T k → dnc T.rule (spanD (forces T)) (kps (lessT T k)) T.start i = dnc T.rule (spanD (forces T)) (kps T) T.start i) ∧
    (mo T k ≤ i → dnc T.rule (spanD (forces T)) (kps T) T.start i = ((dnc T.rule (spanD (forces T)) (kps (lessT T k)) T.start i).1, (dnc T.rule (spanD (forces T)) (kps (lessT T k)) T.start i).2 + 1)) := by
  obtain ⟨m1, m2⟩ := mo_days (days_ok hk) h
  have hne : ∀ i, i ≠ mo T k → kps (lessT T k) i = kps T i := fun i hi => less_kps h (by simp only [onDay, decide_eq_false_iff_not]; simp only [dayD'] at m2; omega)
  have ha : kps T (mo T k) = ((T.tests.take k).filter (onDay (T.first + mo T k))).map (keep T.rule) ++ kp T k :: ((T.tests.drop (k + 1)).filter (onDay (T.first + mo T k))).map (keep T.rule) := by
    have hd : onDay (T.first + mo T k) (testD T.tests k) = true := by simp only [onDay, decide_eq_true_eq]; simp only [dayD'] at m2; omega
    rw [kps_at]
    conv => lhs; rw [tests_split h]
    rw [List.filter_append, List.filter_cons, hd, if_pos rfl, List.map_append, List.map_cons]; rfl
  have hb : kps (lessT T k) (mo T k) = ((T.tests.take k).filter (onDay (T.first + mo T k))).map (keep T.rule) ++ ((T.tests.drop (k + 1)).filter (onDay (T.first + mo T k))).map (keep T.rule) := by
    rw [kps_at]
    show ((T.tests.take k ++ T.tests.drop (k + 1)).filter (onDay (T.first + mo T k))).map (keep T.rule) = _
    rw [List.filter_append, List.map_append]
  have hm := struck_met hk h hs
  have key : ∀ s : Span × Nat, s = ((dawn T (mo T k)).now, (dawn T (mo T k)).struck.length) → (kps T (mo T k)).foldl nc s = (((kps (lessT T k) (mo T k)).foldl nc s).1, ((kps (lessT T k) (mo T k)).foldl nc s).2 + 1) := by
    rintro s rfl
    rw [ha, hb, List.foldl_append, List.foldl_append, List.foldl_cons]
    rw [show nc _ (kp T k) = _ from if_pos hm]
    exact nc_count _ _ _ 1
  intro i
  induction i with
  | zero =>
    refine ⟨fun hi => by rw [dnc, dnc, hne 0 (by omega)], fun hi => ?_⟩
    have e : mo T k = 0 := by omega
    rw [e] at key
    exact key _ rfl
  | succ i ih =>
    refine ⟨fun hi => by rw [dnc, dnc, hne (i + 1) (by omega), ih.1 (by omega)], fun hi => ?_⟩
    rcases Nat.eq_or_lt_of_le hi with e | h1
    · rw [dnc, dnc, ih.1 (by omega), ← e]
      refine key _ ?_
      rw [dusk_nc, e]; rfl
    · have h2 := ih.2 (by omega)
      rw [dnc, dnc, h2, hne (i + 1) (by omega)]
      exact nc_count _ _ _ 1
theorem lv_congr {T U : Task} (hR : U.rule = T.rule) (hl : U.days.length = T.days.length) (hF : ∀ i, i < T.days.length → spanD (forces U) i = spanD (forces T) i) (hf : ∀ i, i ≤ T.days.length → fwd U i = fwd T i) : ∀ d i, T.days.length - i = d → i ≤ T.days.length → lv U i = lv T i
  | 0, i, h, hi => by
    obtain rfl : i = T.days.length := by omega
    have := lv_last U
    rw [hl] at this
    rw [lv_last, this, hf _ hi]
  | d + 1, i, h, hi => by
    have ih := lv_congr hR hl hF hf d (i + 1) (by omega) (by omega)
    rw [lv_back U (by omega), lv_back T (by omega), ih, hR, hF i (by omega), hf i hi]
theorem fewer_struck {T : Task} (hk : TaskOk T) {k : Nat} (h : k < T.tests.length) (hs : struckB (struckT T) (k : Int) = true) : (∀ i, i ≤ T.days.length → lv (lessT T k) i = lv T i) ∧ (struckT T).length = (struckT (lessT T k)).length + 1 := by
  have hl := less_struck hk h hs
  obtain ⟨m1, m2⟩ := mo_days (days_ok hk) h
  refine ⟨fun i hi => lv_congr (T := T) (U := lessT T k) rfl rfl (fun _ _ => rfl) (fun j hj => ?_) _ i rfl hi, ?_⟩
  · rw [fwd_nc, fwd_nc]
    show (dnc T.rule (spanD (forces T)) (kps (lessT T k)) T.start j).1 = _
    rcases Nat.lt_or_ge j (mo T k) with h1 | h1
    · rw [(hl j).1 h1]
    · rw [(hl j).2 h1]
  · rw [struck_nc, struck_nc]
    show _ = (dnc T.rule (spanD (forces T)) (kps (lessT T k)) T.start T.days.length).2 + 1
    rw [(hl T.days.length).2 m1]
/-- Fewer kept, none struck: none is struck, and more is left. -/
theorem nc_up : ∀ (l : List Span) (s : Span × Nat), s.2 ≤ (l.foldl nc s).2
  | [], _ => Nat.le_refl _
  | k :: l, s => by
    rw [List.foldl_cons]
    refine Nat.le_trans ?_ (nc_up l _)
    unfold nc; split <;> simp
theorem nc_sub {l' l : List Span} (h : l'.Sublist l) : ∀ {s s' : Span}, SubS s s' → (l.foldl nc (s, 0)).2 = 0 → (l'.foldl nc (s', 0)).2 = 0 ∧ SubS (l.foldl nc (s, 0)).1 (l'.foldl nc (s', 0)).1 := by
  have hnb : ∀ {k s : Span} {l : List Span}, ((k :: l).foldl nc (s, 0)).2 = 0 → bad (both s k) = false ∧ (k :: l).foldl nc (s, 0) = l.foldl nc (both s k, 0) := by
    intro k s l h
    rw [List.foldl_cons] at h ⊢
    by_cases hb : bad (both s k) = true
    · have e : nc (s, 0) k = (s, 1) := if_pos hb
      rw [e] at h
      have := nc_up l (s, 1); simp only at this; omega
    · exact ⟨by simpa using hb, by rw [show nc (s, 0) k = (both s k, 0) from if_neg hb]⟩
  induction h with
  | slnil => intro s s' hs h0; exact ⟨rfl, hs⟩
  | cons k h ih =>
    intro s s' hs h0
    obtain ⟨h1, h2⟩ := hnb h0
    rw [h2] at h0 ⊢
    refine ih ?_ h0
    unfold SubS both at *; dsimp only; omega
  | cons_cons k h ih =>
    intro s s' hs h0
    obtain ⟨h1, h2⟩ := hnb h0
    rw [h2] at h0 ⊢
    have hb : ¬ bad (both s' k) = true := fun hb => by
      have a := of_bad hb
      have b := of_decide_eq_false h1
      unfold SubS at hs
      simp only [both] at a b; omega
    rw [List.foldl_cons, show nc (s', 0) k = (both s' k, 0) from if_neg hb]
    refine ih ?_ h0
    unfold SubS both at *; dsimp only; omega
theorem less_sublist (T : Task) (k i : Nat) : (kps (lessT T k) i).Sublist (kps T i) := by
  rw [kps_at, kps_at]
  refine List.Sublist.map _ (List.Sublist.filter _ ?_)
  show (T.tests.take k ++ T.tests.drop (k + 1)).Sublist T.tests
  have h1 : (T.tests.take k ++ T.tests.drop (k + 1)).Sublist (T.tests.take k ++ T.tests.drop k) := by
    refine List.Sublist.append (List.Sublist.refl _) ?_
    rw [← List.drop_drop]
    exact List.drop_sublist _ _
  rwa [List.take_append_drop] at h1
theorem fewer_dnc {T : Task} (hk : TaskOk T) (k : Nat) : ∀ {i : Nat}, i ≤ T.days.length → (dnc T.rule (spanD (forces T)) (kps T) T.start i).2 = 0 → (dnc T.rule (spanD (forces T)) (kps (lessT T k)) T.start i).2 = 0 ∧ SubS (dnc T.rule (spanD (forces T)) (kps T) T.start i).1 (dnc T.rule (spanD (forces T)) (kps (lessT T k)) T.start i).1
  | 0, _, h => nc_sub (less_sublist T k 0) (sub_refl _) h
  | i + 1, hi, h => by
    rw [dnc] at h
    have h0 : (dnc T.rule (spanD (forces T)) (kps T) T.start i).2 = 0 := by
      have := nc_up (kps T (i + 1)) (grow T.rule (spanD (forces T) i) (dnc T.rule (spanD (forces T)) (kps T) T.start i).1, (dnc T.rule (spanD (forces T)) (kps T) T.start i).2)
      simp only at this; omega
    obtain ⟨a, b⟩ := fewer_dnc hk k (i := i) (by omega) h0
    rw [dnc, dnc, a]
    rw [h0] at h ⊢
    exact nc_sub (less_sublist T k (i + 1)) (grow_sub (stepOk_at hk (i := i) hi).g b) h
theorem dnc_mono (R : Rule) (F : Nat → Span) (ks : Nat → List Span) (a : Span) (i : Nat) : ∀ d, (dnc R F ks a i).2 ≤ (dnc R F ks a (i + d)).2
  | 0 => Nat.le_refl _
  | d + 1 => by
    rw [← Nat.add_assoc, dnc]
    refine Nat.le_trans (dnc_mono R F ks a i d) ?_
    exact nc_up (ks (i + d + 1)) (grow R (F (i + d)) (dnc R F ks a (i + d)).1, (dnc R F ks a (i + d)).2)
theorem fewer_none {T : Task} (hk : TaskOk T) {k : Nat} (h : k < T.tests.length) (hs : (struckT T).length = 0) : (∀ i, i ≤ T.days.length → SubS (lv T i) (lv (lessT T k) i)) ∧ (struckT (lessT T k)).length = 0 := by
  rw [struck_nc] at hs
  have hall : ∀ i, i ≤ T.days.length → (dnc T.rule (spanD (forces T)) (kps T) T.start i).2 = 0 := fun i hi => by
    have := dnc_mono T.rule (spanD (forces T)) (kps T) T.start i (T.days.length - i)
    rw [show i + (T.days.length - i) = T.days.length by omega] at this; omega
  have hf : ∀ i, i ≤ T.days.length → SubS (fwd T i) (fwd (lessT T k) i) := fun i hi => by
    rw [fwd_nc, fwd_nc]; exact (fewer_dnc hk k hi (hall i hi)).2
  refine ⟨fun i hi => lv_sub hk (less_ok hk h) rfl (Nat.le_refl T.days.length) (Nat.le_refl T.days.length) (fun _ _ => rfl) hf ?_ _ i rfl hi, ?_⟩
  · have := lv_last (lessT T k)
    have e : (lessT T k).days.length = T.days.length := rfl
    rw [e] at this
    rw [lv_last, this]; exact hf _ (Nat.le_refl _)
  · rw [struck_nc]; exact (fewer_dnc hk k (Nat.le_refl _) hs).1
/-! DecayCooler, DecayMoved: lower forces. -/
structure Lower (T U : Task) : Prop where
  own : U.rule.own ≤ T.rule.own
  feed : U.rule.feed ≤ T.rule.feed
  len : U.days.length = T.days.length
  f : ∀ i, i < T.days.length → (spanD (forces U) i).lo ≤ (spanD (forces T) i).lo ∧ (spanD (forces U) i).hi ≤ (spanD (forces T) i).hi
  start : U.start.lo ≤ T.start.lo ∧ U.start.hi ≤ T.start.hi
  tt : T.tests = []
  ut : U.tests = []
theorem gain_low {R Q : Rule} (ho : Q.own ≤ R.own) (hf : Q.feed ≤ R.feed) (f0 : 0 ≤ Q.feed) {n m : Int} (h : m ≤ n) (h0 : 0 ≤ m) : Q.own * 1000000 + m * Q.feed ≤ R.own * 1000000 + n * R.feed := by
  have := Int.mul_le_mul h hf f0 (by omega)
  omega
theorem least_low {R Q : Rule} {s t : Span} (hR : GrowOk R s) (hQ : GrowOk Q t) (ho : Q.own ≤ R.own) (hf : Q.feed ≤ R.feed) (hs : t.lo ≤ s.lo) {n m : Int} (h : m ≤ n) (h0 : 0 ≤ m) : least Q t m ≤ least R s n := by
  have h1 := gain_low ho hf hQ.f0 h h0
  have h2 := Int.mul_le_mul h1 hs hQ.l0 (gain_nn hR (by omega : 0 ≤ n))
  have := Int.ediv_le_ediv (c := 1000000000) (by omega) h2
  rw [least, least]; omega
theorem most_low {R Q : Rule} {s t : Span} (hR : GrowOk R s) (hQ : GrowOk Q t) (ho : Q.own ≤ R.own) (hf : Q.feed ≤ R.feed) (hs : t.hi ≤ s.hi) {n m : Int} (h : m ≤ n) (h0 : 0 ≤ m) : most Q t m ≤ most R s n := by
  have h1 := gain_low ho hf hQ.f0 h h0
  have h2 := Int.mul_le_mul h1 hs hQ.s0 (gain_nn hR (by omega : 0 ≤ n))
  have := Int.ediv_le_ediv (a := (Q.own * 1000000 + m * Q.feed) * t.hi + 999999999) (b := (R.own * 1000000 + n * R.feed) * s.hi + 999999999) (c := 1000000000) (by omega) (by omega)
  rw [most, most]; omega
theorem low_fwd {T U : Task} (hT : TaskOk T) (hU : TaskOk U) (h : Lower T U) : ∀ {i : Nat}, i ≤ T.days.length → (fwd U i).lo ≤ (fwd T i).lo ∧ (fwd U i).hi ≤ (fwd T i).hi
  | 0, _ => by
    rw [fwd_nc U, fwd_nc T, dnc, dnc, bare_kps h.tt, bare_kps h.ut]
    exact h.start
  | i + 1, hi => by
    have ih := low_fwd hT hU h (i := i) (by omega)
    rw [fwd_bare (bare_kps h.tt _), fwd_bare (bare_kps h.ut _)]
    have hu : i ≤ U.days.length := by rw [h.len]; omega
    obtain ⟨⟨⟨f1, f2⟩, f3, f4⟩, f5⟩ := fwd_sp hU (i := i) hu
    have g1 := growOk_at hT (i := i) hi
    have g2 := growOk_at hU (i := i) (by rw [h.len]; exact hi)
    exact ⟨least_low g1 g2 h.own h.feed (h.f i hi).1 ih.1 f1, most_low g1 g2 h.own h.feed (h.f i hi).2 ih.2 f3⟩
theorem low_lv {T U : Task} (hT : TaskOk T) (hU : TaskOk U) (h : Lower T U) {i : Nat} (hi : i ≤ T.days.length) : (lv U i).lo ≤ (lv T i).lo ∧ (lv U i).hi ≤ (lv T i).hi := by
  rw [lv_bare hT (i0 := 0) (fun j _ _ => bare_kps h.tt j) _ i rfl (Nat.zero_le _) hi, lv_bare hU (i0 := 0) (fun j _ _ => bare_kps h.ut j) _ i rfl (Nat.zero_le _) (by rw [h.len]; exact hi)]
  exact low_fwd hT hU h hi
theorem firstDay_later {first : Int} (h0 : 0 ≤ first) {p q : Nat → Bool} {n : Nat} (h : ∀ i, i < n → q i = true → p i = true) : laterB (firstDay first q n) (firstDay first p n) = true := by
  unfold laterB
  rw [decide_eq_true_iff]
  rcases Int.lt_or_le (firstDay first q n) 0 with h1 | h1
  · exact .inl h1
  · right
    obtain ⟨k, a, b, c⟩ := firstDay_at h0 h1
    have := firstDay_le h0 a (h k a c)
    omega
theorem low_lost {T U : Task} (hT : TaskOk T) (hU : TaskOk U) (h : Lower T U) (hf : U.first = T.first) (hl : U.rule.lost = T.rule.lost) : laterB (lostT U).lo (lostT T).lo = true ∧ laterB (lostT U).hi (lostT T).hi = true := by
  unfold lostT
  rw [h.len, hf]
  refine ⟨firstDay_later hT.first.1 fun i hi hq => ?_, firstDay_later hT.first.1 fun i hi hq => ?_⟩
  · have := low_lv hT hU h (i := i) (by omega)
    have hq' := of_decide_eq_true hq
    exact decide_eq_true (by omega)
  · have := low_lv hT hU h (i := i) (by omega)
    have hq' := of_decide_eq_true hq
    exact decide_eq_true (by omega)
end Go.Proofs.Ytfjbgcaogffiaaa
