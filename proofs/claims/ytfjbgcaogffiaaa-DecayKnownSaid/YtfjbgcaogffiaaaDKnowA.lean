/-
  Plain: levels grow in step; what is known of a morning is not empty.
  Plain: the levels of each morning.
  Plain: the reference's known: the tests that are taken, morning by morning.
  Plain: the tests in order, morning by morning; what strikes.
  Plain: the first morning on which something holds; Lost.
-/
import Derived.Test.YtfjbgcaogffiaaaDRefTk
namespace Go.Proofs.Ytfjbgcaogffiaaa
open D
theorem ge_mono {l : List Pt} {n m : Int} (h : n ≤ m) : ge l n ≤ ge l m := by
  rcases Nat.lt_or_ge (ge l m) (ge l n) with h1 | h1
  · have h2 := ge_before h1
    have h3 := ge_at (l := l) (n := m) (by have := ge_le l n; omega)
    omega
  · exact h1
theorem seg_rng {lo hi n : Int} {l : List Pt} (h : CurveOk lo hi l) (hn : FacOk lo hi n) (h1 : ge l n ≠ 0) (h2 : ge l n ≠ l.length) :
    (ptD l (ge l n - 1)).fac ≤ interp (ptD l (ge l n - 1)) (ptD l (ge l n)) n ∧ interp (ptD l (ge l n - 1)) (ptD l (ge l n)) n ≤ (ptD l (ge l n)).fac := by
  have hg := ge_le l n
  have hb := interp_bounds h hn (k := ge l n - 1) (by omega) (ge_before (by omega))
  have hat := ge_at (l := l) (n := n) (by omega)
  rw [show ge l n - 1 + 1 = ge l n by omega] at hb
  obtain ⟨b1, b2, b3, b4⟩ := hb
  rw [interp]
  have q0 := Int.ediv_nonneg b4.1 (show 0 ≤ (ptD l (ge l n)).at_ - (ptD l (ge l n - 1)).at_ by omega)
  have q1 : ((ptD l (ge l n)).fac - (ptD l (ge l n - 1)).fac) * (n - (ptD l (ge l n - 1)).at_) / ((ptD l (ge l n)).at_ - (ptD l (ge l n - 1)).at_) ≤ (ptD l (ge l n)).fac - (ptD l (ge l n - 1)).fac := by
    refine Int.ediv_le_of_le_mul (by omega) ?_
    exact Int.mul_le_mul_of_nonneg_left (by omega) b1.1
  omega
theorem fac_mono {lo hi : Int} {l : List Pt} (h : CurveOk lo hi l) {i j : Nat} (hij : i ≤ j) (hj : j < l.length) : (ptD l i).fac ≤ (ptD l j).fac := by
  have := (h.mono (i := i) (d := j - i) (by omega)).2
  rwa [show i + (j - i) = j by omega] at this
theorem factor_mono {lo hi n m : Int} {l : List Pt} (h : CurveOk lo hi l) (hn : FacOk lo hi n) (hm : FacOk lo hi m) (hnm : n ≤ m) : factor l n ≤ factor l m := by
  have hl := h.len
  have hg := ge_mono (l := l) hnm
  have hgl := ge_le l m
  have up : ge l n < ge l m → factor l n ≤ (ptD l (ge l n)).fac := fun hlt => by
    rw [factor]
    by_cases h1 : ge l n = 0
    · rw [if_pos h1, h1]; exact Int.le_refl _
    · rw [if_neg h1, if_neg (by omega)]; exact (seg_rng h hn h1 (by omega)).2
  have dn : 0 < ge l m → (ptD l (ge l m - 1)).fac ≤ factor l m := fun h0 => by
    rw [factor, if_neg (by omega)]
    by_cases h1 : ge l m = l.length
    · rw [if_pos h1, h1]; exact Int.le_refl _
    · rw [if_neg h1]; exact (seg_rng h hm (by omega) h1).1
  rcases Nat.eq_or_lt_of_le hg with he | hlt
  · rw [factor, factor, ← he]
    by_cases h1 : ge l n = 0
    · rw [if_pos h1, if_pos h1]; exact Int.le_refl _
    · rw [if_neg h1, if_neg h1]
      by_cases h2 : ge l n = l.length
      · rw [if_pos h2, if_pos h2]; exact Int.le_refl _
      · rw [if_neg h2, if_neg h2, interp, interp]
        have hb := (interp_bounds h hn (k := ge l n - 1) (by omega) (ge_before (by omega)))
        rw [show ge l n - 1 + 1 = ge l n by omega] at hb
        obtain ⟨b1, b2, b3, b4⟩ := hb
        have := Int.ediv_le_ediv (c := (ptD l (ge l n)).at_ - (ptD l (ge l n - 1)).at_) (by omega) (Int.mul_le_mul_of_nonneg_left (show n - (ptD l (ge l n - 1)).at_ ≤ m - (ptD l (ge l n - 1)).at_ by omega) b1.1)
        omega
  · have h1 := up hlt
    have h2 := dn (by omega)
    have h3 := fac_mono h (i := ge l n) (j := ge l m - 1) (by omega) (by omega)
    omega
theorem facOk_heat {n : Int} (h : -300 ≤ n ∧ n ≤ 600) : FacOk (-300) 600 n := ⟨by omega, by omega, h.1, h.2⟩
theorem facOk_wet {n : Int} (h : 0 ≤ n ∧ n ≤ 1000) : FacOk 0 1000 n := ⟨by omega, by omega, h.1, h.2⟩
theorem strength_up {R : Rule} (hR : RuleOk R) {t t' d d' : Int} (ht : -300 ≤ t ∧ t ≤ 600) (ht' : -300 ≤ t' ∧ t' ≤ 600) (hd : 0 ≤ d ∧ d ≤ 1000) (hd' : 0 ≤ d' ∧ d' ≤ 1000) (h1 : t ≤ t') (h2 : d ≤ d') :
    factor R.heat t * factor R.wet d / 1000 ≤ factor R.heat t' * factor R.wet d' / 1000 := by
  have a := factor_mono hR.heat (facOk_heat ht) (facOk_heat ht') h1
  have b := factor_mono hR.wet (facOk_wet hd) (facOk_wet hd') h2
  have c := factor_rng hR.wet (facOk_wet hd)
  have e := factor_rng hR.heat (facOk_heat ht')
  exact Int.ediv_le_ediv (by omega) (Int.mul_le_mul a b c.1 e.1)
theorem strength_le {R : Rule} {d : Day} (hR : RuleOk R) (hd : DayOk d) : (strength R d).lo ≤ (strength R d).hi := strength_up hR hd.t0 hd.t1 hd.d0 hd.d1 hd.t hd.d
theorem gain_nn {R : Rule} {s : Span} (h : GrowOk R s) {n : Int} (n0 : 0 ≤ n) : 0 ≤ R.own * 1000000 + n * R.feed := by
  have := Int.mul_nonneg n0 h.f0; have := h.o0; omega
theorem gain_mono {R : Rule} {s : Span} (h : GrowOk R s) {n m : Int} (hnm : n ≤ m) : R.own * 1000000 + n * R.feed ≤ R.own * 1000000 + m * R.feed := by
  have := Int.mul_le_mul_of_nonneg_right hnm h.f0; omega
theorem least_mono {R : Rule} {s : Span} (h : GrowOk R s) {n m : Int} (hnm : n ≤ m) : least R s n ≤ least R s m := by
  have := Int.ediv_le_ediv (c := 1000000000) (by omega) (Int.mul_le_mul_of_nonneg_right (gain_mono h hnm) h.l0)
  rw [least, least]; omega
theorem most_mono {R : Rule} {s : Span} (h : GrowOk R s) {n m : Int} (hnm : n ≤ m) : most R s n ≤ most R s m := by
  have h1 := Int.mul_le_mul_of_nonneg_right (gain_mono h hnm) h.s0
  have := Int.ediv_le_ediv (a := (R.own * 1000000 + n * R.feed) * s.hi + 999999999) (b := (R.own * 1000000 + m * R.feed) * s.hi + 999999999) (c := 1000000000) (by omega) (by omega)
  rw [most, most]; omega
theorem least_most {R : Rule} {s : Span} (h : GrowOk R s) (hs : s.lo ≤ s.hi) {n : Int} (n0 : 0 ≤ n) : least R s n ≤ most R s n := by
  have h1 := Int.mul_le_mul_of_nonneg_left hs (gain_nn h n0)
  have := Int.ediv_le_ediv (a := (R.own * 1000000 + n * R.feed) * s.lo) (b := (R.own * 1000000 + n * R.feed) * s.hi + 999999999) (c := 1000000000) (by omega) (by omega)
  rw [least, most]; omega
/-- No level is jumped over. -/
theorem least_next {R : Rule} {s : Span} (h : GrowOk R s) (hs : s.lo ≤ s.hi) {n : Int} (n0 : 0 ≤ n) : least R s (n + 1) ≤ most R s n + 1 := by
  have h1 := Int.mul_le_mul_of_nonneg_left hs (gain_nn h n0)
  have h2 : (R.own * 1000000 + (n + 1) * R.feed) * s.lo = (R.own * 1000000 + n * R.feed) * s.lo + R.feed * s.lo := by
    rw [Int.add_mul n 1, Int.one_mul, ← Int.add_assoc, Int.add_mul]
  have h3 : R.feed * s.lo ≤ 999999 * 1000 := Int.mul_le_mul h.f1 h.l1 h.l0 (by omega)
  have := Int.ediv_le_ediv (a := (R.own * 1000000 + (n + 1) * R.feed) * s.lo) (b := (R.own * 1000000 + n * R.feed) * s.hi + 999999999) (c := 1000000000) (by omega) (by omega)
  rw [least, most]; omega
end Go.Proofs.Ytfjbgcaogffiaaa
namespace Go.Proofs.Ytfjbgcaogffiaaa
open D
theorem upTo_spec {p : Int → Bool} : ∀ {n : Nat} {lo z : Int}, lo ≤ z → z < lo + n → p z = true → lo ≤ upTo p lo n ∧ upTo p lo n ≤ z ∧ p (upTo p lo n) = true ∧ ∀ y, lo ≤ y → y < upTo p lo n → p y = false
  | 0, lo, z, h1, h2, _ => by omega
  | n + 1, lo, z, h1, h2, h3 => by
    rw [upTo]
    by_cases hp : p lo = true
    · rw [if_pos hp]; exact ⟨Int.le_refl _, h1, hp, fun y a b => by omega⟩
    · rw [if_neg hp]
      have hz : lo + 1 ≤ z := by
        rcases Int.lt_or_eq_of_le h1 with h | rfl
        · omega
        · exact absurd h3 hp
      obtain ⟨a, b, c, d⟩ := upTo_spec (p := p) (n := n) (lo := lo + 1) (z := z) hz (by omega) h3
      refine ⟨by omega, b, c, fun y h4 h5 => ?_⟩
      rcases Int.lt_or_eq_of_le h4 with h | rfl
      · exact d y (by omega) h5
      · exact by simpa using hp
theorem dnTo_spec {p : Int → Bool} : ∀ {n : Nat} {hi z : Int}, z ≤ hi → hi - n < z → p z = true → dnTo p hi n ≤ hi ∧ z ≤ dnTo p hi n ∧ p (dnTo p hi n) = true ∧ ∀ y, y ≤ hi → dnTo p hi n < y → p y = false
  | 0, hi, z, h1, h2, _ => by omega
  | n + 1, hi, z, h1, h2, h3 => by
    rw [dnTo]
    by_cases hp : p hi = true
    · rw [if_pos hp]; exact ⟨Int.le_refl _, h1, hp, fun y a b => by omega⟩
    · rw [if_neg hp]
      have hz : z ≤ hi - 1 := by
        rcases Int.lt_or_eq_of_le h1 with h | rfl
        · omega
        · exact absurd h3 hp
      obtain ⟨a, b, c, d⟩ := dnTo_spec (p := p) (n := n) (hi := hi - 1) (z := z) hz (by omega) h3
      refine ⟨by omega, b, c, fun y h4 h5 => ?_⟩
      rcases Int.lt_or_eq_of_le h4 with h | rfl
      · exact d y (by omega) h5
      · exact by simpa using hp
structure StepOk (R : Rule) (s : Span) : Prop where
  g : GrowOk R s
  le : s.lo ≤ s.hi
theorem stepOk_at {T : Task} (hk : TaskOk T) {i : Nat} (h : i < T.days.length) : StepOk T.rule (spanD (forces T) i) := by
  rw [force_at h]; exact ⟨grow_ok hk.rule (hk.days i h), strength_le hk.rule (hk.days i h)⟩
def SpOk (a : Span) : Prop := LevOk a ∧ a.lo ≤ a.hi
theorem grow_sp {R : Rule} {s : Span} (h : StepOk R s) {a : Span} (ha : SpOk a) : SpOk (grow R s a) := by
  refine ⟨grow_lev h.g ha.1, ?_⟩
  have h1 := least_most h.g h.le ha.1.1.1
  have h2 := most_mono h.g ha.2
  simp only [grow]; omega
theorem kp_sp {T : Task} (hk : TaskOk T) {j : Nat} (h : j < T.tests.length) : SpOk (kp T j) := keep_lev hk.rule (hk.tests j h).1
theorem both_sp {a b : Span} (ha : LevOk a) (hb : LevOk b) (h : bad (both a b) = false) : SpOk (both a b) := by
  obtain ⟨⟨a1, a2⟩, a3, a4⟩ := ha
  obtain ⟨⟨b1, b2⟩, b3, b4⟩ := hb
  have h' := of_decide_eq_false h
  simp only [both] at h'
  simp only [SpOk, LevOk, both]; omega
theorem step_sp {T : Task} (hk : TaskOk T) {i j : Nat} (hj : j < T.tests.length) {s : Mst} (hs : SpOk s.now) : SpOk (tstep T i s j).now ∧ s.now.lo ≤ (tstep T i s j).now.lo ∧ (tstep T i s j).now.hi ≤ s.now.hi := by
  rw [tstep]
  by_cases h : bad (both s.now (kp T j)) = true
  · rw [if_pos h]; exact ⟨hs, Int.le_refl _, Int.le_refl _⟩
  · rw [if_neg h]
    refine ⟨both_sp hs.1 (kp_sp hk hj).1 (by simpa using h), ?_⟩
    simp only [both]; omega
theorem fold_sp {T : Task} (hk : TaskOk T) {i : Nat} : ∀ (l : List Nat), (∀ j ∈ l, j < T.tests.length) → ∀ {s : Mst}, SpOk s.now → SpOk (l.foldl (tstep T i) s).now ∧ s.now.lo ≤ (l.foldl (tstep T i) s).now.lo ∧ (l.foldl (tstep T i) s).now.hi ≤ s.now.hi
  | [], _, s, hs => ⟨hs, Int.le_refl _, Int.le_refl _⟩
  | j :: l, hl, s, hs => by
    have h1 := step_sp hk (i := i) (hl j List.mem_cons_self) hs
    have h2 := fold_sp hk (i := i) l (fun j hj => hl j (List.mem_cons_of_mem _ hj)) h1.1
    rw [List.foldl_cons]; exact ⟨h2.1, by omega, by omega⟩
theorem dayTests_lt {T : Task} {i j : Nat} (h : j ∈ dayTests T i) : j < T.tests.length := (cls_mem.1 h).1
theorem dusk_sp {T : Task} (hk : TaskOk T) : ∀ {i : Nat}, i ≤ T.days.length → SpOk (dawn T i).now ∧ SpOk (dusk T i).now ∧ (dawn T i).now.lo ≤ (fwd T i).lo ∧ (fwd T i).hi ≤ (dawn T i).now.hi
  | 0, _ => by
    have h0 : SpOk (dawn T 0).now := ⟨⟨hk.start.1, hk.start.2.1⟩, hk.start.2.2⟩
    exact ⟨h0, fold_sp hk _ (fun j hj => dayTests_lt hj) h0⟩
  | i + 1, hi => by
    have ih := (dusk_sp hk (i := i) (by omega)).2.1
    have h0 : SpOk (dawn T (i + 1)).now := grow_sp (stepOk_at hk (by omega)) ih
    exact ⟨h0, fold_sp hk _ (fun j hj => dayTests_lt hj) h0⟩
theorem fwd_sp {T : Task} (hk : TaskOk T) {i : Nat} (hi : i ≤ T.days.length) : SpOk (fwd T i) := (dusk_sp hk hi).2.1
theorem fwd_next {T : Task} (hk : TaskOk T) {i : Nat} (hi : i < T.days.length) : least T.rule (spanD (forces T) i) (fwd T i).lo ≤ (fwd T (i + 1)).lo ∧ (fwd T (i + 1)).hi ≤ most T.rule (spanD (forces T) i) (fwd T i).hi := (dusk_sp hk (i := i + 1) hi).2.2
/-- A level from which a wanted one can follow. -/
theorem some_level {R : Rule} {s : Span} (h : StepOk R s) {a : Span} {c : Int} (h0 : 0 ≤ a.lo) (h1 : least R s a.lo ≤ c) (h2 : c ≤ most R s a.hi) : ∀ (n : Nat), a.hi = a.lo + n → ∃ z, a.lo ≤ z ∧ z ≤ a.hi ∧ least R s z ≤ c ∧ c ≤ most R s z := by
  intro n
  induction n generalizing a with
  | zero => intro hn; exact ⟨a.lo, Int.le_refl _, by omega, h1, by rw [show a.lo = a.hi by omega]; exact h2⟩
  | succ n ih =>
    intro hn
    by_cases hc : c ≤ most R s a.lo
    · exact ⟨a.lo, Int.le_refl _, by omega, h1, hc⟩
    · have h3 := least_next h.g h.le h0
      obtain ⟨z, z1, z2, z3⟩ := ih (a := ⟨a.lo + 1, a.hi⟩) (by simp only; omega) (by simp only; omega) h2 (by simp only; omega)
      simp only at z1 z2
      exact ⟨z, by omega, z2, z3⟩
structure BackOk (R : Rule) (s a b x : Span) : Prop where
  sp : SpOk x
  lo : a.lo ≤ x.lo
  hi : x.hi ≤ a.hi
  lo1 : b.lo ≤ most R s x.lo
  lo2 : ∀ y, a.lo ≤ y → y < x.lo → most R s y < b.lo
  hi1 : least R s x.hi ≤ b.hi
  hi2 : ∀ y, y ≤ a.hi → x.hi < y → b.hi < least R s y
theorem back_ok {R : Rule} {s a b : Span} (h : StepOk R s) (ha : SpOk a) (hb : b.lo ≤ b.hi) (h1 : least R s a.lo ≤ b.lo) (h2 : b.hi ≤ most R s a.hi) : BackOk R s a b (back R s a b) := by
  obtain ⟨z, z1, z2, z3, z4⟩ := some_level h (c := b.lo) ha.1.1.1 h1 (by omega) (a.hi - a.lo).toNat (by have := ha.2; omega)
  have hn : ((a.hi - a.lo + 1).toNat : Int) = a.hi - a.lo + 1 := by have := ha.2; omega
  obtain ⟨u1, u2, u3, u4⟩ := upTo_spec (p := fun x => decide (b.lo ≤ most R s x)) (n := (a.hi - a.lo + 1).toNat) (lo := a.lo) (z := z) z1 (by omega) (decide_eq_true z4)
  obtain ⟨d1, d2, d3, d4⟩ := dnTo_spec (p := fun x => decide (least R s x ≤ b.hi)) (n := (a.hi - a.lo + 1).toNat) (hi := a.hi) (z := z) z2 (by omega) (decide_eq_true (by omega))
  obtain ⟨⟨a1, a2⟩, a3, a4⟩ := ha.1
  have hle : (back R s a b).lo ≤ (back R s a b).hi := by simp only [back]; omega
  refine ⟨⟨⟨⟨?_, ?_⟩, ?_, ?_⟩, hle⟩, u1, d1, of_decide_eq_true u3, fun y y1 y2 => ?_, of_decide_eq_true d3, fun y y1 y2 => ?_⟩
  · simp only [back]; omega
  · simp only [back]; omega
  · simp only [back]; omega
  · simp only [back]; omega
  · have := of_decide_eq_false (u4 y y1 y2); omega
  · have := of_decide_eq_false (d4 y y1 y2); omega
theorem lv_sp {T : Task} (hk : TaskOk T) : ∀ (d i : Nat), T.days.length - i = d → i ≤ T.days.length → SpOk (lv T i) ∧ (fwd T i).lo ≤ (lv T i).lo ∧ (lv T i).hi ≤ (fwd T i).hi
  | 0, i, h, hi => by
    obtain rfl : i = T.days.length := by omega
    rw [lv_last]; exact ⟨fwd_sp hk hi, Int.le_refl _, Int.le_refl _⟩
  | d + 1, i, h, hi => by
    obtain ⟨i1, i2, i3⟩ := lv_sp hk d (i + 1) (by omega) (by omega)
    have hn := fwd_next hk (i := i) (by omega)
    have hb := back_ok (stepOk_at hk (i := i) (by omega)) (fwd_sp hk hi) i1.2 (by omega) (by omega)
    rw [lv_back _ (by omega)]
    exact ⟨hb.sp, hb.lo, hb.hi⟩
theorem lv_ok {T : Task} (hk : TaskOk T) {i : Nat} (hi : i ≤ T.days.length) : SpOk (lv T i) ∧ (fwd T i).lo ≤ (lv T i).lo ∧ (lv T i).hi ≤ (fwd T i).hi := lv_sp hk _ i rfl hi
theorem lv_backOk {T : Task} (hk : TaskOk T) {i : Nat} (hi : i < T.days.length) : BackOk T.rule (spanD (forces T) i) (fwd T i) (lv T (i + 1)) (lv T i) := by
  obtain ⟨i1, i2, i3⟩ := lv_ok hk (i := i + 1) (by omega)
  have hn := fwd_next hk (i := i) hi
  rw [lv_back _ hi]
  exact back_ok (stepOk_at hk hi) (fwd_sp hk (by omega)) i1.2 (by omega) (by omega)
end Go.Proofs.Ytfjbgcaogffiaaa
namespace Go.Proofs.Ytfjbgcaogffiaaa
open D
def gF (T : Task) (i : Nat) (s : Span) (j : Nat) : Span := if mo T j = i then both s (kp T j) else s
theorem gF_none {T : Task} {i : Nat} : ∀ {l : List Nat} {s : Span}, (∀ j ∈ l, mo T j ≠ i) → l.foldl (gF T i) s = s
  | [], _, _ => rfl
  | j :: l, s, h => by
    rw [List.foldl_cons, gF, if_neg (h j List.mem_cons_self)]
    exact gF_none fun j hj => h j (List.mem_cons_of_mem _ hj)
theorem day_new (T : Task) (i : Nat) : ∀ (l : List Nat), (∀ j ∈ l, mo T j = i) → ∀ (s : Mst), ∃ new, (l.foldl (tstep T i) s).good = s.good ++ new ∧ (∀ j ∈ new, mo T j = i) ∧ new.foldl (gF T i) s.now = (l.foldl (tstep T i) s).now
  | [], _, s => ⟨[], by simp, fun j hj => (by cases hj), rfl⟩
  | j :: l, h, s => by
    have hj := h j List.mem_cons_self
    obtain ⟨new, n1, n2, n3⟩ := day_new T i l (fun j hj => h j (List.mem_cons_of_mem _ hj)) (tstep T i s j)
    rw [List.foldl_cons]
    by_cases hb : bad (both s.now (kp T j)) = true
    · have e : tstep T i s j = { s with struck := s.struck ++ [⟨(j : Int), byOf T s.good i (kp T j)⟩] } := by rw [tstep, if_pos hb]
      rw [e] at n1 n3 ⊢
      exact ⟨new, n1, n2, n3⟩
    · have e : tstep T i s j = ⟨both s.now (kp T j), s.good ++ [j], s.struck⟩ := by rw [tstep, if_neg hb]
      rw [e] at n1 n3 ⊢
      refine ⟨j :: new, by rw [n1]; simp, fun k hk => ?_, by rw [List.foldl_cons, gF, if_pos hj]; exact n3⟩
      rcases List.mem_cons.1 hk with rfl | hk
      · exact hj
      · exact n2 k hk
theorem dawn_mo (T : Task) : ∀ (m : Nat), ∀ j ∈ (dawn T m).good, mo T j < m
  | 0, j, hj => by cases hj
  | m + 1, j, hj => by
    obtain ⟨new, n1, n2, _⟩ := day_new T m (dayTests T m) (fun j hj => (mo_of hj).1) (dawn T m)
    have e : (dawn T (m + 1)).good = (dawn T m).good ++ new := n1
    rw [e, List.mem_append] at hj
    rcases hj with hj | hj
    · have := dawn_mo T m j hj; omega
    · have := n2 j hj; omega
theorem gF_at (T : Task) (i : Nat) : (dusk T i).good.foldl (gF T i) (dawn T i).now = fwd T i := by
  obtain ⟨new, n1, n2, n3⟩ := day_new T i (dayTests T i) (fun j hj => (mo_of hj).1) (dawn T i)
  have e : (dusk T i).good = (dawn T i).good ++ new := n1
  rw [e, List.foldl_append, gF_none (l := (dawn T i).good) fun j hj => by have := dawn_mo T i j hj; omega]
  exact n3
theorem gF_after (T : Task) (i : Nat) : ∀ d, (dusk T (i + d)).good.foldl (gF T i) (dawn T i).now = fwd T i
  | 0 => gF_at T i
  | d + 1 => by
    obtain ⟨new, n1, n2, _⟩ := day_new T (i + d + 1) (dayTests T (i + d + 1)) (fun j hj => (mo_of hj).1) (dawn T (i + d + 1))
    have e : (dusk T (i + d + 1)).good = (dusk T (i + d)).good ++ new := n1
    rw [show i + (d + 1) = i + d + 1 by omega, e, List.foldl_append, gF_after T i d]
    exact gF_none fun j hj => by have := n2 j hj; omega
theorem gF_end (T : Task) {i : Nat} (hi : i ≤ T.days.length) : (goodT T).foldl (gF T i) (dawn T i).now = fwd T i := by
  have := gF_after T i (T.days.length - i)
  rwa [show i + (T.days.length - i) = T.days.length by omega] at this
def nowAt (T : Task) (i : Nat) : Span := if i = 0 then T.start else fwd T (i - 1)
theorem dawn_next (T : Task) {i : Nat} (h : 0 < i) : (dawn T i).now = grow T.rule (spanD (forces T) (i - 1)) (nowAt T i) := by
  obtain ⟨i, rfl⟩ : ∃ k, i = k + 1 := ⟨i - 1, by omega⟩
  rw [nowAt, if_neg (by omega)]; rfl
theorem dawn_zero (T : Task) : (dawn T 0).now = nowAt T 0 := rfl
theorem on_one (R : Rule) (F : List Span) (n : Span) {i : Nat} (h : 0 < i) : on R F n (i - 1) i = grow R (spanD F (i - 1)) n := by
  rw [on, show i - (i - 1) = 1 by omega]; rfl
theorem good_lt {T : Task} (hd : Days T) : ∀ j ∈ goodT T, j < T.tests.length := fun j hj => by
  have h := rinv (T := T) (Nat.le_refl T.tests.length)
  rw [← (rfold_end hd).1] at hj
  obtain ⟨i, h1, h2⟩ := h.good j hj
  rw [h2]; exact order_lt h1
theorem good_len {T : Task} (hd : Days T) : (goodT T).length ≤ T.tests.length ∧ (struckT T).length ≤ T.tests.length := by
  have h := rinv (T := T) (Nat.le_refl T.tests.length)
  rw [← (rfold_end hd).1, ← (rfold_end hd).2]
  exact ⟨h.glen, h.slen⟩
/-- Cells of spans, by a function. -/
def spC (f : Nat → Span) (i : Nat) : Nat → Value
  | 0 => .int .i64 (f i).lo
  | _ => .int .i64 (f i).hi
theorem spC_levels {T : Task} {i : Nat} (hi : i ≤ T.days.length) (j : Nat) : spC (lv T) i j = spanC (levelsT T) i j := by
  have e : spanD (levelsT T) i = lv T i := by
    have h1 : i < (levelsT T).length := by simp [levelsT]; omega
    rw [spanD, List.getD_eq_getElem?_getD, List.getElem?_eq_getElem h1]
    simp [levelsT]
  match j with
  | 0 => simp only [spC, spanC, e]
  | j + 1 => simp only [spC, spanC, e]
theorem levels_len (T : Task) : (levelsT T).length = T.days.length + 1 := by simp [levelsT]
end Go.Proofs.Ytfjbgcaogffiaaa
namespace Go.Proofs.Ytfjbgcaogffiaaa
open D
theorem byDay_split {d : Nat → Int} {first : Int} {m : Nat} : ∀ {a b : Nat}, a ≤ b → ∃ S, byDay d first m b = byDay d first m a ++ S ∧ ∀ y ∈ S, first + a ≤ d y
  | a, 0, h => by obtain rfl : a = 0 := by omega
                  exact ⟨[], by simp, fun y hy => by cases hy⟩
  | a, b + 1, h => by
    rcases Nat.eq_or_lt_of_le h with rfl | h1
    · exact ⟨[], by simp, fun y hy => by cases hy⟩
    · obtain ⟨S, e, hs⟩ := byDay_split (d := d) (first := first) (m := m) (a := a) (b := b) (by omega)
      refine ⟨S ++ cls d (first + b) m, by rw [byDay, e, List.append_assoc], fun y hy => ?_⟩
      rcases List.mem_append.1 hy with hy | hy
      · exact hs y hy
      · have := cls_mem.1 hy; omega
def pos (T : Task) (k : Nat) : Nat := (byDay (dayD' T) T.first T.tests.length k).length
theorem pos_zero (T : Task) : pos T 0 = 0 := rfl
theorem pos_succ (T : Task) (k : Nat) : pos T (k + 1) = pos T k + (dayTests T k).length := by
  unfold pos; rw [byDay, List.length_append]; rfl
theorem pos_le {T : Task} (h : Days T) {k : Nat} (hk : k ≤ T.days.length + 1) : pos T k ≤ T.tests.length := by
  obtain ⟨S, e, _⟩ := byDay_split (d := dayD' T) (first := T.first) (m := T.tests.length) hk
  have := order_len T
  rw [order_byDay h, e, List.length_append] at this
  unfold pos; omega
theorem ord_at {T : Task} (h : Days T) {k q : Nat} (hk : k ≤ T.days.length) (hq : q < (dayTests T k).length) : (orderT T).getD (pos T k + q) 0 = (dayTests T k)[q] := by
  obtain ⟨S, e, _⟩ := byDay_split (d := dayD' T) (first := T.first) (m := T.tests.length) (a := k + 1) (b := T.days.length + 1) (by omega)
  have e2 : byDay (dayD' T) T.first T.tests.length (k + 1) = byDay (dayD' T) T.first T.tests.length k ++ dayTests T k := rfl
  rw [order_byDay h, e, e2, List.getD_eq_getElem?_getD, List.append_assoc, List.getElem?_append_right (by unfold pos; omega)]
  have : pos T k + q - (byDay (dayD' T) T.first T.tests.length k).length = q := by unfold pos; omega
  rw [this, List.getElem?_append_left hq, List.getElem?_eq_getElem hq]; rfl
theorem ord_later {T : Task} (h : Days T) {k c : Nat} (hk : k ≤ T.days.length) (hc : pos T (k + 1) ≤ c) (hn : c < T.tests.length) : T.first + k < dayD' T ((orderT T).getD c 0) := by
  obtain ⟨S, e, hs⟩ := byDay_split (d := dayD' T) (first := T.first) (m := T.tests.length) (a := k + 1) (b := T.days.length + 1) (by omega)
  have hl := order_len T
  rw [order_byDay h] at hl ⊢
  rw [e] at hl ⊢
  rw [List.length_append] at hl
  have h1 : c - (byDay (dayD' T) T.first T.tests.length (k + 1)).length < S.length := by unfold pos at hc; omega
  rw [List.getD_eq_getElem?_getD, List.getElem?_append_right hc, List.getElem?_eq_getElem h1]
  have := hs _ (List.getElem_mem h1)
  simp only [Option.getD_some]; omega
/-- The state on a morning behind q of its tests. -/
def stq (T : Task) (k q : Nat) : Mst := ((dayTests T k).take q).foldl (tstep T k) (dawn T k)
theorem stq_zero (T : Task) (k : Nat) : stq T k 0 = dawn T k := rfl
theorem stq_end (T : Task) (k : Nat) : stq T k (dayTests T k).length = dusk T k := by unfold stq dusk; rw [List.take_length]
theorem stq_succ (T : Task) {k q : Nat} (h : q < (dayTests T k).length) : stq T k (q + 1) = tstep T k (stq T k q) (dayTests T k)[q] := by
  unfold stq; rw [List.take_succ_eq_append_getElem h, List.foldl_append]; rfl
structure StOk (T : Task) (k : Nat) (c : Nat) (s : Mst) : Prop where
  good : ∀ j ∈ s.good, j < T.tests.length ∧ mo T j ≤ k
  glen : s.good.length ≤ c
  slen : s.struck.length ≤ c
  now : SpOk s.now
theorem tstep_ok {T : Task} (hk : TaskOk T) {k c j : Nat} {s : Mst} (h : StOk T k c s) (hj : j ∈ dayTests T k) : StOk T k (c + 1) (tstep T k s j) := by
  have hm := mo_of hj
  have hs := (step_sp hk (i := k) hm.2 h.now).1
  rw [tstep] at hs ⊢
  split
  · rename_i hb; rw [if_pos hb] at hs
    exact ⟨h.good, by have := h.glen; simp only; omega, by simp only [List.length_append, List.length_cons, List.length_nil]; have := h.slen; omega, hs⟩
  · rename_i hb; rw [if_neg hb] at hs
    refine ⟨fun x hx => ?_, by simp only [List.length_append, List.length_cons, List.length_nil]; have := h.glen; omega, by have := h.slen; simp only; omega, hs⟩
    rcases List.mem_append.1 hx with hx | hx
    · exact h.good x hx
    · have : x = j := by simpa using hx
      rw [this]; exact ⟨hm.2, by omega⟩
theorem stq_ok_of {T : Task} (hk : TaskOk T) {k : Nat} (h : StOk T k (pos T k) (dawn T k)) : ∀ q, q ≤ (dayTests T k).length → StOk T k (pos T k + q) (stq T k q)
  | 0, _ => h
  | q + 1, hq => by
    rw [stq_succ T (by omega), ← Nat.add_assoc]
    exact tstep_ok hk (stq_ok_of hk h q (by omega)) (List.getElem_mem _)
theorem dawn_stok {T : Task} (hk : TaskOk T) : ∀ k, k ≤ T.days.length → StOk T k (pos T k) (dawn T k)
  | 0, _ => ⟨fun j hj => (by cases hj), Nat.le_refl _, Nat.le_refl _, (dusk_sp hk (i := 0) (by omega)).1⟩
  | k + 1, h => by
    have h1 := stq_ok_of hk (dawn_stok hk k (by omega)) _ (Nat.le_refl _)
    rw [stq_end] at h1
    rw [pos_succ]
    exact ⟨fun j hj => ⟨(h1.good j hj).1, Nat.le_succ_of_le (h1.good j hj).2⟩, h1.glen, h1.slen, (dusk_sp hk h).1⟩
theorem stq_ok {T : Task} (hk : TaskOk T) {k q : Nat} (h : k ≤ T.days.length) (hq : q ≤ (dayTests T k).length) : StOk T k (pos T k + q) (stq T k q) := stq_ok_of hk (dawn_stok hk k h) q hq
theorem pos_q {T : Task} (h : Days T) {k q : Nat} (hk : k ≤ T.days.length) (hq : q ≤ (dayTests T k).length) : pos T k + q ≤ T.tests.length := by
  have := pos_le h (k := k + 1) (by omega); rw [pos_succ] at this; omega
/-! What strikes. -/
def badAt (T : Task) (i : Nat) (w : Span) (j : Nat) : Bool := bad (both (aheadT T j i) w)
theorem byOf_none {T : Task} {L : List Nat} {i : Nat} {w : Span} (h : ∀ t, t < L.length → badAt T i w (L.getD t 0) = false) : byOf T L i w = -1 := by
  unfold byOf
  have : L.reverse.find? (fun k => bad (both (aheadT T k i) w)) = none := by
    rw [List.find?_eq_none]
    intro x hx
    obtain ⟨t, ht, rfl⟩ := List.mem_iff_getElem.1 (List.mem_reverse.1 hx)
    have := h t ht
    rw [List.getD_eq_getElem?_getD, List.getElem?_eq_getElem ht] at this
    simp only [Option.getD_some, badAt] at this
    simp [this]
  rw [this]
theorem byOf_hit {T : Task} {L : List Nat} {i : Nat} {w : Span} {m : Nat} (hm : m < L.length) (h1 : badAt T i w (L.getD m 0) = true) (h : ∀ t, m < t → t < L.length → badAt T i w (L.getD t 0) = false) : byOf T L i w = ((L.getD m 0 : Nat) : Int) := by
  have hs : L = L.take m ++ L[m] :: L.drop (m + 1) := by rw [List.getElem_cons_drop, List.take_append_drop]
  have e : L.getD m 0 = L[m] := by rw [List.getD_eq_getElem?_getD, List.getElem?_eq_getElem hm]; rfl
  obtain ⟨x, hx⟩ : ∃ x, x = L[m] := ⟨_, rfl⟩
  rw [← hx] at hs e
  rw [e] at h1 ⊢
  unfold byOf
  have : L.reverse.find? (fun k => bad (both (aheadT T k i) w)) = some x := by
    rw [hs, List.reverse_append, List.reverse_cons, List.append_assoc, List.find?_append]
    have h2 : (L.drop (m + 1)).reverse.find? (fun k => bad (both (aheadT T k i) w)) = none := by
      rw [List.find?_eq_none]
      intro x hx
      obtain ⟨t, ht, rfl⟩ := List.mem_iff_getElem.1 (List.mem_reverse.1 hx)
      rw [List.length_drop] at ht
      have := h (m + 1 + t) (by omega) (by omega)
      rw [List.getD_eq_getElem?_getD, List.getElem?_eq_getElem (by omega)] at this
      simp only [Option.getD_some, badAt] at this
      simp [List.getElem_drop, this]
    rw [h2]
    unfold badAt at h1
    simp [h1]
  rw [this]
theorem dawn_good_nil (T : Task) : (dawn T 0).good = [] ∧ (dawn T 0).struck = [] := ⟨rfl, rfl⟩
end Go.Proofs.Ytfjbgcaogffiaaa
namespace Go.Proofs.Ytfjbgcaogffiaaa
open D
/-- The first index below n at which p holds, as a day; -1: none. -/
def firstDay (first : Int) (p : Nat → Bool) : Nat → Int
  | 0 => -1
  | n + 1 => if firstDay first p n ≠ -1 then firstDay first p n else if p n then first + n else -1
theorem firstDay_none {first : Int} {p : Nat → Bool} : ∀ {n : Nat}, (∀ i, i < n → p i = false) → firstDay first p n = -1
  | 0, _ => rfl
  | n + 1, h => by
    rw [firstDay, firstDay_none (n := n) (fun i hi => h i (by omega)), if_neg (fun h => h rfl), h n (by omega)]; rfl
theorem firstDay_some {first : Int} (h0 : 0 ≤ first) {p : Nat → Bool} {k : Nat} (hk : p k = true) (hb : ∀ i, i < k → p i = false) : ∀ {n : Nat}, k < n → firstDay first p n = first + k
  | n + 1, h => by
    rw [firstDay]
    rcases Nat.lt_or_ge k n with h1 | h1
    · rw [firstDay_some h0 hk hb h1, if_pos (by omega)]
    · obtain rfl : k = n := by omega
      rw [firstDay_none hb, if_neg (fun h => h rfl), hk]; rfl
theorem firstDay_rng {first : Int} (h0 : 0 ≤ first) {p : Nat → Bool} : ∀ (n : Nat), firstDay first p n = -1 ∨ (first ≤ firstDay first p n ∧ firstDay first p n < first + n)
  | 0 => .inl rfl
  | n + 1 => by
    rw [firstDay]
    rcases firstDay_rng h0 (p := p) n with h | h
    · rw [h, if_neg (fun h => h rfl)]
      split
      · right; omega
      · exact .inl rfl
    · rw [if_pos (by omega)]; right; omega
def lostP1 (T : Task) (i : Nat) : Bool := decide (T.rule.lost ≤ (lv T i).hi)
def lostP2 (T : Task) (i : Nat) : Bool := decide (T.rule.lost ≤ (lv T i).lo)
def lostT (T : Task) : Span := ⟨firstDay T.first (lostP1 T) (T.days.length + 1), firstDay T.first (lostP2 T) (T.days.length + 1)⟩
def lostV (T : Task) : Span × Int := if (checkTask T).2.2 ≠ 0 then (⟨0, 0⟩, (checkTask T).2.2) else (lostT T, 0)
end Go.Proofs.Ytfjbgcaogffiaaa
