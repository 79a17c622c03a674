/-
  decay.Moved.
-/
import Derived.Test.YtfjbgcaogffiaaaDDelA
import Derived.Test.YtfjbgcaogffiaaaDStrP
namespace Go.Proofs.Ytfjbgcaogffiaaa
open Go.RowKit D
set_option linter.unusedVariables false
set_option linter.unusedSimpArgs false
attribute [local go_sem high] run_minI run_maxI
attribute [local go_sem] upon2 cls_cell cls_frozen forall_const exists_eq_left'
attribute [local go_sem] FirstUpon
set_option maxRecDepth 100000 in
set_option maxHeartbeats 2000000 in
theorem delT0_any {f : Int} {bf cap : Nat} {a : Option Addr} {w : World} (hc : cap ≤ 9223372036854775807) (hbf : w.heap[bf]? = some (.cells #[.int .i64 f] 3 (0, 0))) :
    Calls Try.prog 74 #[.slice a 0 cap, .func (.func 76) #[] #[.pointer (some ⟨bf, 0, none⟩)]] w fun e w' => e = .returned (.slice a 0 cap) ∧ Below w.heap.size w w' := by
  have HI := Lib.hid (idxT_any (g := 76) (lb := #[.pointer (some ⟨bf, 0, none⟩)]) (p := fun i => decide (f < (testD [] i).day)) (s := ⟨a, cap⟩) (l := []) (w := w) (by simp)
    ⟨Nat.zero_le _, hc, fun i j hi _ => absurd hi (Nat.not_lt_zero i)⟩ (enters_of Try.func76 (by kernel_rfl) rfl) (fun i W _ hW => struck1_any ((hW.block bf (blk_lt hbf)).trans hbf)))
  dsimp only [List.length_nil] at HI
  rw [show firstDay 0 (fun i => decide (f < (testD [] i).day)) 0 = -1 from rfl] at HI
  clear hbf
  go_enter Try.func74, Try.ntmps74
  go_wp2_with (fail)
  refine HI.out.mono ?_
  rintro e w1 ⟨rfl, hb1⟩
  go_wp2_with (fail)
  go_ret
  exact ⟨rfl, hb1⟩
theorem ext_transM {w w1 w2 : World} (h : Ext2 w w1) (g : Ext2 w1 w2) : Ext2 w w2 := h.trans (Below.mono g h.size)
theorem below_extM {w w1 w2 : World} (h : Below w.heap.size w w1) (g : Ext2 w1 w2) : Below w.heap.size w w2 := h.trans (Below.mono g h.size)
theorem own_hasM {w : World} {base : Nat} {e : TypeId} {sz : Nat} {v : Value} {n : Nat} {c : Nat → Nat → Value} (h : OwnR w base e sz v n c) (hn : 0 < n) : ∃ g cap, v = .slice (some ⟨g, 0, none⟩) n cap ∧ base ≤ g ∧ n ≤ cap ∧ cap ≤ 9223372036854775807 := by
  rcases h.forms with ⟨_, h⟩ | ⟨g5, cp5, h1, h2, h3, h4, -, -, -⟩
  · omega
  · exact ⟨g5, cp5, h1, h2, h3, h4⟩
/-- DeleteFunc over tests that a slice of one's own has. -/
theorem delV_any {f : Int} {bf base : Nat} {v : Value} {l : List D.Test} {w : World} (hn : l.length ≤ 20) (ho : OwnR w base 51 3 v l.length (testC l)) (hbw : base ≤ w.heap.size) (hbf : w.heap[bf]? = some (.cells #[.int .i64 f] 3 (0, 0))) (hne : bf < base) :
    Calls Try.prog 74 #[v, .func (.func 76) #[] #[.pointer (some ⟨bf, 0, none⟩)]] w fun e w' => (∃ s : Sl, e = .returned (.slice s.a (movTests l f).length s.cap) ∧ TestsS w' s (movTests l f) ∧ ∀ b off, s.a = some ⟨b, off, none⟩ → base ≤ b ∨ (movTests l f).length = 0) ∧ Below base w w' := by
  rcases Nat.eq_zero_or_pos l.length with h0 | h0
  · obtain rfl : l = [] := List.length_eq_zero_iff.1 h0
    obtain ⟨⟨a, cap⟩, rfl, hr⟩ := ho.sl
    exact (delT0_any hr.max hbf).mono fun e w' ⟨he, hb⟩ => ⟨⟨⟨a, cap⟩, he, ⟨Nat.zero_le _, hr.max, fun i j hi _ => absurd hi (Nat.not_lt_zero i)⟩, fun _ _ _ => .inr rfl⟩, hb.mono hbw⟩
  · obtain ⟨g, cap, rfl, hb, -, -⟩ := own_hasM ho h0
    refine (delT_any hn h0 ho hb hbw hbf hne).mono ?_
    rintro e w' ⟨⟨s, h1, h2, h3⟩, h4⟩
    refine ⟨⟨s, h1, h2, fun b off h => .inl ?_⟩, h4⟩
    rw [h3] at h
    obtain ⟨rfl, -⟩ : g = b ∧ 0 = off := by simpa using h
    exact hb
theorem rowS_above {w W : World} {base : Nat} {s : Sl} {sz n : Nat} {c : Nat → Nat → Value} (h : RowS w s sz n c) (hs : ∀ b off, s.a = some ⟨b, off, none⟩ → base ≤ b ∨ n = 0) (ha : Above base w W) : RowS W s sz n c :=
  ⟨h.le, h.max, fun i j hi hj => by
    obtain ⟨b, off, h1, h2⟩ := h.cell i j hi hj
    refine ⟨b, off, h1, ?_⟩
    rcases hs b off h1 with h3 | h3
    · have h4 := ha.2 b h3 (cell_lt h2)
      rw [← h2]
      simp only [World.cell?, h4]
    · omega⟩
set_option maxRecDepth 100000 in
set_option maxHeartbeats 2000000 in
theorem movedP_no {T : Task} {s : TSl} {f er : Int} {d : Day} {w : World} (hT : TaskAt w T s) (her : er = (D.checkTask T).2.2) (h0 : (D.checkTask T).2.2 ≠ 0) : Calls Try.prog 45 #[.agg #[.slice s.h.a T.rule.heat.length s.h.cap, .slice s.w.a T.rule.wet.length s.w.cap, .int .i64 T.rule.own, .int .i64 T.rule.feed, .int .i64 T.rule.g0, .int .i64 T.rule.g1, .int .i64 T.rule.g2, .int .i64 T.rule.lost, .int .i64 T.first, .slice s.d.a T.days.length s.d.cap, .int .i64 T.start.lo, .int .i64 T.start.hi, .slice s.t.a T.tests.length s.t.cap], .int .i64 f, .agg #[.int .i64 d.tlo, .int .i64 d.thi, .int .i64 d.dlo, .int .i64 d.dhi]] w fun e w' => e = .returned (.tuple #[.agg #[.int .i64 (Span.mk 0 0).lo, .int .i64 (Span.mk 0 0).hi], .int .i64 er]) ∧ Below w.heap.size w w' := by
  have HV : Hid (∀ W, Below w.heap.size w W → Calls Try.prog 50 #[.agg #[.slice s.h.a T.rule.heat.length s.h.cap, .slice s.w.a T.rule.wet.length s.w.cap, .int .i64 T.rule.own, .int .i64 T.rule.feed, .int .i64 T.rule.g0, .int .i64 T.rule.g1, .int .i64 T.rule.g2, .int .i64 T.rule.lost, .int .i64 T.first, .slice s.d.a T.days.length s.d.cap, .int .i64 T.start.lo, .int .i64 T.start.hi, .slice s.t.a T.tests.length s.t.cap]] W fun e w' => e = .returned (.tuple #[.pointer none, .int .i64 er]) ∧ Below W.heap.size W w') := Lib.hid fun W hW => by
    have h := open_no (hT.below hW) h0; rwa [← her] at h
  rw [← her] at h0
  have hne : (er == 0) = false := by simp; omega
  have hne2 : (er != 0) = true := by simp; omega
  clear hT her
  go_enter Try.func45, Try.ntmps45
  go_wp2_with (fail)
  (with_reducible refine (HV.out _ ?_).mono ?_)
  · repeat' (first | exact Below.refl _ _ | assumption | refine below_drewN ?_ _ | refine Below.drew ?_ | refine Below.alloc ?_ (by first | assumption | omega | (simp <;> omega)) _ | refine Below.setCell ?_ (by first | assumption | omega | (simp <;> omega)) _ | refine Ext2.on (by assumption) ?_)
  rintro e w1 ⟨rfl, hb1⟩
  have x1 : w1.heap[w.heap.size + 3]? = some (Obj.cells #[.int .i64 0, .int .i64 0] 28) := below_blk hb1 (by repeat' (first | (with_reducible assumption) | (with_reducible refine blk_set_ne ?_ ?_) | (with_reducible exact blk_new _ _) | (with_reducible refine blk_new' _ _ (by first | (with_reducible rfl) | (simp; done) | (simp <;> omega))) | (with_reducible refine blk_alloc ?_ _) | (with_reducible refine blk_drew ?_) | (with_reducible refine blk_drewN ?_ _) | (with_reducible refine Ext2.blk (by assumption) ?_) | omega | (simp <;> omega) | exact blk_set (by assumption) _ _)) (by simp)
  have hB1 : Below w.heap.size w w1 := Below.trans (by repeat' (first | exact Below.refl _ _ | assumption | refine below_drewN ?_ _ | refine Below.drew ?_ | refine Below.alloc ?_ (by first | assumption | omega | (simp <;> omega)) _ | refine Below.setCell ?_ (by first | assumption | omega | (simp <;> omega)) _ | refine Ext2.on (by assumption) ?_)) (hb1.mono (by simp; omega))
  clear h0 hb1
  have q1c := cell_blk x1
  have q1f := frz_blk x1
  go_wp2_with (fail)
  have r1 : ((w1.setCell ⟨w.heap.size + 3, 0, none⟩ (.int .i64 (0))).setCell ⟨w.heap.size + 3, 1, none⟩ (.int .i64 (0))).heap[w.heap.size + 3]? = some (Obj.cells #[.int .i64 (0), .int .i64 (0)] 28) := Eq.trans (blk_set (blk_set x1 _ _) _ _) rfl
  refine bodyPost_ret (v := .tuple #[.agg #[.int .i64 (Span.mk (0) (0)).lo, .int .i64 (Span.mk (0) (0)).hi], .int .i64 (er)]) ?_ rfl ⟨rfl, below_set (below_set hB1 (by omega)) (by omega)⟩
  have zc := cell_blk r1
  have zf := frz_blk r1
  simp [results, Try.results45, go_sem, zc]
set_option maxRecDepth 100000 in
set_option maxHeartbeats 2000000 in
theorem movedP_far {T : Task} {s : TSl} {f : Int} {d : Day} {w : World} (hT : TaskAt w T s) (h0 : (D.checkTask T).2.2 = 0) (hf : ¬ (T.first ≤ f ∧ f < T.first + T.days.length)) : Calls Try.prog 45 #[.agg #[.slice s.h.a T.rule.heat.length s.h.cap, .slice s.w.a T.rule.wet.length s.w.cap, .int .i64 T.rule.own, .int .i64 T.rule.feed, .int .i64 T.rule.g0, .int .i64 T.rule.g1, .int .i64 T.rule.g2, .int .i64 T.rule.lost, .int .i64 T.first, .slice s.d.a T.days.length s.d.cap, .int .i64 T.start.lo, .int .i64 T.start.hi, .slice s.t.a T.tests.length s.t.cap], .int .i64 f, .agg #[.int .i64 d.tlo, .int .i64 d.thi, .int .i64 d.dlo, .int .i64 d.dhi]] w fun e w' => e = .returned (.tuple #[.agg #[.int .i64 (Span.mk 0 0).lo, .int .i64 (Span.mk 0 0).hi], .int .i64 7]) ∧ Below w.heap.size w w' := by
  have HV : Hid (∀ W, Below w.heap.size w W → Calls Try.prog 50 #[.agg #[.slice s.h.a T.rule.heat.length s.h.cap, .slice s.w.a T.rule.wet.length s.w.cap, .int .i64 T.rule.own, .int .i64 T.rule.feed, .int .i64 T.rule.g0, .int .i64 T.rule.g1, .int .i64 T.rule.g2, .int .i64 T.rule.lost, .int .i64 T.first, .slice s.d.a T.days.length s.d.cap, .int .i64 T.start.lo, .int .i64 T.start.hi, .slice s.t.a T.tests.length s.t.cap]] W (OpenOut T s W)) := Lib.hid fun W hW => open_any (hT.below hW) h0
  have hk := (task_ok h0).1
  have hnd := hk.nd
  have hfst := hk.first
  have hc : decide (f < T.first) = true ∨ decide (f < T.first) = false ∧ decide (T.first + (T.days.length : Int) ≤ f) = true := by
    by_cases h : f < T.first
    · exact .inl (decide_eq_true h)
    · exact .inr ⟨decide_eq_false h, decide_eq_true (by omega)⟩
  have ww : IntKind.i64.wrap (T.first + (T.days.length : Int)) = T.first + (T.days.length : Int) := IntWalk.i64_in _ (by omega)
  clear hT h0 hf hk
  go_enter Try.func45, Try.ntmps45
  go_wp2_with (fail)
  (with_reducible refine (HV.out _ ?_).mono ?_)
  · repeat' (first | exact Below.refl _ _ | assumption | refine below_drewN ?_ _ | refine Below.drew ?_ | refine Below.alloc ?_ (by first | assumption | omega | (simp <;> omega)) _ | refine Below.setCell ?_ (by first | assumption | omega | (simp <;> omega)) _ | refine Ext2.on (by assumption) ?_)
  rintro e w1 ⟨⟨B, v, rfl, hB, hr, hO⟩, hb1⟩
  have x0 : w1.heap[w.heap.size]? = some (Obj.cells #[.slice s.h.a T.rule.heat.length s.h.cap, .slice s.w.a T.rule.wet.length s.w.cap, .int .i64 T.rule.own, .int .i64 T.rule.feed, .int .i64 T.rule.g0, .int .i64 T.rule.g1, .int .i64 T.rule.g2, .int .i64 T.rule.lost, .int .i64 T.first, .slice s.d.a T.days.length s.d.cap, .int .i64 T.start.lo, .int .i64 T.start.hi, .slice s.t.a T.tests.length s.t.cap] 31) := below_blk hb1 (by repeat' (first | (with_reducible assumption) | (with_reducible refine blk_set_ne ?_ ?_) | (with_reducible exact blk_new _ _) | (with_reducible refine blk_new' _ _ (by first | (with_reducible rfl) | (simp; done) | (simp <;> omega))) | (with_reducible refine blk_alloc ?_ _) | (with_reducible refine blk_drew ?_) | (with_reducible refine blk_drewN ?_ _) | (with_reducible refine Ext2.blk (by assumption) ?_) | omega | (simp <;> omega) | exact blk_set (by assumption) _ _)) (by first | (simp; done) | (simp; omega))
  have x1 : w1.heap[w.heap.size + 1]? = some (Obj.cells #[.int .i64 f] 3) := below_blk hb1 (by repeat' (first | (with_reducible assumption) | (with_reducible refine blk_set_ne ?_ ?_) | (with_reducible exact blk_new _ _) | (with_reducible refine blk_new' _ _ (by first | (with_reducible rfl) | (simp; done) | (simp <;> omega))) | (with_reducible refine blk_alloc ?_ _) | (with_reducible refine blk_drew ?_) | (with_reducible refine blk_drewN ?_ _) | (with_reducible refine Ext2.blk (by assumption) ?_) | omega | (simp <;> omega) | exact blk_set (by assumption) _ _)) (by first | (simp; done) | (simp; omega))
  have x3 : w1.heap[w.heap.size + 3]? = some (Obj.cells #[.int .i64 0, .int .i64 0] 28) := below_blk hb1 (by repeat' (first | (with_reducible assumption) | (with_reducible refine blk_set_ne ?_ ?_) | (with_reducible exact blk_new _ _) | (with_reducible refine blk_new' _ _ (by first | (with_reducible rfl) | (simp; done) | (simp <;> omega))) | (with_reducible refine blk_alloc ?_ _) | (with_reducible refine blk_drew ?_) | (with_reducible refine blk_drewN ?_ _) | (with_reducible refine Ext2.blk (by assumption) ?_) | omega | (simp <;> omega) | exact blk_set (by assumption) _ _)) (by simp)
  have hB1 : Below w.heap.size w w1 := Below.trans (by repeat' (first | exact Below.refl _ _ | assumption | refine below_drewN ?_ _ | refine Below.drew ?_ | refine Below.alloc ?_ (by first | assumption | omega | (simp <;> omega)) _ | refine Below.setCell ?_ (by first | assumption | omega | (simp <;> omega)) _ | refine Ext2.on (by assumption) ?_)) (hb1.mono (by simp; omega))
  clear hb1 hr hO hB
  have q0c := cell_blk x0
  have q0f := frz_blk x0
  have q1c := cell_blk x1
  have q1f := frz_blk x1
  have q3c := cell_blk x3
  have q3f := frz_blk x3
  rcases hc with c0 | ⟨c0, c1⟩
  case' inl => go_wp2_with (fail)
  case' inr => go_wp2_with (fail)
  all_goals
    have r1 : ((w1.setCell ⟨w.heap.size + 3, 0, none⟩ (.int .i64 (0))).setCell ⟨w.heap.size + 3, 1, none⟩ (.int .i64 (0))).heap[w.heap.size + 3]? = some (Obj.cells #[.int .i64 (0), .int .i64 (0)] 28) := Eq.trans (blk_set (blk_set x3 _ _) _ _) rfl
    refine bodyPost_ret (v := .tuple #[.agg #[.int .i64 (Span.mk (0) (0)).lo, .int .i64 (Span.mk (0) (0)).hi], .int .i64 (7)]) ?_ rfl ⟨rfl, below_set (below_set hB1 (by omega)) (by omega)⟩
    have zc := cell_blk r1
    have zf := frz_blk r1
    simp [results, Try.results45, go_sem, zc]
/-- The strengths while they are moved. -/
def movF (T : Task) (S : Span) (a k i : Nat) : Span := if a ≤ i ∧ i < k then S else spanD (forces T) i
theorem movF_start (T : Task) (S : Span) (a i : Nat) : movF T S a a i = spanD (forces T) i := by
  unfold movF; rw [if_neg (by omega)]
theorem movF_end {T : Task} {f : Int} {d : Day} {a i : Nat} (h : i < T.days.length) (ha : a ≤ T.days.length) : movF T (strength T.rule d) a T.days.length i = spanD (forces (movT T a f d)) i := by
  have hl : (movT T a f d).days.length = T.days.length := movDays_len ha
  rw [force_at (T := movT T a f d) (by rw [hl]; exact h)]
  show _ = strength T.rule (dayD (movDays T.days a d) i)
  rw [movDays_at h]
  unfold movF
  by_cases hi : a ≤ i
  · rw [if_pos ⟨hi, h⟩, if_neg (by omega)]
  · rw [if_neg (by omega), if_pos (by omega), force_at h]
theorem spC_upd {T : Task} {S : Span} {a k i j : Nat} (hk : a ≤ k) (hj : j < 2) : (if i = k ∧ j = 1 then Value.int .i64 S.hi else if i = k ∧ j = 0 then Value.int .i64 S.lo else spC (movF T S a k) i j) = spC (movF T S a (k + 1)) i j := by
  by_cases hi : i = k
  · subst hi
    have e : movF T S a (i + 1) i = S := by unfold movF; rw [if_pos ⟨hk, by omega⟩]
    rcases (by omega : j = 0 ∨ j = 1) with rfl | rfl <;> simp [spC, e]
  · have e : movF T S a (k + 1) i = movF T S a k i := by
      unfold movF
      by_cases h : a ≤ i ∧ i < k
      · rw [if_pos h, if_pos (by omega)]
      · rw [if_neg h, if_neg (by omega)]
    rcases (by omega : j = 0 ∨ j = 1) with rfl | rfl <;> simp [spC, e, hi]
set_option maxRecDepth 100000 in
set_option maxHeartbeats 2000000 in
theorem movedP_day {T : Task} {s : TSl} {f er : Int} {d : Day} {w : World} (hT : TaskAt w T s) (h0 : (D.checkTask T).2.2 = 0) (hf : T.first ≤ f ∧ f < T.first + T.days.length) (her : er = climateE d) (he : climateE d ≠ 0) : Calls Try.prog 45 #[.agg #[.slice s.h.a T.rule.heat.length s.h.cap, .slice s.w.a T.rule.wet.length s.w.cap, .int .i64 T.rule.own, .int .i64 T.rule.feed, .int .i64 T.rule.g0, .int .i64 T.rule.g1, .int .i64 T.rule.g2, .int .i64 T.rule.lost, .int .i64 T.first, .slice s.d.a T.days.length s.d.cap, .int .i64 T.start.lo, .int .i64 T.start.hi, .slice s.t.a T.tests.length s.t.cap], .int .i64 f, .agg #[.int .i64 d.tlo, .int .i64 d.thi, .int .i64 d.dlo, .int .i64 d.dhi]] w fun e w' => e = .returned (.tuple #[.agg #[.int .i64 (Span.mk 0 0).lo, .int .i64 (Span.mk 0 0).hi], .int .i64 er]) ∧ Below w.heap.size w w' := by
  have HV : Hid (∀ W, Below w.heap.size w W → Calls Try.prog 50 #[.agg #[.slice s.h.a T.rule.heat.length s.h.cap, .slice s.w.a T.rule.wet.length s.w.cap, .int .i64 T.rule.own, .int .i64 T.rule.feed, .int .i64 T.rule.g0, .int .i64 T.rule.g1, .int .i64 T.rule.g2, .int .i64 T.rule.lost, .int .i64 T.first, .slice s.d.a T.days.length s.d.cap, .int .i64 T.start.lo, .int .i64 T.start.hi, .slice s.t.a T.tests.length s.t.cap]] W (OpenOut T s W)) := Lib.hid fun W hW => open_any (hT.below hW) h0
  have HS : Hid (∀ W, Below w.heap.size w W → Calls Try.prog 40 #[.agg #[.slice s.h.a T.rule.heat.length s.h.cap, .slice s.w.a T.rule.wet.length s.w.cap, .int .i64 T.rule.own, .int .i64 T.rule.feed, .int .i64 T.rule.g0, .int .i64 T.rule.g1, .int .i64 T.rule.g2, .int .i64 T.rule.lost], .agg #[.int .i64 d.tlo, .int .i64 d.thi, .int .i64 d.dlo, .int .i64 d.dhi]] W fun e w' => e = .returned (.tuple #[.agg #[.int .i64 (Span.mk 0 0).lo, .int .i64 (Span.mk 0 0).hi], .int .i64 er]) ∧ Below W.heap.size W w') := Lib.hid fun W hW => by
    have h := StrengthP_any (d := d) (hT.below hW).rule
    rw [strengthV, check_zero h0, if_neg (by simp), if_pos he] at h
    rw [her]; exact h
  have hk := (task_ok h0).1
  have hnd := hk.nd
  have hfst := hk.first
  have c0 : decide (f < T.first) = false := decide_eq_false (by omega)
  have c1 : decide (T.first + (T.days.length : Int) ≤ f) = false := decide_eq_false (by omega)
  rw [← her] at he
  have hne2 : (er != 0) = true := by simp; omega
  have ww : IntKind.i64.wrap (T.first + (T.days.length : Int)) = T.first + (T.days.length : Int) := IntWalk.i64_in _ (by omega)
  clear hT h0 hf hk her
  go_enter Try.func45, Try.ntmps45
  go_wp2_with (fail)
  (with_reducible refine (HV.out _ ?_).mono ?_)
  · repeat' (first | exact Below.refl _ _ | assumption | refine below_drewN ?_ _ | refine Below.drew ?_ | refine Below.alloc ?_ (by first | assumption | omega | (simp <;> omega)) _ | refine Below.setCell ?_ (by first | assumption | omega | (simp <;> omega)) _ | refine Ext2.on (by assumption) ?_)
  rintro e w1 ⟨⟨B, v, rfl, hB, hr, hO⟩, hb1⟩
  have x0 : w1.heap[w.heap.size]? = some (Obj.cells #[.slice s.h.a T.rule.heat.length s.h.cap, .slice s.w.a T.rule.wet.length s.w.cap, .int .i64 T.rule.own, .int .i64 T.rule.feed, .int .i64 T.rule.g0, .int .i64 T.rule.g1, .int .i64 T.rule.g2, .int .i64 T.rule.lost, .int .i64 T.first, .slice s.d.a T.days.length s.d.cap, .int .i64 T.start.lo, .int .i64 T.start.hi, .slice s.t.a T.tests.length s.t.cap] 31) := below_blk hb1 (by repeat' (first | (with_reducible assumption) | (with_reducible refine blk_set_ne ?_ ?_) | (with_reducible exact blk_new _ _) | (with_reducible refine blk_new' _ _ (by first | (with_reducible rfl) | (simp; done) | (simp <;> omega))) | (with_reducible refine blk_alloc ?_ _) | (with_reducible refine blk_drew ?_) | (with_reducible refine blk_drewN ?_ _) | (with_reducible refine Ext2.blk (by assumption) ?_) | omega | (simp <;> omega) | exact blk_set (by assumption) _ _)) (by first | (simp; done) | (simp; omega))
  have x1 : w1.heap[w.heap.size + 1]? = some (Obj.cells #[.int .i64 f] 3) := below_blk hb1 (by repeat' (first | (with_reducible assumption) | (with_reducible refine blk_set_ne ?_ ?_) | (with_reducible exact blk_new _ _) | (with_reducible refine blk_new' _ _ (by first | (with_reducible rfl) | (simp; done) | (simp <;> omega))) | (with_reducible refine blk_alloc ?_ _) | (with_reducible refine blk_drew ?_) | (with_reducible refine blk_drewN ?_ _) | (with_reducible refine Ext2.blk (by assumption) ?_) | omega | (simp <;> omega) | exact blk_set (by assumption) _ _)) (by first | (simp; done) | (simp; omega))
  have x2 : w1.heap[w.heap.size + 2]? = some (Obj.cells #[.int .i64 d.tlo, .int .i64 d.thi, .int .i64 d.dlo, .int .i64 d.dhi] 48) := below_blk hb1 (by repeat' (first | (with_reducible assumption) | (with_reducible refine blk_set_ne ?_ ?_) | (with_reducible exact blk_new _ _) | (with_reducible refine blk_new' _ _ (by first | (with_reducible rfl) | (simp; done) | (simp <;> omega))) | (with_reducible refine blk_alloc ?_ _) | (with_reducible refine blk_drew ?_) | (with_reducible refine blk_drewN ?_ _) | (with_reducible refine Ext2.blk (by assumption) ?_) | omega | (simp <;> omega) | exact blk_set (by assumption) _ _)) (by first | (simp; done) | (simp; omega))
  have x3 : w1.heap[w.heap.size + 3]? = some (Obj.cells #[.int .i64 0, .int .i64 0] 28) := below_blk hb1 (by repeat' (first | (with_reducible assumption) | (with_reducible refine blk_set_ne ?_ ?_) | (with_reducible exact blk_new _ _) | (with_reducible refine blk_new' _ _ (by first | (with_reducible rfl) | (simp; done) | (simp <;> omega))) | (with_reducible refine blk_alloc ?_ _) | (with_reducible refine blk_drew ?_) | (with_reducible refine blk_drewN ?_ _) | (with_reducible refine Ext2.blk (by assumption) ?_) | omega | (simp <;> omega) | exact blk_set (by assumption) _ _)) (by simp)
  have hB1 : Below w.heap.size w w1 := Below.trans (by repeat' (first | exact Below.refl _ _ | assumption | refine below_drewN ?_ _ | refine Below.drew ?_ | refine Below.alloc ?_ (by first | assumption | omega | (simp <;> omega)) _ | refine Below.setCell ?_ (by first | assumption | omega | (simp <;> omega)) _ | refine Ext2.on (by assumption) ?_)) (hb1.mono (by simp; omega))
  clear hb1 hr hO hB he
  have q0c := cell_blk x0
  have q0f := frz_blk x0
  have q1c := cell_blk x1
  have q1f := frz_blk x1
  have q2c := cell_blk x2
  have q2f := frz_blk x2
  go_wp2_with (fail)
  (with_reducible refine (HS.out _ hB1).mono ?_)
  rintro e w2 ⟨rfl, hb2⟩
  have hB2 := below_extM hB1 hb2
  have x3 := Ext2.blk hb2 x3
  have hz3 := blk_lt x3
  have hn3 : ¬ w.heap.size + 3 = w2.heap.size := by omega
  clear q0c q0f q1c q1f q2c q2f x0 x1 x2
  have q3c := cell_blk x3
  have q3f := frz_blk x3
  go_wp2_with (fail)
  have r0 : ((w2.setCell ⟨w.heap.size + 3, 0, none⟩ (.int .i64 0)).setCell ⟨w.heap.size + 3, 1, none⟩ (.int .i64 0)).heap[w.heap.size + 3]? = some (Obj.cells #[.int .i64 0, .int .i64 0] 28) := Eq.trans (blk_set (blk_set x3 _ _) _ _) rfl
  have r1 := blk_alloc r0 (Obj.cells #[.int .i64 0, .int .i64 0] 28)
  have hB3 := below_set (o := 1) (v := .int .i64 0) (below_set (o := 0) (v := .int .i64 0) hB2 (show w.heap.size ≤ w.heap.size + 3 by omega)) (show w.heap.size ≤ w.heap.size + 3 by omega)
  refine bodyPost_ret (v := .tuple #[.agg #[.int .i64 (Span.mk 0 0).lo, .int .i64 (Span.mk 0 0).hi], .int .i64 er]) ?_ rfl ⟨rfl, below_extM hB3 (below_alloc' _ _)⟩
  have zc := cell_blk r1
  have zf := frz_blk r1
  simp [results, Try.results45, go_sem, zc]
set_option maxRecDepth 100000 in
set_option maxHeartbeats 2000000 in
theorem movedP_yes {T : Task} {s : TSl} {f : Int} {d : Day} {w : World} (hT : TaskAt w T s) (h0 : (D.checkTask T).2.2 = 0) (hf : T.first ≤ f ∧ f < T.first + T.days.length) (he : climateE d = 0) : Calls Try.prog 45 #[.agg #[.slice s.h.a T.rule.heat.length s.h.cap, .slice s.w.a T.rule.wet.length s.w.cap, .int .i64 T.rule.own, .int .i64 T.rule.feed, .int .i64 T.rule.g0, .int .i64 T.rule.g1, .int .i64 T.rule.g2, .int .i64 T.rule.lost, .int .i64 T.first, .slice s.d.a T.days.length s.d.cap, .int .i64 T.start.lo, .int .i64 T.start.hi, .slice s.t.a T.tests.length s.t.cap], .int .i64 f, .agg #[.int .i64 d.tlo, .int .i64 d.thi, .int .i64 d.dlo, .int .i64 d.dhi]] w fun e w' => e = .returned (.tuple #[.agg #[.int .i64 (movOut T f d).lo, .int .i64 (movOut T f d).hi], .int .i64 0]) ∧ Below w.heap.size w w' := by
  have HT := Lib.hid hT
  have HV : Hid (∀ W, Below w.heap.size w W → Calls Try.prog 50 #[.agg #[.slice s.h.a T.rule.heat.length s.h.cap, .slice s.w.a T.rule.wet.length s.w.cap, .int .i64 T.rule.own, .int .i64 T.rule.feed, .int .i64 T.rule.g0, .int .i64 T.rule.g1, .int .i64 T.rule.g2, .int .i64 T.rule.lost, .int .i64 T.first, .slice s.d.a T.days.length s.d.cap, .int .i64 T.start.lo, .int .i64 T.start.hi, .slice s.t.a T.tests.length s.t.cap]] W (OpenOut T s W)) := Lib.hid fun W hW => open_any (hT.below hW) h0
  obtain ⟨S, hS⟩ : ∃ S, S = strength T.rule d := ⟨_, rfl⟩
  have HS : Hid (∀ W, Below w.heap.size w W → Calls Try.prog 40 #[.agg #[.slice s.h.a T.rule.heat.length s.h.cap, .slice s.w.a T.rule.wet.length s.w.cap, .int .i64 T.rule.own, .int .i64 T.rule.feed, .int .i64 T.rule.g0, .int .i64 T.rule.g1, .int .i64 T.rule.g2, .int .i64 T.rule.lost], .agg #[.int .i64 d.tlo, .int .i64 d.thi, .int .i64 d.dlo, .int .i64 d.dhi]] W fun e w' => e = .returned (.tuple #[.agg #[.int .i64 S.lo, .int .i64 S.hi], .int .i64 0]) ∧ Below W.heap.size W w') := Lib.hid fun W hW => by
    have h := StrengthP_any (d := d) (hT.below hW).rule
    rw [strengthV, check_zero h0, if_neg (by simp), he, if_neg (by simp)] at h
    rw [hS]; exact h
  have hk := (task_ok h0).1
  have HK := Lib.hid hk
  have hnd := hk.nd
  have hnt := hk.nt
  have hfst := hk.first
  obtain ⟨a, ha⟩ : ∃ a : Nat, a = (f - T.first).toNat := ⟨_, rfl⟩
  have haI : (a : Int) = f - T.first := by omega
  have hal : a < T.days.length := by omega
  have hME : movE T f d = 0 := by rw [movE, if_neg (by simp [h0]), if_neg (by simp [hf.1, hf.2]), he]
  obtain ⟨out, hout⟩ : ∃ o, o = movOut T f d := ⟨_, rfl⟩
  have HOUT : Hid (lostT (movT T a f d) = out) := Lib.hid (by rw [hout, movOut, if_pos hME, ha])
  have HTM : Hid (TaskOk (movT T a f d)) := Lib.hid (by rw [ha]; exact movT_ok hk hf.1 hf.2 (day_ok he))
  rw [← hout]
  have c0 : decide (f < T.first) = false := decide_eq_false (by omega)
  have c1 : decide (T.first + (T.days.length : Int) ≤ f) = false := decide_eq_false (by omega)
  have ww : IntKind.i64.wrap (T.first + (T.days.length : Int)) = T.first + (T.days.length : Int) := IntWalk.i64_in _ (by omega)
  have wa : IntKind.i64.wrap (f - T.first) = (a : Int) := by rw [← haI]; exact IntWalk.i64_in _ (by omega)
  have HSE := Lib.hid hS
  clear hT h0 hf hk he ha haI hout hME hS
  go_enter Try.func45, Try.ntmps45
  go_wp2_with (fail)
  (with_reducible refine (HV.out _ ?_).mono ?_)
  · repeat' (first | exact Below.refl _ _ | assumption | refine below_drewN ?_ _ | refine Below.drew ?_ | refine Below.alloc ?_ (by first | assumption | omega | (simp <;> omega)) _ | refine Below.setCell ?_ (by first | assumption | omega | (simp <;> omega)) _ | refine Ext2.on (by assumption) ?_)
  rintro e w1 ⟨⟨B, v, rfl, hB, hr, hO⟩, hb1⟩
  have x0 : w1.heap[w.heap.size]? = some (Obj.cells #[.slice s.h.a T.rule.heat.length s.h.cap, .slice s.w.a T.rule.wet.length s.w.cap, .int .i64 T.rule.own, .int .i64 T.rule.feed, .int .i64 T.rule.g0, .int .i64 T.rule.g1, .int .i64 T.rule.g2, .int .i64 T.rule.lost, .int .i64 T.first, .slice s.d.a T.days.length s.d.cap, .int .i64 T.start.lo, .int .i64 T.start.hi, .slice s.t.a T.tests.length s.t.cap] 31) := below_blk hb1 (by repeat' (first | (with_reducible assumption) | (with_reducible refine blk_set_ne ?_ ?_) | (with_reducible exact blk_new _ _) | (with_reducible refine blk_new' _ _ (by first | (with_reducible rfl) | (simp; done) | (simp <;> omega))) | (with_reducible refine blk_alloc ?_ _) | (with_reducible refine blk_drew ?_) | (with_reducible refine blk_drewN ?_ _) | (with_reducible refine Ext2.blk (by assumption) ?_) | omega | (simp <;> omega) | exact blk_set (by assumption) _ _)) (by first | (simp; done) | (simp; omega))
  have x1 : w1.heap[w.heap.size + 1]? = some (Obj.cells #[.int .i64 f] 3) := below_blk hb1 (by repeat' (first | (with_reducible assumption) | (with_reducible refine blk_set_ne ?_ ?_) | (with_reducible exact blk_new _ _) | (with_reducible refine blk_new' _ _ (by first | (with_reducible rfl) | (simp; done) | (simp <;> omega))) | (with_reducible refine blk_alloc ?_ _) | (with_reducible refine blk_drew ?_) | (with_reducible refine blk_drewN ?_ _) | (with_reducible refine Ext2.blk (by assumption) ?_) | omega | (simp <;> omega) | exact blk_set (by assumption) _ _)) (by first | (simp; done) | (simp; omega))
  have x2 : w1.heap[w.heap.size + 2]? = some (Obj.cells #[.int .i64 d.tlo, .int .i64 d.thi, .int .i64 d.dlo, .int .i64 d.dhi] 48) := below_blk hb1 (by repeat' (first | (with_reducible assumption) | (with_reducible refine blk_set_ne ?_ ?_) | (with_reducible exact blk_new _ _) | (with_reducible refine blk_new' _ _ (by first | (with_reducible rfl) | (simp; done) | (simp <;> omega))) | (with_reducible refine blk_alloc ?_ _) | (with_reducible refine blk_drew ?_) | (with_reducible refine blk_drewN ?_ _) | (with_reducible refine Ext2.blk (by assumption) ?_) | omega | (simp <;> omega) | exact blk_set (by assumption) _ _)) (by first | (simp; done) | (simp; omega))
  have x3 : w1.heap[w.heap.size + 3]? = some (Obj.cells #[.int .i64 0, .int .i64 0] 28) := below_blk hb1 (by repeat' (first | (with_reducible assumption) | (with_reducible refine blk_set_ne ?_ ?_) | (with_reducible exact blk_new _ _) | (with_reducible refine blk_new' _ _ (by first | (with_reducible rfl) | (simp; done) | (simp <;> omega))) | (with_reducible refine blk_alloc ?_ _) | (with_reducible refine blk_drew ?_) | (with_reducible refine blk_drewN ?_ _) | (with_reducible refine Ext2.blk (by assumption) ?_) | omega | (simp <;> omega) | exact blk_set (by assumption) _ _)) (by simp)
  have hB1 : Below w.heap.size w w1 := Below.trans (by repeat' (first | exact Below.refl _ _ | assumption | refine below_drewN ?_ _ | refine Below.drew ?_ | refine Below.alloc ?_ (by first | assumption | omega | (simp <;> omega)) _ | refine Below.setCell ?_ (by first | assumption | omega | (simp <;> omega)) _ | refine Ext2.on (by assumption) ?_)) (hb1.mono (by simp; omega))
  simp only [World.size_alloc] at hB
  obtain ⟨g, cap, rfl, hg1, hg2, hg3⟩ := own_hasM hO (by omega)
  have hgz : g < w1.heap.size := by
    rcases hO.forms with ⟨h, -⟩ | ⟨g', cap', he, -, -, -, hr, -⟩
    · simp at h
    · obtain ⟨rfl, rfl⟩ : g = g' ∧ cap = cap' := by simpa using he
      exact hr.1
  have hBz := blk_lt hr
  clear hb1
  have q0c := cell_blk x0
  have q0f := frz_blk x0
  have q1c := cell_blk x1
  have q1f := frz_blk x1
  have q2c := cell_blk x2
  have q2f := frz_blk x2
  go_wp2_with (fail)
  (with_reducible refine (HS.out _ hB1).mono ?_)
  rintro e w2 ⟨rfl, hb2⟩
  have hB2 := below_extM hB1 hb2
  have x0 := Ext2.blk hb2 x0
  have x1 := Ext2.blk hb2 x1
  have x3 := Ext2.blk hb2 x3
  have hr := Ext2.blk hb2 hr
  have hO := hO.below hb2
  have hz2 : w1.heap.size ≤ w2.heap.size := hb2.size
  clear q0c q0f q1c q1f q2c q2f x2 hb2 HS HV
  have k0 := blk_lt x0; have k1 := blk_lt x1
  have k2 : ¬ w.heap.size = w2.heap.size := by omega
  have k3 : ¬ w.heap.size + 1 = w2.heap.size := by omega
  have q0c := cell_blk x0
  have q0f := frz_blk x0
  have q1c := cell_blk x1
  have q1f := frz_blk x1
  go_wp2_with (fail)
  refine wp_name ?_
  intro w3 h3
  have hE3 : Ext2 w2 w3 := by rw [h3]; exact below_alloc' _ _
  have x10 : w3.heap[w2.heap.size]? = some (Obj.cells #[.int .i64 S.lo, .int .i64 S.hi] 28) := by rw [h3]; exact blk_new _ _
  have hB3 := below_extM hB2 hE3
  obtain ⟨b10, hb10⟩ : ∃ b, b = w2.heap.size := ⟨_, rfl⟩
  rw [← hb10] at x10 hz2 ⊢
  have HX0 := Lib.hid (Ext2.blk hE3 x0); have HX1 := Lib.hid (Ext2.blk hE3 x1); have HX3 := Lib.hid (Ext2.blk hE3 x3); have HR := Lib.hid (Ext2.blk hE3 hr); have HX10 := Lib.hid x10
  have HO3 := Lib.hid (hO.below hE3)
  have hz3 := blk_lt x10
  clear h3 q0c q0f q1c q1f x0 x1 x3 x10 hr hO hE3 hb10
  go_loopw [11] (fun i wr => ∃ k : Nat, i = .int .i64 (k : Int) ∧ a ≤ k ∧ k ≤ T.days.length ∧ Below (B + 1) w3 wr ∧ wr.heap[b10]? = some (Obj.cells #[.int .i64 S.lo, .int .i64 S.hi] 28) ∧ OwnR wr (B + 1) 28 2 (.slice (some ⟨g, 0, none⟩) T.days.length cap) T.days.length (spC (movF T S a k))) (fun i _ => T.days.length - (intOf i).toNat)
  case atStart => exact ⟨a, rfl, by omega, by omega, Below.refl _ _, HX10.out, HO3.out.congr fun i j _ _ => by rcases j with _ | j <;> simp only [spC, movF_start]⟩
  case round =>
    obtain ⟨k, rfl, hak, hk, hE, y10, hO⟩ := hrel
    have y := (hE.block B (by omega)).trans HR.out
    obtain ⟨hrw, hfro⟩ : RowC wr g 0 2 T.days.length (spC (movF T S a k)) ∧ (∀ o, wr.frozen? ⟨g, o, none⟩ = false) := by
      rcases hO.forms with ⟨_, h⟩ | ⟨g', cap', he, -, -, -, hr, hf, -⟩
      · omega
      · obtain ⟨rfl, rfl⟩ : g = g' ∧ cap = cap' := by simpa using he
        exact ⟨hr, hf⟩
    unfold reelV at y
    by_cases hlt : k < T.days.length
    · go_light
      obtain ⟨c0, c1⟩ := hrw.two (i := k) hlt
      simp only [Nat.zero_add] at c0 c1
      have f0 := hfro (k * 2); have f1 := hfro (k * 2 + 1)
      have p0 : (0 : Int) ≤ (k : Int) := by omega
      have p1 : (k : Int) < (T.days.length : Int) := by omega
      have w2' : IntKind.i64.wrap ((k : Int) + 1) = (k : Int) + 1 := IntWalk.i64_in _ (by omega)
      have HO := Lib.hid hO; have HE := Lib.hid hE
      have hgb : ¬ g = b10 := by omega
      have hgB : ¬ g = B := by omega
      clear hO hE hrw hfro
      have qBc := cell_blk y
      have qBf := frz_blk y
      have q10c := cell_blk y10
      have q10f := frz_blk y10
      go_wp2_with (fail)
      refine region_ev [] [0, 1, 2, 3, 4, 5, 6] [] [7] (by kernel_rfl) (by kernel_rfl) (by intro c a d v w h; cases d <;> exact h) ?_
      simp only [picks, List.drop_succ_cons, List.drop_zero]
      repeat (refine wpQ0_step (fun K hK => ?_); go_simp; (refine hK _ ?_; clear hK K))
      refine wpQ0_nil ?_
      repeat ((with_reducible refine wpQ2_step (fun K hK => ?_)); go_simp; first | ((with_reducible refine hK _ ?_); clear hK K) | (apply Exists.intro; refine ⟨fun x => ?_, hK _ ?_⟩; (fail); clear hK K))
      refine wpQ2_nil ?_
      refine Events.none_ fun w4 hg4 => ?_
      simp only [picks, List.drop_succ_cons, List.drop_zero]
      have hE4 : Ext2 wr w4 := hg4
      have y10 := Ext2.blk hE4 y10
      have hszE := HE.out.size
      have HE := Lib.hid (HE.out.trans (Below.mono hE4 (by omega)))
      have HO := Lib.hid (HO.out.below hE4)
      obtain ⟨hrw, hfro⟩ : RowC w4 g 0 2 T.days.length (spC (movF T S a k)) ∧ (∀ o, w4.frozen? ⟨g, o, none⟩ = false) := by
        rcases HO.out.forms with ⟨_, h⟩ | ⟨g', cap', he, -, -, -, hr, hf, -⟩
        · omega
        · obtain ⟨rfl, rfl⟩ : g = g' ∧ cap = cap' := by simpa using he
          exact ⟨hr, hf⟩
      obtain ⟨c0, c1⟩ := hrw.two (i := k) hlt
      simp only [Nat.zero_add] at c0 c1
      have f0 := hfro (k * 2); have f1 := hfro (k * 2 + 1)
      clear qBc qBf q10c q10f hrw hfro
      go_wp2_with (fail)
      go_roundw
      case rel =>
        have h1 := HO.out.set hlt (j := 0) (by omega) (.int .i64 S.lo)
        have h2 := h1.set hlt (j := 1) (by omega) (.int .i64 S.hi)
        rw [Nat.add_zero] at h2
        refine ⟨k + 1, by go_num, by omega, by omega, below_set (below_set HE.out (by omega)) (by omega), ?_, h2.congr fun i j _ hj => spC_upd hak hj⟩
        repeat' (first | (with_reducible assumption) | (with_reducible refine blk_set_ne ?_ ?_) | (with_reducible exact blk_new _ _) | (with_reducible refine blk_new' _ _ (by first | (with_reducible rfl) | (simp; done) | (simp <;> omega))) | (with_reducible refine blk_alloc ?_ _) | (with_reducible refine blk_drew ?_) | (with_reducible refine blk_drewN ?_ _) | (with_reducible refine Ext2.blk (by assumption) ?_) | omega | (simp <;> omega) | exact blk_set (by assumption) _ _)
      case measure => simp [intOf]; omega
    · obtain rfl : k = T.days.length := by omega
      have hBr : Below w.heap.size w wr := hB3.trans (hE.mono (by omega))
      have x0 := (hE.block w.heap.size (by omega)).trans HX0.out
      have x1 := (hE.block (w.heap.size + 1) (by omega)).trans HX1.out
      have p1 : ¬ (T.days.length : Int) < (T.days.length : Int) := by omega
      have HO := Lib.hid hO; have HE := Lib.hid hE
      have HCL : Hid (∀ W, Ext2 wr W → Calls Try.prog 75 #[.slice s.t.a T.tests.length s.t.cap] W fun e w' => (∃ v, e = .returned v ∧ OwnR w' W.heap.size 51 3 v T.tests.length (testC T.tests)) ∧ Below W.heap.size W w') := Lib.hid fun W hW => clone_any (HT.out.below (below_extM hBr hW)).tests (by omega)
      have HY := Lib.hid y
      clear hO hE hrw hfro hlt hk
      have q0c := cell_blk x0
      have q0f := frz_blk x0
      have qBc := cell_blk y
      have qBf := frz_blk y
      go_wp2_with (fail)
      have hEr : Ext2 wr wr := Below.refl _ _
      (with_reducible refine (HCL.out _ hEr).mono ?_)
      rintro e w5 ⟨⟨v, rfl, hV⟩, hb5⟩
      have hE5 : Ext2 wr w5 := hb5
      have x1 := Ext2.blk hE5 x1
      have hb1 : w.heap.size + 1 < wr.heap.size := by have := HE.out.size; omega
      clear q0c q0f qBc qBf
      have HDL := Lib.hid (delV_any (f := f) (bf := w.heap.size + 1) (by omega) hV hb5.size x1 hb1)
      clear hV hb5
      go_wp2_with (fail)
      refine HDL.out.mono ?_
      rintro e w6 ⟨⟨z, rfl, hz, hzb⟩, hb6⟩
      have hE6 : Ext2 wr w6 := hE5.trans hb6
      have y := Ext2.blk hE6 y
      have hB6 := below_extM hBr hE6
      have x3 := Ext2.blk hE6 ((HE.out.block (w.heap.size + 3) (by omega)).trans HX3.out)
      have HZ := Lib.hid (And.intro hz hzb)
      clear hz hzb hb6
      have qBc := cell_blk y
      have qBf := frz_blk y
      go_wp2_with (fail)
      refine calls_name ?_
      intro w7 h7
      have hl : (movT T a f d).days.length = T.days.length := movDays_len (by omega)
      have hF : RowS w7 ⟨some ⟨g, 0, none⟩, cap⟩ 2 (movT T a f d).days.length (spC (spanD (forces (movT T a f d)))) := by
        have hO7 := (HO.out.below hE6).above (Above.set (o := 20) (v := .slice z.a (movTests T.tests f).length z.cap) (Above.refl (B + 1) w6) (.inl (Nat.lt_succ_self B)))
        rw [← h7] at hO7
        obtain ⟨⟨a', cap'⟩, hs, hr⟩ := hO7.sl
        obtain ⟨rfl, rfl⟩ : some (⟨g, 0, none⟩ : Addr) = a' ∧ cap = cap' := by simpa using hs
        rw [hl]
        exact rowS_congr hr fun i j hi _ => by
          have e := movF_end (T := T) (f := f) (d := d) (a := a) hi (by omega)
          rw [← HSE.out] at e
          rcases j with _ | j <;> simp only [spC, e]
      have hT7 : TestsS w7 z (movTests T.tests f) := by
        have h := rowS_above HZ.out.1 (base := B + 1) (fun b off h => by
          rcases HZ.out.2 b off h with h | h
          · left; have := HE.out.size; omega
          · exact .inr h) (Above.set (o := 20) (v := .slice z.a (movTests T.tests f).length z.cap) (Above.refl (B + 1) w6) (.inl (Nat.lt_succ_self B)))
        rw [← h7] at h; exact h
      have y7 : w7.heap[B]? = some (reelO (movT T a f d) ⟨s.h, s.w, s.d, z⟩ ⟨some ⟨g, 0, none⟩, cap⟩ (movT T a f d).days.length) := by
        rw [h7]; unfold reelO; rw [hl]; exact Eq.trans (blk_set y _ _) rfl
      have hE7 : Below w.heap.size w w7 := by rw [h7]; exact below_set hB6 (by omega)
      have x3 : w7.heap[w.heap.size + 3]? = some (Obj.cells #[.int .i64 0, .int .i64 0] 28) := by rw [h7]; repeat' (first | (with_reducible assumption) | (with_reducible refine blk_set_ne ?_ ?_) | (with_reducible exact blk_new _ _) | (with_reducible refine blk_new' _ _ (by first | (with_reducible rfl) | (simp; done) | (simp <;> omega))) | (with_reducible refine blk_alloc ?_ _) | (with_reducible refine blk_drew ?_) | (with_reducible refine blk_drewN ?_ _) | (with_reducible refine Ext2.blk (by assumption) ?_) | omega | (simp <;> omega) | exact blk_set (by assumption) _ _)
      have hLO := lost_any HTM.out y7 hF hT7
      rw [HOUT.out] at hLO
      have HLO := Lib.hid hLO
      clear h7 y y7 hF hT7 hLO hB6 qBc qBf
      refine HLO.out.mono ?_
      rintro e w8 ⟨rfl, hb8⟩
      have hB8 := below_extM hE7 hb8
      have x3 := Ext2.blk hb8 x3
      have q3c := cell_blk x3
      have q3f := frz_blk x3
      go_wp2_with (fail)
      have r1 : ((w8.setCell ⟨w.heap.size + 3, 0, none⟩ (.int .i64 (out.lo))).setCell ⟨w.heap.size + 3, 1, none⟩ (.int .i64 (out.hi))).heap[w.heap.size + 3]? = some (Obj.cells #[.int .i64 (out.lo), .int .i64 (out.hi)] 28) := Eq.trans (blk_set (blk_set x3 _ _) _ _) rfl
      refine bodyPost_ret (v := .tuple #[.agg #[.int .i64 (Span.mk (out.lo) (out.hi)).lo, .int .i64 (Span.mk (out.lo) (out.hi)).hi], .int .i64 (0)]) ?_ rfl ⟨rfl, below_set (below_set hB8 (by omega)) (by omega)⟩
      have zc := cell_blk r1
      have zf := frz_blk r1
      simp [results, Try.results45, go_sem, zc]
theorem movedP_any {T : Task} {s : TSl} {f : Int} {d : Day} {w : World} (hT : TaskAt w T s) : Calls Try.prog 45 #[.agg #[.slice s.h.a T.rule.heat.length s.h.cap, .slice s.w.a T.rule.wet.length s.w.cap, .int .i64 T.rule.own, .int .i64 T.rule.feed, .int .i64 T.rule.g0, .int .i64 T.rule.g1, .int .i64 T.rule.g2, .int .i64 T.rule.lost, .int .i64 T.first, .slice s.d.a T.days.length s.d.cap, .int .i64 T.start.lo, .int .i64 T.start.hi, .slice s.t.a T.tests.length s.t.cap], .int .i64 f, .agg #[.int .i64 d.tlo, .int .i64 d.thi, .int .i64 d.dlo, .int .i64 d.dhi]] w fun e w' => e = .returned (.tuple #[.agg #[.int .i64 (movOut T f d).lo, .int .i64 (movOut T f d).hi], .int .i64 (movE T f d)]) ∧ Below w.heap.size w w' := by
  by_cases h1 : (D.checkTask T).2.2 = 0
  · by_cases h2 : T.first ≤ f ∧ f < T.first + T.days.length
    · by_cases h3 : climateE d = 0
      · have e : movE T f d = 0 := by rw [movE, if_neg (by simp [h1]), if_neg (by simp [h2.1, h2.2]), h3]
        rw [e]; exact movedP_yes hT h1 h2 h3
      · have e : movE T f d = climateE d := by rw [movE, if_neg (by simp [h1]), if_neg (by simp [h2.1, h2.2])]
        have e2 : movOut T f d = ⟨0, 0⟩ := by rw [movOut, if_neg (by rw [e]; exact h3)]
        rw [e, e2]; exact movedP_day hT h1 h2 rfl h3
    · have e : movE T f d = 7 := by rw [movE, if_neg (by simp [h1]), if_pos h2]
      have e2 : movOut T f d = ⟨0, 0⟩ := by rw [movOut, if_neg (by rw [e]; decide)]
      rw [e, e2]; exact movedP_far hT h1 h2
  · have e : movE T f d = (D.checkTask T).2.2 := by rw [movE, if_pos h1]
    have e2 : movOut T f d = ⟨0, 0⟩ := by rw [movOut, if_neg (by rw [e]; exact h1)]
    rw [e, e2]; exact movedP_no hT rfl h1
end Go.Proofs.Ytfjbgcaogffiaaa
