/-
  decay.Check, decay.CheckTask, gains, meet: what the calls return.
-/
import Derived.Test.YtfjbgcaogffiaaaDTask
namespace Go.Proofs.Ytfjbgcaogffiaaa
open Go.RowKit D
set_option linter.unusedVariables false
set_option linter.unusedSimpArgs false
attribute [local go_sem high] run_minI run_maxI
theorem checkP_any {R : Rule} {hh hv : Sl} {w : World} (hR : RuleAt w R hh hv) :
    Calls Try.prog 35 #[.agg #[.slice hh.a R.heat.length hh.cap, .slice hv.a R.wet.length hv.cap, .int .i64 R.own, .int .i64 R.feed, .int .i64 R.g0, .int .i64 R.g1, .int .i64 R.g2, .int .i64 R.lost]] w fun e w' => e = .returned (.tuple #[.int .i64 (D.check R).1, .int .i64 (D.check R).2.1, .int .i64 (D.check R).2.2]) ∧ Below w.heap.size w w' := by
  have C : ∀ W, Below w.heap.size w W → _ := fun W hb => rule_any (hR.below hb)
  obtain ⟨p1, p2, p3, hp⟩ : ∃ a b c, D.check R = (a, b, c) := ⟨_, _, _, rfl⟩
  rw [hp] at C ⊢
  have HC := Lib.hid C; clear C hR
  go_enter Try.func35, Try.ntmps35
  go_wp2_with (fail)
  refine (HC.out _ (by repeat' (first | exact Below.refl _ _ | assumption | refine below_drewN ?_ _ | refine Below.drew ?_ | refine Below.alloc ?_ (by first | assumption | omega | (simp <;> omega)) _ | refine Below.setCell ?_ (by first | assumption | omega | (simp <;> omega)) _))).mono ?_
  rintro e w1 ⟨rfl, hb⟩
  have B1 := (below_alloc w _).trans (hb.mono (by simp))
  have hz1 := B1.size
  go_wp2_with (fail)
  go_quiet (fail)
  go_wp2_with (fail)
  go_ret3
  exact ⟨rfl, by repeat' (first | exact Below.refl _ _ | assumption | refine below_drewN ?_ _ | refine Below.drew ?_ | refine Below.alloc ?_ (by first | assumption | omega | (simp <;> omega)) _ | refine Below.setCell ?_ (by first | assumption | omega | (simp <;> omega)) _)⟩
theorem checkTaskP_any {T : Task} {s : TSl} {w : World} (hT : TaskAt w T s) :
    Calls Try.prog 37 #[.agg #[.slice s.h.a T.rule.heat.length s.h.cap, .slice s.w.a T.rule.wet.length s.w.cap, .int .i64 T.rule.own, .int .i64 T.rule.feed, .int .i64 T.rule.g0, .int .i64 T.rule.g1, .int .i64 T.rule.g2, .int .i64 T.rule.lost, .int .i64 T.first, .slice s.d.a T.days.length s.d.cap, .int .i64 T.start.lo, .int .i64 T.start.hi, .slice s.t.a T.tests.length s.t.cap]] w fun e w' => e = .returned (.tuple #[.int .i64 (D.checkTask T).1, .int .i64 (D.checkTask T).2.1, .int .i64 (D.checkTask T).2.2]) ∧ Below w.heap.size w w' := by
  have C : ∀ W, Below w.heap.size w W → _ := fun W hb => task_any (hT.below hb)
  obtain ⟨p1, p2, p3, hp⟩ : ∃ a b c, D.checkTask T = (a, b, c) := ⟨_, _, _, rfl⟩
  rw [hp] at C ⊢
  have HC := Lib.hid C; clear C hT
  go_enter Try.func37, Try.ntmps37
  go_wp2_with (fail)
  refine (HC.out _ (by repeat' (first | exact Below.refl _ _ | assumption | refine below_drewN ?_ _ | refine Below.drew ?_ | refine Below.alloc ?_ (by first | assumption | omega | (simp <;> omega)) _ | refine Below.setCell ?_ (by first | assumption | omega | (simp <;> omega)) _))).mono ?_
  rintro e w1 ⟨rfl, hb⟩
  have B1 := (below_alloc w _).trans (hb.mono (by simp))
  have hz1 := B1.size
  go_wp2_with (fail)
  go_quiet (fail)
  go_wp2_with (fail)
  go_ret3
  exact ⟨rfl, by repeat' (first | exact Below.refl _ _ | assumption | refine below_drewN ?_ _ | refine Below.drew ?_ | refine Below.alloc ?_ (by first | assumption | omega | (simp <;> omega)) _ | refine Below.setCell ?_ (by first | assumption | omega | (simp <;> omega)) _)⟩
theorem meet_any (alo ahi blo bhi : Int) (w : World) :
    Calls Try.prog 81 #[.agg #[.int .i64 alo, .int .i64 ahi], .agg #[.int .i64 blo, .int .i64 bhi]] w fun e w' =>
      e = .returned (.tuple #[.agg #[.int .i64 (max alo blo), .int .i64 (min ahi bhi)], .bool (decide (max alo blo ≤ min ahi bhi))]) ∧ Below w.heap.size w w' := by
  go_enter Try.func81, Try.ntmps81
  go_wp2
  go_region
  go_wp2
  exact bodyPost_ret (v := .tuple #[.agg #[.int .i64 (max alo blo), .int .i64 (min ahi bhi)], .bool (decide (max alo blo ≤ min ahi bhi))]) (by simp [results, Try.results81, go_sem]) rfl ⟨rfl, by repeat' (first | exact Below.refl _ _ | assumption | refine below_drewN ?_ _ | refine Below.drew ?_ | refine Below.alloc ?_ (by first | assumption | omega | (simp <;> omega)) _ | refine Below.setCell ?_ (by first | assumption | omega | (simp <;> omega)) _)⟩
/-- What is asked of a rule's numbers where a level grows. -/
structure GrowOk (R : Rule) (s : Span) : Prop where
  o0 : 0 ≤ R.own
  o1 : R.own ≤ 100000
  f0 : 0 ≤ R.feed
  f1 : R.feed ≤ 999999
  l0 : 0 ≤ s.lo
  l1 : s.lo ≤ 1000
  s0 : 0 ≤ s.hi
  s1 : s.hi ≤ 1000
theorem grow_bounds {R : Rule} {s : Span} (h : GrowOk R s) {n : Int} (n0 : 0 ≤ n) (n1 : n ≤ 1000000) :
    (0 ≤ n * R.feed ∧ n * R.feed ≤ 1000000 * 999999) ∧ (0 ≤ (R.own * 1000000 + n * R.feed) * s.lo ∧ (R.own * 1000000 + n * R.feed) * s.lo ≤ 1099999000000 * 1000) ∧ (0 ≤ (R.own * 1000000 + n * R.feed) * s.hi ∧ (R.own * 1000000 + n * R.feed) * s.hi ≤ 1099999000000 * 1000) := by
  obtain ⟨o0, o1, f0, f1, l0, l1, s0, s1⟩ := h
  have a0 : 0 ≤ n * R.feed := Int.mul_nonneg n0 f0
  have a1 : n * R.feed ≤ 1000000 * 999999 := Int.mul_le_mul n1 f1 f0 (by omega)
  exact ⟨⟨a0, a1⟩, ⟨Int.mul_nonneg (by omega) l0, Int.mul_le_mul (by omega) l1 l0 (by omega)⟩, ⟨Int.mul_nonneg (by omega) s0, Int.mul_le_mul (by omega) s1 s0 (by omega)⟩⟩
theorem gains_any {R : Rule} {s : Span} {hh hv : Sl} (h : GrowOk R s) {n : Int} (n0 : 0 ≤ n) (n1 : n ≤ 1000000) (w : World) :
    Calls Try.prog 65 #[.agg #[.slice hh.a R.heat.length hh.cap, .slice hv.a R.wet.length hv.cap, .int .i64 R.own, .int .i64 R.feed, .int .i64 R.g0, .int .i64 R.g1, .int .i64 R.g2, .int .i64 R.lost], .agg #[.int .i64 s.lo, .int .i64 s.hi], .int .i64 n] w fun e w' =>
      e = .returned (.agg #[.int .i64 (least R s n), .int .i64 (most R s n)]) ∧ Below w.heap.size w w' := by
  obtain ⟨⟨a0, a1⟩, ⟨b0, b1⟩, ⟨c0, c1⟩⟩ := grow_bounds h n0 n1
  obtain ⟨o0, o1, f0, f1, l0, l1, s0, s1⟩ := h
  have e1 : ((R.own * 1000000 + n * R.feed) * s.hi + 1000000000 - 1) = ((R.own * 1000000 + n * R.feed) * s.hi + 999999999) := by omega
  have E1 := Lib.hid e1; clear e1
  go_enter Try.func65, Try.ntmps65
  go_wp2
  refine bodyPost_ret (v := .agg #[.int .i64 (least R s n), .int .i64 (most R s n)]) ?_ rfl ⟨rfl, by repeat' (first | exact Below.refl _ _ | assumption | refine below_drewN ?_ _ | refine Below.drew ?_ | refine Below.alloc ?_ (by first | assumption | omega | (simp <;> omega)) _ | refine Below.setCell ?_ (by first | assumption | omega | (simp <;> omega)) _)⟩
  simp [results, Try.results65, go_sem, least, most, E1.out]
end Go.Proofs.Ytfjbgcaogffiaaa
