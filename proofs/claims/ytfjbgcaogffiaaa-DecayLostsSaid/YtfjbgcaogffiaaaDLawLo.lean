/-
  The law DecayLosts, walked.
-/
import Derived.Test.YtfjbgcaogffiaaaDAwake
import Derived.Test.YtfjbgcaogffiaaaDMovP
import Derived.Test.YtfjbgcaogffiaaaDRefMA
import Derived.Test.YtfjbgcaogffiaaaDRefLost
namespace Go.Proofs.Ytfjbgcaogffiaaa
open Go.RowKit D
set_option linter.unusedVariables false
set_option linter.unusedSimpArgs false
attribute [local go_sem high] run_minI run_maxI
attribute [local go_sem] upon2 cls_cell cls_frozen forall_const exists_eq_left'
attribute [local go_sem] FirstUpon run_neq_span
set_option maxRecDepth 100000 in
set_option maxHeartbeats 2000000 in
theorem lawLosts_any {T : Task} {s : TSl} {f : Int} {d : Day} {w : World} (hT : TaskAt w T s) : Calls Try.prog 14 #[.agg #[.slice s.h.a T.rule.heat.length s.h.cap, .slice s.w.a T.rule.wet.length s.w.cap, .int .i64 T.rule.own, .int .i64 T.rule.feed, .int .i64 T.rule.g0, .int .i64 T.rule.g1, .int .i64 T.rule.g2, .int .i64 T.rule.lost, .int .i64 T.first, .slice s.d.a T.days.length s.d.cap, .int .i64 T.start.lo, .int .i64 T.start.hi, .slice s.t.a T.tests.length s.t.cap], .int .i64 f, .agg #[.int .i64 d.tlo, .int .i64 d.thi, .int .i64 d.dlo, .int .i64 d.dhi]] w fun e w' => e = .returned (.bool true) ∧ Below w.heap.size w w' := by
  obtain ⟨S, hS⟩ : ∃ S, S = lostOut T := ⟨_, rfl⟩
  obtain ⟨se, hse⟩ : ∃ S, S = (D.checkTask T).2.2 := ⟨_, rfl⟩
  obtain ⟨G, hG⟩ : ∃ S, S = movOut T f d := ⟨_, rfl⟩
  obtain ⟨ge, hge⟩ : ∃ S, S = movE T f d := ⟨_, rfl⟩
  have H1 : Hid (∀ W, Below w.heap.size w W → Calls Try.prog 31 #[.agg #[.slice s.h.a T.rule.heat.length s.h.cap, .slice s.w.a T.rule.wet.length s.w.cap, .int .i64 T.rule.own, .int .i64 T.rule.feed, .int .i64 T.rule.g0, .int .i64 T.rule.g1, .int .i64 T.rule.g2, .int .i64 T.rule.lost, .int .i64 T.first, .slice s.d.a T.days.length s.d.cap, .int .i64 T.start.lo, .int .i64 T.start.hi, .slice s.t.a T.tests.length s.t.cap]] W fun e w' => e = .returned (.tuple #[.agg #[.int .i64 S.lo, .int .i64 S.hi], .int .i64 se]) ∧ Below W.heap.size W w') := Lib.hid fun W hW => by
    rw [hS, hse]; exact lostP_any (hT.below hW)
  have H2 : Hid (∀ W, Below w.heap.size w W → Calls Try.prog 44 #[.agg #[.slice s.h.a T.rule.heat.length s.h.cap, .slice s.w.a T.rule.wet.length s.w.cap, .int .i64 T.rule.own, .int .i64 T.rule.feed, .int .i64 T.rule.g0, .int .i64 T.rule.g1, .int .i64 T.rule.g2, .int .i64 T.rule.lost, .int .i64 T.first, .slice s.d.a T.days.length s.d.cap, .int .i64 T.start.lo, .int .i64 T.start.hi, .slice s.t.a T.tests.length s.t.cap]] W fun e w' => e = .returned (.tuple #[.agg #[.int .i64 S.lo, .int .i64 S.hi], .int .i64 se]) ∧ Below W.heap.size W w') := Lib.hid fun W hW => by
    rw [hS, hse]; exact lostR_any (hT.below hW)
  have H3 : Hid (∀ W, Below w.heap.size w W → Calls Try.prog 45 #[.agg #[.slice s.h.a T.rule.heat.length s.h.cap, .slice s.w.a T.rule.wet.length s.w.cap, .int .i64 T.rule.own, .int .i64 T.rule.feed, .int .i64 T.rule.g0, .int .i64 T.rule.g1, .int .i64 T.rule.g2, .int .i64 T.rule.lost, .int .i64 T.first, .slice s.d.a T.days.length s.d.cap, .int .i64 T.start.lo, .int .i64 T.start.hi, .slice s.t.a T.tests.length s.t.cap], .int .i64 f, .agg #[.int .i64 d.tlo, .int .i64 d.thi, .int .i64 d.dlo, .int .i64 d.dhi]] W fun e w' => e = .returned (.tuple #[.agg #[.int .i64 G.lo, .int .i64 G.hi], .int .i64 ge]) ∧ Below W.heap.size W w') := Lib.hid fun W hW => by
    rw [hG, hge]; exact movedP_any (hT.below hW)
  have H4 : Hid (∀ W, Below w.heap.size w W → Calls Try.prog 46 #[.agg #[.slice s.h.a T.rule.heat.length s.h.cap, .slice s.w.a T.rule.wet.length s.w.cap, .int .i64 T.rule.own, .int .i64 T.rule.feed, .int .i64 T.rule.g0, .int .i64 T.rule.g1, .int .i64 T.rule.g2, .int .i64 T.rule.lost, .int .i64 T.first, .slice s.d.a T.days.length s.d.cap, .int .i64 T.start.lo, .int .i64 T.start.hi, .slice s.t.a T.tests.length s.t.cap], .int .i64 f, .agg #[.int .i64 d.tlo, .int .i64 d.thi, .int .i64 d.dlo, .int .i64 d.dhi]] W fun e w' => e = .returned (.tuple #[.agg #[.int .i64 G.lo, .int .i64 G.hi], .int .i64 ge]) ∧ Below W.heap.size W w') := Lib.hid fun W hW => by
    rw [hG, hge]; exact movedR_any (hT.below hW)
  have H7 : Hid (∀ W, Calls Try.prog 21 #[] W fun e w' => e = .returned (.bool true) ∧ Below W.heap.size W w') := Lib.hid fun W => awake_any W
  clear hT hS hse hG hge
  go_enter Try.func14, Try.ntmps14
  go_wp2_with (fail)
  (with_reducible refine (H1.out _ ?_).mono ?_)
  · repeat' (first | exact Below.refl _ _ | assumption | refine below_drewN ?_ _ | refine Below.drew ?_ | refine Below.alloc ?_ (by first | assumption | omega | (simp <;> omega)) _ | refine Below.setCell ?_ (by first | assumption | omega | (simp <;> omega)) _ | refine Ext2.on (by assumption) ?_)
  rintro e w1 ⟨rfl, hb1⟩
  have hB1 : Below w.heap.size w w1 := Below.trans (by repeat' (first | exact Below.refl _ _ | assumption | refine below_drewN ?_ _ | refine Below.drew ?_ | refine Below.alloc ?_ (by first | assumption | omega | (simp <;> omega)) _ | refine Below.setCell ?_ (by first | assumption | omega | (simp <;> omega)) _ | refine Ext2.on (by assumption) ?_)) (hb1.mono (by simp; omega))
  have x0 : w1.heap[w.heap.size]? = some (Obj.cells #[.slice s.h.a T.rule.heat.length s.h.cap, .slice s.w.a T.rule.wet.length s.w.cap, .int .i64 T.rule.own, .int .i64 T.rule.feed, .int .i64 T.rule.g0, .int .i64 T.rule.g1, .int .i64 T.rule.g2, .int .i64 T.rule.lost, .int .i64 T.first, .slice s.d.a T.days.length s.d.cap, .int .i64 T.start.lo, .int .i64 T.start.hi, .slice s.t.a T.tests.length s.t.cap] 31) := below_blk hb1 (by repeat' (first | (with_reducible assumption) | (with_reducible refine blk_set_ne ?_ ?_) | (with_reducible exact blk_new _ _) | (with_reducible refine blk_new' _ _ (by first | (with_reducible rfl) | (simp; done) | (simp <;> omega))) | (with_reducible refine blk_alloc ?_ _) | (with_reducible refine blk_drew ?_) | (with_reducible refine blk_drewN ?_ _) | (with_reducible refine Ext2.blk (by assumption) ?_) | omega | (simp <;> omega) | exact blk_set (by assumption) _ _)) (by first | (simp; done) | (simp; omega))
  have x1 : w1.heap[w.heap.size + 1]? = some (Obj.cells #[.int .i64 d.tlo, .int .i64 d.thi, .int .i64 d.dlo, .int .i64 d.dhi] 48) := below_blk hb1 (by repeat' (first | (with_reducible assumption) | (with_reducible refine blk_set_ne ?_ ?_) | (with_reducible exact blk_new _ _) | (with_reducible refine blk_new' _ _ (by first | (with_reducible rfl) | (simp; done) | (simp <;> omega))) | (with_reducible refine blk_alloc ?_ _) | (with_reducible refine blk_drew ?_) | (with_reducible refine blk_drewN ?_ _) | (with_reducible refine Ext2.blk (by assumption) ?_) | omega | (simp <;> omega) | exact blk_set (by assumption) _ _)) (by first | (simp; done) | (simp; omega))
  have hz1 := blk_lt x1
  have HX0 := Lib.hid x0; have HX1 := Lib.hid x1
  have e0 : w.heap.size < w1.heap.size := by omega
  have e2 : ¬ w.heap.size = w1.heap.size := by omega
  clear hb1
  have q0c := cell_blk x0
  have q0f := frz_blk x0
  go_wp2_with (fail)
  (with_reducible refine (H2.out _ ?_).mono ?_)
  · repeat' (first | exact Below.refl _ _ | assumption | refine below_drewN ?_ _ | refine Below.drew ?_ | refine Below.alloc ?_ (by first | assumption | omega | (simp <;> omega)) _ | refine Below.setCell ?_ (by first | assumption | omega | (simp <;> omega)) _ | refine Ext2.on (by assumption) ?_)
  rintro e w2 ⟨rfl, hb2⟩
  have s7 : w2.heap[w1.heap.size]? = some (Obj.cells #[.int .i64 S.lo, .int .i64 S.hi] 28) := below_blk hb2 (blk_new _ _) (by simp)
  have hE2 : Ext2 w1 w2 := (below_alloc' _ _).trans (hb2.mono (by simp))
  have hB2 := hB1.trans (Below.mono hE2 hB1.size)
  have hz2 := blk_lt s7
  clear hb2 q0c q0f x0 x1 e0 e2 hB1
  have x0 := Ext2.blk hE2 HX0.out; have x1 := Ext2.blk hE2 HX1.out
  have hl1 := Ext2.size hE2
  have e0 : w.heap.size < w2.heap.size := by omega
  have e1 : w.heap.size + 1 < w2.heap.size := by omega
  have e4 : ¬ w.heap.size = w2.heap.size := by omega
  have e5 : ¬ w.heap.size + 1 = w2.heap.size := by omega
  have e7 : ¬ w1.heap.size = w2.heap.size := by omega
  have q0c := cell_blk x0
  have q0f := frz_blk x0
  have q1c := cell_blk x1
  have q1f := frz_blk x1
  have q7c := cell_blk s7
  have q7f := frz_blk s7
  go_wp2_with (fail)
  (with_reducible refine (H3.out _ ?_).mono ?_)
  · repeat' (first | exact Below.refl _ _ | assumption | refine below_drewN ?_ _ | refine Below.drew ?_ | refine Below.alloc ?_ (by first | assumption | omega | (simp <;> omega)) _ | refine Below.setCell ?_ (by first | assumption | omega | (simp <;> omega)) _ | refine Ext2.on (by assumption) ?_)
  rintro e w3 ⟨rfl, hb3⟩
  have s9 : w3.heap[w2.heap.size]? = some (Obj.cells #[.int .i64 S.lo, .int .i64 S.hi] 28) := below_blk hb3 (blk_new _ _) (by simp)
  have hE3 : Ext2 w2 w3 := (below_alloc' _ _).trans (hb3.mono (by simp))
  have hB3 := hB2.trans (Below.mono hE3 hB2.size)
  have s7 := Ext2.blk hE3 s7
  have x0 := Ext2.blk hE3 x0; have x1 := Ext2.blk hE3 x1
  clear hb3 q0c q0f q1c q1f q7c q7f hB2
  have q0c := cell_blk x0
  have q0f := frz_blk x0
  have q1c := cell_blk x1
  have q1f := frz_blk x1
  have q7c := cell_blk s7
  have q7f := frz_blk s7
  go_wp2_with (fail)
  refine calls_name ?_
  intro w4 h4
  have hB4 : Below w.heap.size w w4 := by rw [h4]; exact below_set (below_set hB3 (by omega)) (by omega)
  have y7 : w4.heap[w1.heap.size]? = some (Obj.cells #[.int .i64 G.lo, .int .i64 G.hi] 28) := by rw [h4]; exact Eq.trans (blk_set (blk_set s7 _ _) _ _) rfl
  have y9 : w4.heap[w2.heap.size]? = some (Obj.cells #[.int .i64 S.lo, .int .i64 S.hi] 28) := by rw [h4]; exact blk_set_ne (blk_set_ne s9 (by omega)) (by omega)
  clear h4 q0c q0f q1c q1f q7c q7f x0 x1 s7 s9 hB3
  (with_reducible refine (H4.out _ hB4).mono ?_)
  rintro e w5 ⟨rfl, hb5⟩
  have hB5 := hB4.trans (hb5.mono hB4.size)
  have y7 := Ext2.blk hb5 y7; have y9 := Ext2.blk hb5 y9
  clear hb5 hB4
  have q7c := cell_blk y7
  have q7f := frz_blk y7
  have q9c := cell_blk y9
  have q9f := frz_blk y9
  go_wp2_with (fail)
  refine calls_name ?_
  intro w6 h6
  have hB6 : Below w.heap.size w w6 := by rw [h6]; exact below_set (below_set hB5 (by omega)) (by omega)
  clear h6 q7c q7f q9c q9f y7 y9 hB5
  (with_reducible refine (H7.out _).mono ?_)
  rintro e w9 ⟨rfl, hb9⟩
  have hB9 := hB6.trans (hb9.mono hB6.size)
  go_wp2_with (fail)
  go_ret
  exact ⟨rfl, hB9⟩
end Go.Proofs.Ytfjbgcaogffiaaa
