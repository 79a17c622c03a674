/-
  The reference's Moved.
  The reference's Moved: a task that is found good.
-/
import Derived.Test.YtfjbgcaogffiaaaDMvA
import Derived.Test.YtfjbgcaogffiaaaDRefLost
import Derived.Test.YtfjbgcaogffiaaaDRefA
import Derived.Test.YtfjbgcaogffiaaaDRefB
import Derived.Test.YtfjbgcaogffiaaaDRegB
namespace Go.Proofs.Ytfjbgcaogffiaaa
open Go.RowKit D
set_option linter.unusedVariables false
set_option linter.unusedSimpArgs false
attribute [local go_sem high] run_minI run_maxI
attribute [local go_sem] upon2 cls_cell cls_frozen forall_const exists_eq_left'
attribute [local go_sem] FirstUpon
set_option maxRecDepth 100000 in
set_option maxHeartbeats 2000000 in
theorem movedR_no {T : Task} {s : TSl} {f er : Int} {d : Day} {w : World} (hT : TaskAt w T s) (her : (D.checkTask T).2.2 = er) (h0 : er ≠ 0) : Calls Try.prog 46 #[.agg #[.slice s.h.a T.rule.heat.length s.h.cap, .slice s.w.a T.rule.wet.length s.w.cap, .int .i64 T.rule.own, .int .i64 T.rule.feed, .int .i64 T.rule.g0, .int .i64 T.rule.g1, .int .i64 T.rule.g2, .int .i64 T.rule.lost, .int .i64 T.first, .slice s.d.a T.days.length s.d.cap, .int .i64 T.start.lo, .int .i64 T.start.hi, .slice s.t.a T.tests.length s.t.cap], .int .i64 f, .agg #[.int .i64 d.tlo, .int .i64 d.thi, .int .i64 d.dlo, .int .i64 d.dhi]] w fun e w' => e = .returned (.tuple #[.agg #[.int .i64 (movOut T f d).lo, .int .i64 (movOut T f d).hi], .int .i64 (movE T f d)]) ∧ Below w.heap.size w w' := by
  have HV : Hid (∀ W, Below w.heap.size w W → Calls Try.prog 52 #[.agg #[.slice s.h.a T.rule.heat.length s.h.cap, .slice s.w.a T.rule.wet.length s.w.cap, .int .i64 T.rule.own, .int .i64 T.rule.feed, .int .i64 T.rule.g0, .int .i64 T.rule.g1, .int .i64 T.rule.g2, .int .i64 T.rule.lost, .int .i64 T.first, .slice s.d.a T.days.length s.d.cap, .int .i64 T.start.lo, .int .i64 T.start.hi, .slice s.t.a T.tests.length s.t.cap]] W fun e w' => e = .returned (.int .i64 er) ∧ Below W.heap.size W w') := Lib.hid fun W hW => by rw [← her]; exact valid_any (hT.below hW)
  have he : movE T f d = er := by rw [movE, if_pos (by rw [her]; exact h0), her]
  have ho : movOut T f d = ⟨0, 0⟩ := by rw [movOut, if_neg (by rw [he]; exact h0)]
  rw [he, ho]
  clear hT her he ho
  have b1' : (er == 0) = false := by simp [h0]
  have b2' : (er != 0) = true := by simp [h0]
  go_enter Try.func46, Try.ntmps46
  go_wp2_with (fail)
  (with_reducible refine (HV.out _ ?_).mono ?_)
  · repeat' (first | exact Below.refl _ _ | assumption | refine below_drewN ?_ _ | refine Below.drew ?_ | refine Below.alloc ?_ (by first | assumption | omega | (simp <;> omega)) _ | refine Below.setCell ?_ (by first | assumption | omega | (simp <;> omega)) _ | refine Ext2.on (by assumption) ?_)
  rintro e w1 ⟨rfl, hb1⟩
  have hB1 : Below w.heap.size w w1 := Below.trans (by repeat' (first | exact Below.refl _ _ | assumption | refine below_drewN ?_ _ | refine Below.drew ?_ | refine Below.alloc ?_ (by first | assumption | omega | (simp <;> omega)) _ | refine Below.setCell ?_ (by first | assumption | omega | (simp <;> omega)) _ | refine Ext2.on (by assumption) ?_)) (hb1.mono (by simp; omega))
  have x2 : w1.heap[w.heap.size + 2]? = some (Obj.cells #[.int .i64 0, .int .i64 0] 28) := below_blk hb1 (by repeat' (first | (with_reducible assumption) | (with_reducible refine blk_set_ne ?_ ?_) | (with_reducible exact blk_new _ _) | (with_reducible refine blk_new' _ _ (by first | (with_reducible rfl) | (simp; done) | (simp <;> omega))) | (with_reducible refine blk_alloc ?_ _) | (with_reducible refine blk_drew ?_) | (with_reducible refine blk_drewN ?_ _) | (with_reducible refine Ext2.blk (by assumption) ?_) | omega | (simp <;> omega) | exact blk_set (by assumption) _ _)) (by simp)
  clear hb1
  have q2c := cell_blk x2
  have q2f := frz_blk x2
  go_wp2_with (fail)
  have r1 : ((w1.setCell ⟨w.heap.size + 2, 0, none⟩ (.int .i64 (0))).setCell ⟨w.heap.size + 2, 1, none⟩ (.int .i64 (0))).heap[w.heap.size + 2]? = some (Obj.cells #[.int .i64 (0), .int .i64 (0)] 28) := Eq.trans (blk_set (blk_set x2 _ _) _ _) rfl
  refine bodyPost_ret (v := .tuple #[.agg #[.int .i64 (Span.mk (0) (0)).lo, .int .i64 (Span.mk (0) (0)).hi], .int .i64 (er)]) ?_ rfl ⟨rfl, below_set (below_set hB1 (by omega)) (by omega)⟩
  have zc := cell_blk r1
  have zf := frz_blk r1
  simp [results, Try.results46, go_sem, zc]
set_option maxRecDepth 100000 in
set_option maxHeartbeats 2000000 in
theorem movedR_far {T : Task} {s : TSl} {f : Int} {d : Day} {w : World} (hT : TaskAt w T s) (her : (D.checkTask T).2.2 = 0) (h0 : ¬ (T.first ≤ f ∧ f < T.first + T.days.length)) : Calls Try.prog 46 #[.agg #[.slice s.h.a T.rule.heat.length s.h.cap, .slice s.w.a T.rule.wet.length s.w.cap, .int .i64 T.rule.own, .int .i64 T.rule.feed, .int .i64 T.rule.g0, .int .i64 T.rule.g1, .int .i64 T.rule.g2, .int .i64 T.rule.lost, .int .i64 T.first, .slice s.d.a T.days.length s.d.cap, .int .i64 T.start.lo, .int .i64 T.start.hi, .slice s.t.a T.tests.length s.t.cap], .int .i64 f, .agg #[.int .i64 d.tlo, .int .i64 d.thi, .int .i64 d.dlo, .int .i64 d.dhi]] w fun e w' => e = .returned (.tuple #[.agg #[.int .i64 (movOut T f d).lo, .int .i64 (movOut T f d).hi], .int .i64 (movE T f d)]) ∧ Below w.heap.size w w' := by
  have HV : Hid (∀ W, Below w.heap.size w W → Calls Try.prog 52 #[.agg #[.slice s.h.a T.rule.heat.length s.h.cap, .slice s.w.a T.rule.wet.length s.w.cap, .int .i64 T.rule.own, .int .i64 T.rule.feed, .int .i64 T.rule.g0, .int .i64 T.rule.g1, .int .i64 T.rule.g2, .int .i64 T.rule.lost, .int .i64 T.first, .slice s.d.a T.days.length s.d.cap, .int .i64 T.start.lo, .int .i64 T.start.hi, .slice s.t.a T.tests.length s.t.cap]] W fun e w' => e = .returned (.int .i64 0) ∧ Below W.heap.size W w') := Lib.hid fun W hW => by rw [← her]; exact valid_any (hT.below hW)
  have hk := (task_ok her).1
  have hfst := hk.first
  have hnd := hk.nd
  have HI : Hid (∀ W, Calls Try.prog 54 #[.int .i64 f, .int .i64 T.first, .int .i64 (T.first + (T.days.length : Int) - 1)] W fun e w' => e = .returned (.bool false) ∧ Below W.heap.size W w') := Lib.hid fun W => (in_any _ _ _ W).mono fun e w' ⟨he, hw⟩ => ⟨by rw [he, inB_f (by omega)], by rw [← hw]; exact Below.refl _ _⟩
  have he : movE T f d = 7 := by rw [movE, if_neg (fun h => h her), if_pos h0]
  have ho : movOut T f d = ⟨0, 0⟩ := by rw [movOut, if_neg (by rw [he]; omega)]
  rw [he, ho]
  clear hT her he ho h0 hk
  have ww : IntKind.i64.wrap (T.first + (T.days.length : Int)) = T.first + (T.days.length : Int) := IntWalk.i64_in _ (by omega)
  have ww2 : IntKind.i64.wrap (T.first + (T.days.length : Int) - 1) = T.first + (T.days.length : Int) - 1 := IntWalk.i64_in _ (by omega)
  go_enter Try.func46, Try.ntmps46
  go_wp2_with (fail)
  (with_reducible refine (HV.out _ ?_).mono ?_)
  · repeat' (first | exact Below.refl _ _ | assumption | refine below_drewN ?_ _ | refine Below.drew ?_ | refine Below.alloc ?_ (by first | assumption | omega | (simp <;> omega)) _ | refine Below.setCell ?_ (by first | assumption | omega | (simp <;> omega)) _ | refine Ext2.on (by assumption) ?_)
  rintro e w1 ⟨rfl, hb1⟩
  have hB1 : Below w.heap.size w w1 := Below.trans (by repeat' (first | exact Below.refl _ _ | assumption | refine below_drewN ?_ _ | refine Below.drew ?_ | refine Below.alloc ?_ (by first | assumption | omega | (simp <;> omega)) _ | refine Below.setCell ?_ (by first | assumption | omega | (simp <;> omega)) _ | refine Ext2.on (by assumption) ?_)) (hb1.mono (by simp; omega))
  have x2 : w1.heap[w.heap.size + 2]? = some (Obj.cells #[.int .i64 0, .int .i64 0] 28) := below_blk hb1 (by repeat' (first | (with_reducible assumption) | (with_reducible refine blk_set_ne ?_ ?_) | (with_reducible exact blk_new _ _) | (with_reducible refine blk_new' _ _ (by first | (with_reducible rfl) | (simp; done) | (simp <;> omega))) | (with_reducible refine blk_alloc ?_ _) | (with_reducible refine blk_drew ?_) | (with_reducible refine blk_drewN ?_ _) | (with_reducible refine Ext2.blk (by assumption) ?_) | omega | (simp <;> omega) | exact blk_set (by assumption) _ _)) (by simp)
  have x0 : w1.heap[w.heap.size]? = some (Obj.cells #[.slice s.h.a T.rule.heat.length s.h.cap, .slice s.w.a T.rule.wet.length s.w.cap, .int .i64 T.rule.own, .int .i64 T.rule.feed, .int .i64 T.rule.g0, .int .i64 T.rule.g1, .int .i64 T.rule.g2, .int .i64 T.rule.lost, .int .i64 T.first, .slice s.d.a T.days.length s.d.cap, .int .i64 T.start.lo, .int .i64 T.start.hi, .slice s.t.a T.tests.length s.t.cap] 31) := below_blk hb1 (by repeat' (first | (with_reducible assumption) | (with_reducible refine blk_set_ne ?_ ?_) | (with_reducible exact blk_new _ _) | (with_reducible refine blk_new' _ _ (by first | (with_reducible rfl) | (simp; done) | (simp <;> omega))) | (with_reducible refine blk_alloc ?_ _) | (with_reducible refine blk_drew ?_) | (with_reducible refine blk_drewN ?_ _) | (with_reducible refine Ext2.blk (by assumption) ?_) | omega | (simp <;> omega) | exact blk_set (by assumption) _ _)) (by simp; omega)
  clear hb1
  have q0c := cell_blk x0
  have q0f := frz_blk x0
  go_wp2_with (fail)
  (with_reducible refine (HI.out _).mono ?_)
  rintro e w2 ⟨rfl, hb2⟩
  have hx2 : Ext2 w1 w2 := hb2
  have hB2 := hB1.trans (hb2.mono hB1.size)
  have x2 := Ext2.blk hx2 x2
  clear q0c q0f x0
  have q2c := cell_blk x2
  have q2f := frz_blk x2
  go_wp2_with (fail)
  have r1 : ((w2.setCell ⟨w.heap.size + 2, 0, none⟩ (.int .i64 (0))).setCell ⟨w.heap.size + 2, 1, none⟩ (.int .i64 (0))).heap[w.heap.size + 2]? = some (Obj.cells #[.int .i64 (0), .int .i64 (0)] 28) := Eq.trans (blk_set (blk_set x2 _ _) _ _) rfl
  refine bodyPost_ret (v := .tuple #[.agg #[.int .i64 (Span.mk (0) (0)).lo, .int .i64 (Span.mk (0) (0)).hi], .int .i64 (7)]) ?_ rfl ⟨rfl, below_set (below_set hB2 (by omega)) (by omega)⟩
  have zc := cell_blk r1
  have zf := frz_blk r1
  simp [results, Try.results46, go_sem, zc]
set_option maxRecDepth 100000 in
set_option maxHeartbeats 2000000 in
theorem movedR_day {T : Task} {s : TSl} {f ce : Int} {d : Day} {w : World} (hT : TaskAt w T s) (her : (D.checkTask T).2.2 = 0) (h0 : T.first ≤ f ∧ f < T.first + T.days.length) (hc : climateE d = ce) (hc0 : ce ≠ 0) : Calls Try.prog 46 #[.agg #[.slice s.h.a T.rule.heat.length s.h.cap, .slice s.w.a T.rule.wet.length s.w.cap, .int .i64 T.rule.own, .int .i64 T.rule.feed, .int .i64 T.rule.g0, .int .i64 T.rule.g1, .int .i64 T.rule.g2, .int .i64 T.rule.lost, .int .i64 T.first, .slice s.d.a T.days.length s.d.cap, .int .i64 T.start.lo, .int .i64 T.start.hi, .slice s.t.a T.tests.length s.t.cap], .int .i64 f, .agg #[.int .i64 d.tlo, .int .i64 d.thi, .int .i64 d.dlo, .int .i64 d.dhi]] w fun e w' => e = .returned (.tuple #[.agg #[.int .i64 (movOut T f d).lo, .int .i64 (movOut T f d).hi], .int .i64 (movE T f d)]) ∧ Below w.heap.size w w' := by
  have HV : Hid (∀ W, Below w.heap.size w W → Calls Try.prog 52 #[.agg #[.slice s.h.a T.rule.heat.length s.h.cap, .slice s.w.a T.rule.wet.length s.w.cap, .int .i64 T.rule.own, .int .i64 T.rule.feed, .int .i64 T.rule.g0, .int .i64 T.rule.g1, .int .i64 T.rule.g2, .int .i64 T.rule.lost, .int .i64 T.first, .slice s.d.a T.days.length s.d.cap, .int .i64 T.start.lo, .int .i64 T.start.hi, .slice s.t.a T.tests.length s.t.cap]] W fun e w' => e = .returned (.int .i64 0) ∧ Below W.heap.size W w') := Lib.hid fun W hW => by rw [← her]; exact valid_any (hT.below hW)
  have hk := (task_ok her).1
  have hfst := hk.first
  have hnd := hk.nd
  have HI : Hid (∀ W, Calls Try.prog 54 #[.int .i64 f, .int .i64 T.first, .int .i64 (T.first + (T.days.length : Int) - 1)] W fun e w' => e = .returned (.bool true) ∧ Below W.heap.size W w') := Lib.hid fun W => (in_any _ _ _ W).mono fun e w' ⟨he, hw⟩ => ⟨by rw [he, inB_t (by omega)], by rw [← hw]; exact Below.refl _ _⟩
  have HC : Hid (∀ W, Calls Try.prog 55 #[.agg #[.int .i64 d.tlo, .int .i64 d.thi, .int .i64 d.dlo, .int .i64 d.dhi]] W fun e w' => e = .returned (.int .i64 ce) ∧ Below W.heap.size W w') := Lib.hid fun W => by rw [← hc]; exact climate_any d W
  have he : movE T f d = ce := by rw [movE, if_neg (fun h => h her), if_neg (fun h => h h0), hc]
  have ho : movOut T f d = ⟨0, 0⟩ := by rw [movOut, if_neg (by rw [he]; exact hc0)]
  rw [he, ho]
  clear hT her he ho h0 hk hc
  have b2' : (ce != 0) = true := by simp [hc0]
  have ww : IntKind.i64.wrap (T.first + (T.days.length : Int)) = T.first + (T.days.length : Int) := IntWalk.i64_in _ (by omega)
  have ww2 : IntKind.i64.wrap (T.first + (T.days.length : Int) - 1) = T.first + (T.days.length : Int) - 1 := IntWalk.i64_in _ (by omega)
  go_enter Try.func46, Try.ntmps46
  go_wp2_with (fail)
  (with_reducible refine (HV.out _ ?_).mono ?_)
  · repeat' (first | exact Below.refl _ _ | assumption | refine below_drewN ?_ _ | refine Below.drew ?_ | refine Below.alloc ?_ (by first | assumption | omega | (simp <;> omega)) _ | refine Below.setCell ?_ (by first | assumption | omega | (simp <;> omega)) _ | refine Ext2.on (by assumption) ?_)
  rintro e w1 ⟨rfl, hb1⟩
  have hB1 : Below w.heap.size w w1 := Below.trans (by repeat' (first | exact Below.refl _ _ | assumption | refine below_drewN ?_ _ | refine Below.drew ?_ | refine Below.alloc ?_ (by first | assumption | omega | (simp <;> omega)) _ | refine Below.setCell ?_ (by first | assumption | omega | (simp <;> omega)) _ | refine Ext2.on (by assumption) ?_)) (hb1.mono (by simp; omega))
  have x2 : w1.heap[w.heap.size + 2]? = some (Obj.cells #[.int .i64 0, .int .i64 0] 28) := below_blk hb1 (by repeat' (first | (with_reducible assumption) | (with_reducible refine blk_set_ne ?_ ?_) | (with_reducible exact blk_new _ _) | (with_reducible refine blk_new' _ _ (by first | (with_reducible rfl) | (simp; done) | (simp <;> omega))) | (with_reducible refine blk_alloc ?_ _) | (with_reducible refine blk_drew ?_) | (with_reducible refine blk_drewN ?_ _) | (with_reducible refine Ext2.blk (by assumption) ?_) | omega | (simp <;> omega) | exact blk_set (by assumption) _ _)) (by simp)
  have x1 : w1.heap[w.heap.size + 1]? = some (Obj.cells #[.int .i64 d.tlo, .int .i64 d.thi, .int .i64 d.dlo, .int .i64 d.dhi] 48) := below_blk hb1 (by repeat' (first | (with_reducible assumption) | (with_reducible refine blk_set_ne ?_ ?_) | (with_reducible exact blk_new _ _) | (with_reducible refine blk_new' _ _ (by first | (with_reducible rfl) | (simp; done) | (simp <;> omega))) | (with_reducible refine blk_alloc ?_ _) | (with_reducible refine blk_drew ?_) | (with_reducible refine blk_drewN ?_ _) | (with_reducible refine Ext2.blk (by assumption) ?_) | omega | (simp <;> omega) | exact blk_set (by assumption) _ _)) (by simp)
  have x0 : w1.heap[w.heap.size]? = some (Obj.cells #[.slice s.h.a T.rule.heat.length s.h.cap, .slice s.w.a T.rule.wet.length s.w.cap, .int .i64 T.rule.own, .int .i64 T.rule.feed, .int .i64 T.rule.g0, .int .i64 T.rule.g1, .int .i64 T.rule.g2, .int .i64 T.rule.lost, .int .i64 T.first, .slice s.d.a T.days.length s.d.cap, .int .i64 T.start.lo, .int .i64 T.start.hi, .slice s.t.a T.tests.length s.t.cap] 31) := below_blk hb1 (by repeat' (first | (with_reducible assumption) | (with_reducible refine blk_set_ne ?_ ?_) | (with_reducible exact blk_new _ _) | (with_reducible refine blk_new' _ _ (by first | (with_reducible rfl) | (simp; done) | (simp <;> omega))) | (with_reducible refine blk_alloc ?_ _) | (with_reducible refine blk_drew ?_) | (with_reducible refine blk_drewN ?_ _) | (with_reducible refine Ext2.blk (by assumption) ?_) | omega | (simp <;> omega) | exact blk_set (by assumption) _ _)) (by simp; omega)
  clear hb1
  have q0c := cell_blk x0
  have q0f := frz_blk x0
  go_wp2_with (fail)
  (with_reducible refine (HI.out _).mono ?_)
  rintro e w2 ⟨rfl, hb2⟩
  have hx2 : Ext2 w1 w2 := hb2
  have hB2 := hB1.trans (hb2.mono hB1.size)
  have x2 := Ext2.blk hx2 x2
  have x1 := Ext2.blk hx2 x1
  clear q0c q0f x0
  have q2c := cell_blk x2
  have q2f := frz_blk x2
  have q1c := cell_blk x1
  have q1f := frz_blk x1
  go_wp2_with (fail)
  (with_reducible refine (HC.out _).mono ?_)
  rintro e w3 ⟨rfl, hb3⟩
  have hx3 : Ext2 w2 w3 := hb3
  have hB3 := hB2.trans (hb3.mono hB2.size)
  have x2 := Ext2.blk hx3 x2
  clear q1c q1f q2c q2f x1
  have q2c := cell_blk x2
  have q2f := frz_blk x2
  go_wp2_with (fail)
  have r1 : ((w3.setCell ⟨w.heap.size + 2, 0, none⟩ (.int .i64 (0))).setCell ⟨w.heap.size + 2, 1, none⟩ (.int .i64 (0))).heap[w.heap.size + 2]? = some (Obj.cells #[.int .i64 (0), .int .i64 (0)] 28) := Eq.trans (blk_set (blk_set x2 _ _) _ _) rfl
  refine bodyPost_ret (v := .tuple #[.agg #[.int .i64 (Span.mk (0) (0)).lo, .int .i64 (Span.mk (0) (0)).hi], .int .i64 (ce)]) ?_ rfl ⟨rfl, below_set (below_set hB3 (by omega)) (by omega)⟩
  have zc := cell_blk r1
  have zf := frz_blk r1
  simp [results, Try.results46, go_sem, zc]
end Go.Proofs.Ytfjbgcaogffiaaa
namespace Go.Proofs.Ytfjbgcaogffiaaa
open Go.RowKit D
set_option linter.unusedVariables false
set_option linter.unusedSimpArgs false
attribute [local go_sem high] run_minI run_maxI
attribute [local go_sem] upon2 cls_cell cls_frozen forall_const exists_eq_left'
attribute [local go_sem] FirstUpon
def movC (l : List Day) (d : Day) (a k : Nat) (i j : Nat) : Value := if a ≤ i ∧ i < k then dayC [d] 0 j else dayC l i j
theorem movC_start (l : List Day) (d : Day) (a i j : Nat) : movC l d a a i j = dayC l i j := if_neg (by omega)
theorem dayC_congr {l l' : List Day} {i i' : Nat} (h : dayD l i = dayD l' i') (j : Nat) : dayC l i j = dayC l' i' j := by
  match j with
  | 0 | 1 | 2 | _ + 3 => simp only [dayC, h]
theorem movC_end {l : List Day} {d : Day} {a i j : Nat} (h : i < l.length) : movC l d a l.length i j = dayC (movDays l a d) i j := by
  unfold movC
  by_cases hi : i < a
  · rw [if_neg (by omega)]
    exact dayC_congr (by rw [movDays_at h, if_pos hi]) j
  · rw [if_pos ⟨by omega, h⟩]
    exact dayC_congr (by rw [movDays_at h, if_neg hi]; rfl) j
theorem own_rowS {w : World} {base : Nat} {e : TypeId} {sz : Nat} {a : Option Addr} {n cap : Nat} {c : Nat → Nat → Value} (h : OwnR w base e sz (.slice a n cap) n c) : RowS w ⟨a, cap⟩ sz n c := by
  obtain ⟨⟨a', cap'⟩, hs, hr⟩ := h.sl
  obtain ⟨rfl, rfl⟩ : a = a' ∧ cap = cap' := by simpa using hs
  exact hr
theorem testC_snoc {L : List Test} {x : D.Test} {p q : Nat} (hp : p < L.length + 1) (hq : q < 3) : upd (testC L) L.length [.int .i64 x.day, .int .i64 x.grade, .int .i64 x.err] p q = testC (L ++ [x]) p q := by
  have hj := testD_app (l := L) (x := x) (j := p)
  by_cases h : p = L.length
  · subst h
    rw [upd_at]
    rw [if_pos rfl] at hj
    rcases (by omega : q = 0 ∨ q = 1 ∨ q = 2) with rfl | rfl | rfl <;> simp only [testC, hj] <;> rfl
  · rw [upd_lt (by omega)]
    rw [if_neg h] at hj
    rcases (by omega : q = 0 ∨ q = 1 ∨ q = 2) with rfl | rfl | rfl <;> simp only [testC, hj]
theorem own_has {w : World} {base : Nat} {e : TypeId} {sz : Nat} {v : Value} {n : Nat} {c : Nat → Nat → Value} (h : OwnR w base e sz v n c) (hn : 0 < n) : ∃ g cap, v = .slice (some ⟨g, 0, none⟩) n cap ∧ base ≤ g ∧ n ≤ cap ∧ cap ≤ 9223372036854775807 := by
  rcases h.forms with ⟨_, h⟩ | ⟨g5, cp5, h1, h2, h3, h4, -, -, -⟩
  · omega
  · exact ⟨g5, cp5, h1, h2, h3, h4⟩
set_option maxRecDepth 100000 in
set_option maxHeartbeats 2000000 in
theorem movedR_yes {T : Task} {s : TSl} {f : Int} {d : Day} {w : World} (hT : TaskAt w T s) (her : (D.checkTask T).2.2 = 0) (h0 : T.first ≤ f ∧ f < T.first + T.days.length) (hc : climateE d = 0) : Calls Try.prog 46 #[.agg #[.slice s.h.a T.rule.heat.length s.h.cap, .slice s.w.a T.rule.wet.length s.w.cap, .int .i64 T.rule.own, .int .i64 T.rule.feed, .int .i64 T.rule.g0, .int .i64 T.rule.g1, .int .i64 T.rule.g2, .int .i64 T.rule.lost, .int .i64 T.first, .slice s.d.a T.days.length s.d.cap, .int .i64 T.start.lo, .int .i64 T.start.hi, .slice s.t.a T.tests.length s.t.cap], .int .i64 f, .agg #[.int .i64 d.tlo, .int .i64 d.thi, .int .i64 d.dlo, .int .i64 d.dhi]] w fun e w' => e = .returned (.tuple #[.agg #[.int .i64 (movOut T f d).lo, .int .i64 (movOut T f d).hi], .int .i64 (movE T f d)]) ∧ Below w.heap.size w w' := by
  have HV : Hid (∀ W, Below w.heap.size w W → Calls Try.prog 52 #[.agg #[.slice s.h.a T.rule.heat.length s.h.cap, .slice s.w.a T.rule.wet.length s.w.cap, .int .i64 T.rule.own, .int .i64 T.rule.feed, .int .i64 T.rule.g0, .int .i64 T.rule.g1, .int .i64 T.rule.g2, .int .i64 T.rule.lost, .int .i64 T.first, .slice s.d.a T.days.length s.d.cap, .int .i64 T.start.lo, .int .i64 T.start.hi, .slice s.t.a T.tests.length s.t.cap]] W fun e w' => e = .returned (.int .i64 0) ∧ Below W.heap.size W w') := Lib.hid fun W hW => by rw [← her]; exact valid_any (hT.below hW)
  have hk := (task_ok her).1
  have hfst := hk.first
  have hnd := hk.nd
  have hnt := hk.nt
  have HI : Hid (∀ W, Calls Try.prog 54 #[.int .i64 f, .int .i64 T.first, .int .i64 (T.first + (T.days.length : Int) - 1)] W fun e w' => e = .returned (.bool true) ∧ Below W.heap.size W w') := Lib.hid fun W => (in_any _ _ _ W).mono fun e w' ⟨he, hw⟩ => ⟨by rw [he, inB_t (by omega)], by rw [← hw]; exact Below.refl _ _⟩
  have HC : Hid (∀ W, Calls Try.prog 55 #[.agg #[.int .i64 d.tlo, .int .i64 d.thi, .int .i64 d.dlo, .int .i64 d.dhi]] W fun e w' => e = .returned (.int .i64 0) ∧ Below W.heap.size W w') := Lib.hid fun W => by rw [← hc]; exact climate_any d W
  have he : movE T f d = 0 := by rw [movE, if_neg (fun h => h her), if_neg (fun h => h h0), hc]
  have ho := movOut_lost he
  have hz := movT_zero he
  rw [he, ho]
  obtain ⟨a, ha⟩ : ∃ a, a = (f - T.first).toNat := ⟨_, rfl⟩
  rw [← ha] at hz ⊢
  have haf : f - T.first = (a : Int) := by omega
  have hal : a < T.days.length := by omega
  obtain ⟨out, hout⟩ : ∃ o, o = lostOut (movT T a f d) := ⟨_, rfl⟩
  rw [← hout]
  have HLO : Hid (∀ W s', TaskAt W (movT T a f d) s' → Calls Try.prog 44 #[.agg #[.slice s'.h.a (movT T a f d).rule.heat.length s'.h.cap, .slice s'.w.a (movT T a f d).rule.wet.length s'.w.cap, .int .i64 (movT T a f d).rule.own, .int .i64 (movT T a f d).rule.feed, .int .i64 (movT T a f d).rule.g0, .int .i64 (movT T a f d).rule.g1, .int .i64 (movT T a f d).rule.g2, .int .i64 (movT T a f d).rule.lost, .int .i64 (movT T a f d).first, .slice s'.d.a (movT T a f d).days.length s'.d.cap, .int .i64 (movT T a f d).start.lo, .int .i64 (movT T a f d).start.hi, .slice s'.t.a (movT T a f d).tests.length s'.t.cap]] W fun e w' => e = .returned (.tuple #[.agg #[.int .i64 out.lo, .int .i64 out.hi], .int .i64 0]) ∧ Below W.heap.size W w') := Lib.hid fun W s' h => by rw [hout, ← hz]; exact lostR_any h
  have HT := Lib.hid hT
  obtain ⟨db, doff, hda, hdr⟩ := hT.days.row (by omega) (by omega)
  have hdc := hT.days.le
  have hdm := hT.days.max
  have HDR := Lib.hid hdr
  obtain ⟨sh, sw, ⟨sda, sdc⟩, st⟩ := s
  dsimp only at hda hdc hdm
  subst hda
  clear hT her he ho h0 hk hc ha hz hout hdr
  have ww : IntKind.i64.wrap (T.first + (T.days.length : Int)) = T.first + (T.days.length : Int) := IntWalk.i64_in _ (by omega)
  have ww2 : IntKind.i64.wrap (T.first + (T.days.length : Int) - 1) = T.first + (T.days.length : Int) - 1 := IntWalk.i64_in _ (by omega)
  go_enter Try.func46, Try.ntmps46
  go_wp2_with (fail)
  (with_reducible refine (HV.out _ ?_).mono ?_)
  · repeat' (first | exact Below.refl _ _ | assumption | refine below_drewN ?_ _ | refine Below.drew ?_ | refine Below.alloc ?_ (by first | assumption | omega | (simp <;> omega)) _ | refine Below.setCell ?_ (by first | assumption | omega | (simp <;> omega)) _ | refine Ext2.on (by assumption) ?_)
  rintro e w1 ⟨rfl, hb1⟩
  have hB1 : Below w.heap.size w w1 := Below.trans (by repeat' (first | exact Below.refl _ _ | assumption | refine below_drewN ?_ _ | refine Below.drew ?_ | refine Below.alloc ?_ (by first | assumption | omega | (simp <;> omega)) _ | refine Below.setCell ?_ (by first | assumption | omega | (simp <;> omega)) _ | refine Ext2.on (by assumption) ?_)) (hb1.mono (by simp; omega))
  have x2 : w1.heap[w.heap.size + 2]? = some (Obj.cells #[.int .i64 0, .int .i64 0] 28) := below_blk hb1 (by repeat' (first | (with_reducible assumption) | (with_reducible refine blk_set_ne ?_ ?_) | (with_reducible exact blk_new _ _) | (with_reducible refine blk_new' _ _ (by first | (with_reducible rfl) | (simp; done) | (simp <;> omega))) | (with_reducible refine blk_alloc ?_ _) | (with_reducible refine blk_drew ?_) | (with_reducible refine blk_drewN ?_ _) | (with_reducible refine Ext2.blk (by assumption) ?_) | omega | (simp <;> omega) | exact blk_set (by assumption) _ _)) (by simp)
  have x1 : w1.heap[w.heap.size + 1]? = some (Obj.cells #[.int .i64 d.tlo, .int .i64 d.thi, .int .i64 d.dlo, .int .i64 d.dhi] 48) := below_blk hb1 (by repeat' (first | (with_reducible assumption) | (with_reducible refine blk_set_ne ?_ ?_) | (with_reducible exact blk_new _ _) | (with_reducible refine blk_new' _ _ (by first | (with_reducible rfl) | (simp; done) | (simp <;> omega))) | (with_reducible refine blk_alloc ?_ _) | (with_reducible refine blk_drew ?_) | (with_reducible refine blk_drewN ?_ _) | (with_reducible refine Ext2.blk (by assumption) ?_) | omega | (simp <;> omega) | exact blk_set (by assumption) _ _)) (by simp)
  have x0 := below_blk hb1 (blk_alloc (blk_alloc (blk_new w (Obj.cells #[.slice (TSl.mk sh sw ⟨some ⟨db, doff, none⟩, sdc⟩ st).h.a T.rule.heat.length (TSl.mk sh sw ⟨some ⟨db, doff, none⟩, sdc⟩ st).h.cap, .slice (TSl.mk sh sw ⟨some ⟨db, doff, none⟩, sdc⟩ st).w.a T.rule.wet.length (TSl.mk sh sw ⟨some ⟨db, doff, none⟩, sdc⟩ st).w.cap, .int .i64 T.rule.own, .int .i64 T.rule.feed, .int .i64 T.rule.g0, .int .i64 T.rule.g1, .int .i64 T.rule.g2, .int .i64 T.rule.lost, .int .i64 T.first, .slice (TSl.mk sh sw ⟨some ⟨db, doff, none⟩, sdc⟩ st).d.a T.days.length (TSl.mk sh sw ⟨some ⟨db, doff, none⟩, sdc⟩ st).d.cap, .int .i64 T.start.lo, .int .i64 T.start.hi, .slice (TSl.mk sh sw ⟨some ⟨db, doff, none⟩, sdc⟩ st).t.a T.tests.length (TSl.mk sh sw ⟨some ⟨db, doff, none⟩, sdc⟩ st).t.cap] 31)) _) _) (by simp; omega)
  dsimp only at x0
  clear hb1
  have q0c := cell_blk x0
  have q0f := frz_blk x0
  go_wp2_with (fail)
  (with_reducible refine (HI.out _).mono ?_)
  rintro e w2 ⟨rfl, hb2⟩
  have hx2 : Ext2 w1 w2 := hb2
  have hB2 := hB1.trans (hb2.mono hB1.size)
  have x2 := Ext2.blk hx2 x2
  have x1 := Ext2.blk hx2 x1
  have x0 := Ext2.blk hx2 x0
  clear q0c q0f
  have q2c := cell_blk x2
  have q2f := frz_blk x2
  have q1c := cell_blk x1
  have q1f := frz_blk x1
  go_wp2_with (fail)
  (with_reducible refine (HC.out _).mono ?_)
  rintro e w3 ⟨rfl, hb3⟩
  have hx3 : Ext2 w2 w3 := hb3
  have hB3 := hB2.trans (hb3.mono hB2.size)
  have x2 := Ext2.blk hx3 x2
  have x1 := Ext2.blk hx3 x1
  have x0 := Ext2.blk hx3 x0
  have z3 := blk_lt x2
  clear q1c q1f q2c q2f
  have hmade : ∀ W : World, W.heap.size = w3.heap.size + 1 → (W.alloc (.cells #[] 48)).ownsRow (w3.heap.size + 1) 48 4 (.slice (some ⟨w3.heap.size + 1, 0, none⟩) 0 0) 0 [] := by
    intro W hW
    rw [← hW]
    exact World.ownsRow_made W #[] 0 (Nat.le_refl _) (Nat.zero_le _) (by simp)
  have HM := Lib.hid hmade
  have z3a : w.heap.size < w3.heap.size := by omega
  have z3b : w.heap.size < w3.heap.size + 1 := by omega
  have z3c : ¬ w.heap.size = w3.heap.size := by omega
  have z3d : ¬ w.heap.size = w3.heap.size + 1 := by omega
  have HD3 := Lib.hid (HDR.out.below hB3)
  clear hmade
  have q0c := cell_blk x0
  have q0f := frz_blk x0
  go_wp2_with (at_builtin; go_loud (refine app_row elDay rfl _ _ rfl (w3.heap.size + 1) rfl (HM.out _ (by simp)) db doff T.days.length sdc rfl (((HD3.out.below (below_alloc' _ _)).below (below_alloc' _ _))) (dayC_one _) (by omega) (by simp) ?_; intro v5 w5 hO5 hg5; obtain ⟨g5, cp5, rfl, hbg5, hcp5, hcp6⟩ := own_has hO5 (show 0 < T.days.length by omega); have y9 := (hg5.block w3.heap.size (by simp <;> omega) (fun h => by have h : some w3.heap.size = some (w3.heap.size + 1) := h; have := Option.some.inj h; omega)).trans (blk_alloc (blk_new w3 _) _); have hE5 : Ext2 w3 w5 := ((((Below.refl _ w3).alloc (Nat.le_refl _) _).alloc (by simp) _).grown hg5 (by simp <;> omega) (by intro k hk; have hk : some (w3.heap.size + 1) = some k := hk; have := Option.some.inj hk; omega)); have x0 := Ext2.blk hE5 x0; have x1 := Ext2.blk hE5 x1; have x2 := Ext2.blk hE5 x2; have q9c := cell_blk y9; have q9f := frz_blk y9; clear q0c q0f; have q0c := cell_blk x0; have q0f := frz_blk x0))
  have hB5 := hB3.trans (Below.mono hE5 hB3.size)
  refine wp_name ?_
  intro w6 h6
  have y6 : w6.heap[w3.heap.size]? = some (Obj.cells #[.slice sh.a T.rule.heat.length sh.cap, .slice sw.a T.rule.wet.length sw.cap, .int .i64 T.rule.own, .int .i64 T.rule.feed, .int .i64 T.rule.g0, .int .i64 T.rule.g1, .int .i64 T.rule.g2, .int .i64 T.rule.lost, .int .i64 T.first, (.slice (some ⟨g5, 0, none⟩) T.days.length cp5), .int .i64 T.start.lo, .int .i64 T.start.hi, (.slice st.a T.tests.length st.cap)] 31) := by rw [h6]; exact Eq.trans (blk_set y9 _ _) rfl
  have hE6 : Ext2 w3 w6 := by rw [h6]; exact below_set hE5 (Nat.le_refl _)
  have hO6 : OwnR w6 (w3.heap.size + 1) 48 4 (.slice (some ⟨g5, 0, none⟩) T.days.length cp5) T.days.length (movC T.days d a a) := by
    rw [h6]
    exact (hO5.above (Above.set (Above.refl _ _) (.inl (Nat.lt_succ_self _)))).congr fun i j _ _ => (movC_start T.days d a i j).symm
  clear h6 hO5 y9 q9c q9f q0c q0f x0 x1 x2 hg5 HM HV HI HC HD3
  have HX0 := Lib.hid x0; have HX1 := Lib.hid x1; have HX2 := Lib.hid x2
  clear x0 x1 x2 hE5 hB5 hb2 hb3 hx2 hx3
  go_loopw [10] (fun i wr => ∃ k : Nat, i = .int .i64 (k : Int) ∧ a ≤ k ∧ k ≤ T.days.length ∧ Below w3.heap.size w3 wr ∧ wr.heap[w3.heap.size]? = some (Obj.cells #[.slice sh.a T.rule.heat.length sh.cap, .slice sw.a T.rule.wet.length sw.cap, .int .i64 T.rule.own, .int .i64 T.rule.feed, .int .i64 T.rule.g0, .int .i64 T.rule.g1, .int .i64 T.rule.g2, .int .i64 T.rule.lost, .int .i64 T.first, (.slice (some ⟨g5, 0, none⟩) T.days.length cp5), .int .i64 T.start.lo, .int .i64 T.start.hi, (.slice st.a T.tests.length st.cap)] 31) ∧ OwnR wr (w3.heap.size + 1) 48 4 (.slice (some ⟨g5, 0, none⟩) T.days.length cp5) T.days.length (movC T.days d a k)) (fun i _ => T.days.length - (intOf i).toNat)
  case atStart => exact ⟨a, rfl, Nat.le_refl _, by omega, hE6, y6, hO6⟩
  case round =>
    obtain ⟨k, rfl, hak, hk, hE, y9, hO⟩ := hrel
    have hEr : Ext2 w3 wr := hE
    clear y6 hO6 hE6
    by_cases hlt : k < T.days.length
    · have x1 := Ext2.blk hEr HX1.out
      obtain ⟨-, hfro, -⟩ : RowC wr g5 0 4 T.days.length (movC T.days d a k) ∧ (∀ o, wr.frozen? ⟨g5, o, none⟩ = false) ∧ True := by
        rcases hO.forms with ⟨_, h⟩ | ⟨g, cap, he, -, -, -, hr, hf, -⟩
        · omega
        · obtain ⟨rfl, rfl⟩ : g5 = g ∧ cp5 = cap := by simpa using he
          exact ⟨hr, hf, trivial⟩
      have hr : RowC wr g5 0 4 T.days.length (movC T.days d a k) := by
        rcases hO.forms with ⟨_, h⟩ | ⟨g, cap, he, -, -, -, hr, hf, -⟩
        · omega
        · obtain ⟨rfl, rfl⟩ : g5 = g ∧ cp5 = cap := by simpa using he
          exact hr
      obtain ⟨c0, c1, c2, c3⟩ := hr.four (i := k) hlt
      simp only [Nat.zero_add] at c0 c1 c2 c3
      have hz9 := blk_lt y9
      have p0 : (0 : Int) ≤ (k : Int) := by omega
      have p1 : (k : Int) < (T.days.length : Int) := by omega
      have w2' : IntKind.i64.wrap ((k : Int) + 1) = (k : Int) + 1 := IntWalk.i64_in _ (by omega)
      have hg1 : ¬ g5 = w3.heap.size := by omega
      have hg2 : ¬ w3.heap.size = g5 := by omega
      have HO := Lib.hid hO; have HAK := Lib.hid hak
      clear hr hO hE hak
      have f0 := hfro (k * 4); have f1 := hfro (k * 4 + 1); have f2 := hfro (k * 4 + 2); have f3 := hfro (k * 4 + 3)
      clear hfro
      have q1c := cell_blk x1
      have q1f := frz_blk x1
      have q9c := cell_blk y9
      have q9f := frz_blk y9
      go_wp2_with (fail)
      go_roundw
      case rel =>
        refine ⟨k + 1, by go_num, by have := HAK.out; omega, by omega, below_set (below_set (below_set (below_set hEr (by omega)) (by omega)) (by omega)) (by omega), blk_set_ne (blk_set_ne (blk_set_ne (blk_set_ne y9 hg1) hg1) hg1) hg1, ?_⟩
        have h1 := HO.out.set hlt (j := 0) (by omega) (.int .i64 d.tlo)
        have h2 := h1.set hlt (j := 1) (by omega) (.int .i64 d.thi)
        have h3 := h2.set hlt (j := 2) (by omega) (.int .i64 d.dlo)
        have h4 := h3.set hlt (j := 3) (by omega) (.int .i64 d.dhi)
        rw [Nat.add_zero] at h4
        refine h4.congr fun i j hi hj => ?_
        have hak := HAK.out
        have hj4 : j < 4 := hj
        by_cases hik : i = k
        · subst hik
          rw [show movC T.days d a (i + 1) i j = dayC [d] 0 j from if_pos ⟨hak, by omega⟩]
          rcases (by omega : j = 0 ∨ j = 1 ∨ j = 2 ∨ j = 3) with rfl | rfl | rfl | rfl <;> simp [dayC, dayD]
        · rw [if_neg (fun h => hik h.1), if_neg (fun h => hik h.1), if_neg (fun h => hik h.1), if_neg (fun h => hik h.1), movC, movC]
          by_cases hc : a ≤ i ∧ i < k
          · rw [if_pos hc, if_pos ⟨hc.1, by omega⟩]
          · rw [if_neg hc, if_neg (by omega)]
      case measure => simp [intOf]; omega
    · have hkn : k = T.days.length := by omega
      have hO7 : OwnR wr (w3.heap.size + 1) 48 4 (.slice (some ⟨g5, 0, none⟩) T.days.length cp5) T.days.length (dayC (movDays T.days a d)) := hO.congr fun i j hi _ => by rw [hkn]; exact movC_end hi
      have p1 : ¬ (k : Int) < (T.days.length : Int) := by omega
      have x0 := Ext2.blk hEr HX0.out
      have x1 := Ext2.blk hEr HX1.out
      have hz9 := blk_lt y9
      clear hO hkn hlt hak hE
      have q9c := cell_blk y9
      have q9f := frz_blk y9
      go_wp2_with (fail)
      refine wp_name ?_
      intro w7 h7
      have y7 : w7.heap[w3.heap.size]? = some (Obj.cells #[.slice sh.a T.rule.heat.length sh.cap, .slice sw.a T.rule.wet.length sw.cap, .int .i64 T.rule.own, .int .i64 T.rule.feed, .int .i64 T.rule.g0, .int .i64 T.rule.g1, .int .i64 T.rule.g2, .int .i64 T.rule.lost, .int .i64 T.first, (.slice (some ⟨g5, 0, none⟩) T.days.length cp5), .int .i64 T.start.lo, .int .i64 T.start.hi, (.slice none 0 0)] 31) := by rw [h7]; exact Eq.trans (blk_set y9 _ _) rfl
      have hE7 : Ext2 w3 w7 := by rw [h7]; exact below_set hEr (Nat.le_refl _)
      have hO8 : OwnR w7 (w3.heap.size + 1) 48 4 (.slice (some ⟨g5, 0, none⟩) T.days.length cp5) T.days.length (dayC (movDays T.days a d)) := by
        rw [h7]; exact hO7.above (Above.set (Above.refl _ _) (.inl (Nat.lt_succ_self _)))
      clear h7 y9 q9c q9f hO7 hEr x0 x1
      go_loopw [11] (fun i wr => ∃ (k : Nat) (v : Value), i = .int .i64 (k : Int) ∧ k ≤ T.tests.length ∧ Below w3.heap.size w3 wr ∧ wr.heap[w3.heap.size]? = some (Obj.cells #[.slice sh.a T.rule.heat.length sh.cap, .slice sw.a T.rule.wet.length sw.cap, .int .i64 T.rule.own, .int .i64 T.rule.feed, .int .i64 T.rule.g0, .int .i64 T.rule.g1, .int .i64 T.rule.g2, .int .i64 T.rule.lost, .int .i64 T.first, (.slice (some ⟨g5, 0, none⟩) T.days.length cp5), .int .i64 T.start.lo, .int .i64 T.start.hi, (v)] 31) ∧ OwnR wr (w3.heap.size + 1) 51 3 v (movTests (T.tests.take k) f).length (testC (movTests (T.tests.take k) f)) ∧ OwnR wr (w3.heap.size + 1) 48 4 (.slice (some ⟨g5, 0, none⟩) T.days.length cp5) T.days.length (dayC (movDays T.days a d))) (fun i _ => T.tests.length - (intOf i).toNat)
      case atStart => exact ⟨0, _, rfl, by omega, hE7, y7, own_nil _ _ _ _ _, hO8⟩
      case round =>
        obtain ⟨k2, v, rfl, hk2, hE, y9, hO9, hO10⟩ := hrel
        have hE1 : Ext2 w3 wr := hE
        clear y7 hO8 hE7 p1 hk hz9
        obtain ⟨⟨va, vc⟩, rfl, -⟩ := hO9.sl
        dsimp only at hO9 y9
        have x0 := Ext2.blk hE1 HX0.out
        have hz9 := blk_lt y9
        have hBr := hB3.trans (Below.mono hE1 hB3.size)
        by_cases hlt : k2 < T.tests.length
        · obtain ⟨tb, toff, hta, htr⟩ := (HT.out.tests.below hBr).row (by omega) (by omega)
          dsimp only at hta
          rw [hta] at x0
          obtain ⟨t0, t1, t2⟩ := htr.three (i := k2) hlt
          simp only [testC] at t0 t1 t2
          obtain ⟨x, hx⟩ : ∃ x, x = testD T.tests k2 := ⟨_, rfl⟩
          have hst := movTests_take (f := f) hlt
          rw [← hx] at t0 t1 t2 hst
          have hml : (movTests (T.tests.take k2) f).length ≤ 20 := Nat.le_trans (List.length_filter_le _ _) (by rw [List.length_take]; omega)
          have p0 : (0 : Int) ≤ (k2 : Int) := by omega
          have p1 : (k2 : Int) < (T.tests.length : Int) := by omega
          have w2' : IntKind.i64.wrap ((k2 : Int) + 1) = (k2 : Int) + 1 := IntWalk.i64_in _ (by omega)
          have HST := Lib.hid hst; have HO9 := Lib.hid hO9; have HO10 := Lib.hid hO10; have HML := Lib.hid hml
          clear hx hst hO9 hO10 htr hta hE hml
          by_cases hd : x.day ≤ f
          · have q0c := cell_blk x0
            have q0f := frz_blk x0
            have q9c := cell_blk y9
            have q9f := frz_blk y9
            go_wp2_with (fail)
            refine region_ev [] [0, 1, 2, 3, 4, 5, 6] [(7, 83, none)] [8, 9, 10] (by kernel_rfl) (by kernel_rfl) (by intro c a d v w h; cases d <;> exact h) ?_
            simp only [picks, List.drop_succ_cons, List.drop_zero]
            repeat (refine wpQ0_step (fun K hK => ?_); go_simp; (refine hK _ ?_; clear hK K))
            refine wpQ0_nil ?_
            repeat ((with_reducible refine wpQ2_step (fun K hK => ?_)); go_simp; first | ((with_reducible refine hK _ ?_); clear hK K) | (apply Exists.intro; refine ⟨fun x => ?_, hK _ ?_⟩; (fail); clear hK K))
            refine wpQ2_nil ?_
            refine Events.lay1 (fun b => .slice (some ⟨b, 0, none⟩) 1 1) (.cells #[.int .i64 x.day, .int .i64 x.grade, .int .i64 x.err] 51 (0, 0)) ⟨_, rfl, rfl, rfl, fun W => by kernel_rfl⟩ fun bq wx hbq hgx nbq => ?_
            simp only [picks, List.drop_succ_cons, List.drop_zero]
            have hEx : Ext2 wr wx := hgx
            have hzx := hEx.size
            have hml := HML.out
            clear q0c q0f q9c q9f t0 t1 t2
            go_wp2_with (at_builtin; refine app_one [.int .i64 x.day, .int .i64 x.grade, .int .i64 x.err] elTest rfl _ _ rfl (w3.heap.size + 1) rfl (HO9.out.below hEx) bq 1 rfl nbq (by simp [Value.oneCell']) (by omega) (by omega) ?_; intro v' w8 hO11 hg8; obtain ⟨⟨a', cp'⟩, rfl, -⟩ := hO11.sl; dsimp only at hO11; have u9 := app_keeps (HO9.out.below hEx) hg8 (Ext2.blk hEx y9) (by omega); have u9c := cell_blk u9; have u9f := frz_blk u9)
            go_roundw
            case rel =>
              refine ⟨k2 + 1, .slice a' ((movTests (T.tests.take k2) f).length + 1) cp', by go_num, by omega, below_set (app_below (hE1.trans (Below.mono hEx hE1.size)) (HO9.out.below hEx) (by omega) (by omega) hg8) (Nat.le_refl _), Eq.trans (blk_set u9 _ _) rfl, ?_, (app_other (HO9.out.below hEx) (HO10.out.below hEx) (by decide) hg8).above (Above.set (Above.refl _ _) (.inl (Nat.lt_succ_self _)))⟩
              rw [HST.out, if_pos hd, List.length_append]
              exact (hO11.above (Above.set (Above.refl _ _) (.inl (Nat.lt_succ_self _)))).congr fun i q hi hq => testC_snoc hi hq
            case measure => simp [intOf]; omega
          · have q0c := cell_blk x0
            have q0f := frz_blk x0
            have q9c := cell_blk y9
            have q9f := frz_blk y9
            go_wp2_with (fail)
            go_roundw
            case rel =>
              refine ⟨k2 + 1, _, by go_num, by omega, hE1, y9, ?_, HO10.out⟩
              · rw [HST.out, if_neg hd]; exact HO9.out
            case measure => simp [intOf]; omega
        · obtain rfl : k2 = T.tests.length := by omega
          rw [List.take_length] at hO9 y9
          have x2 := Ext2.blk hE1 HX2.out
          have hTM : TaskAt wr (movT T a f d) ⟨sh, sw, ⟨some ⟨g5, 0, none⟩, cp5⟩, ⟨va, vc⟩⟩ := by
            refine ⟨HT.out.rule.below hBr, ?_, own_rowS hO9⟩
            show RowS wr _ 4 (movDays T.days a d).length (dayC (movDays T.days a d))
            rw [movDays_len (by omega)]; exact own_rowS hO10
          have hL := HLO.out wr _ hTM
          dsimp only [movT] at hL
          rw [movDays_len (by omega)] at hL
          have HL := Lib.hid hL
          have p1 : ¬ (T.tests.length : Int) < (T.tests.length : Int) := by omega
          clear hL hTM hO9 hO10 hE hlt hk2
          have q9c := cell_blk y9
          have q9f := frz_blk y9
          have q0c := cell_blk x0
          have q0f := frz_blk x0
          go_wp2_with (fail)
          (with_reducible refine (HL.out).mono ?_)
          rintro e w9 ⟨rfl, hb9⟩
          have hx9 : Ext2 wr w9 := hb9
          have hB9 := hBr.trans (Below.mono hb9 hBr.size)
          have x2 := Ext2.blk hx9 x2
          clear q9c q9f y9 q0c q0f x0
          have q2c := cell_blk x2
          have q2f := frz_blk x2
          go_wp2_with (fail)
          have r1 : ((w9.setCell ⟨w.heap.size + 2, 0, none⟩ (.int .i64 (out.lo))).setCell ⟨w.heap.size + 2, 1, none⟩ (.int .i64 (out.hi))).heap[w.heap.size + 2]? = some (Obj.cells #[.int .i64 (out.lo), .int .i64 (out.hi)] 28) := Eq.trans (blk_set (blk_set x2 _ _) _ _) rfl
          refine bodyPost_ret (v := .tuple #[.agg #[.int .i64 (Span.mk (out.lo) (out.hi)).lo, .int .i64 (Span.mk (out.lo) (out.hi)).hi], .int .i64 (0)]) ?_ rfl ⟨rfl, below_set (below_set hB9 (by omega)) (by omega)⟩
          have zc := cell_blk r1
          have zf := frz_blk r1
          simp [results, Try.results46, go_sem, zc]
set_option maxRecDepth 100000 in
set_option maxHeartbeats 2000000 in
theorem movedR_any {T : Task} {s : TSl} {f : Int} {d : Day} {w : World} (hT : TaskAt w T s) : Calls Try.prog 46 #[.agg #[.slice s.h.a T.rule.heat.length s.h.cap, .slice s.w.a T.rule.wet.length s.w.cap, .int .i64 T.rule.own, .int .i64 T.rule.feed, .int .i64 T.rule.g0, .int .i64 T.rule.g1, .int .i64 T.rule.g2, .int .i64 T.rule.lost, .int .i64 T.first, .slice s.d.a T.days.length s.d.cap, .int .i64 T.start.lo, .int .i64 T.start.hi, .slice s.t.a T.tests.length s.t.cap], .int .i64 f, .agg #[.int .i64 d.tlo, .int .i64 d.thi, .int .i64 d.dlo, .int .i64 d.dhi]] w fun e w' => e = .returned (.tuple #[.agg #[.int .i64 (movOut T f d).lo, .int .i64 (movOut T f d).hi], .int .i64 (movE T f d)]) ∧ Below w.heap.size w w' := by
  by_cases h1 : (D.checkTask T).2.2 = 0
  · by_cases h2 : T.first ≤ f ∧ f < T.first + T.days.length
    · by_cases h3 : climateE d = 0
      · exact movedR_yes hT h1 h2 h3
      · exact movedR_day hT h1 h2 rfl h3
    · exact movedR_far hT h1 h2
  · exact movedR_no hT rfl h1
end Go.Proofs.Ytfjbgcaogffiaaa
