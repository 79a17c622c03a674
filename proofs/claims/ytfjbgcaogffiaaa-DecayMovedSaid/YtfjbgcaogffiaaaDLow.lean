/-
  The law's lower: a climate that is colder and drier.
-/
import Derived.Test.YtfjbgcaogffiaaaDSlc
import Derived.Test.YtfjbgcaogffiaaaDPlwC
namespace Go.Proofs.Ytfjbgcaogffiaaa
open Go.RowKit D
set_option linter.unusedVariables false
set_option linter.unusedSimpArgs false
attribute [local go_sem high] run_minI run_maxI
attribute [local go_sem] upon2 cls_cell cls_frozen forall_const exists_eq_left'
attribute [local go_sem] FirstUpon
theorem bare_at {w : World} {T : Task} {s : TSl} (h : TaskAt w T s) : TaskAt w (bareT T) ⟨s.h, s.w, s.d, ⟨none, 0⟩⟩ := ⟨h.rule, h.days, ⟨Nat.le_refl _, by simp, fun i j hi _ => absurd hi (Nat.not_lt_zero i)⟩⟩
set_option maxRecDepth 100000 in
set_option maxHeartbeats 2000000 in
theorem lower_any {d : Day} {n : Nat → Int} {w : World} (hd : DayOk d) (hn : ∀ i, i < 2 → 0 ≤ n i ∧ n i ≤ 255) : Calls Try.prog 32 #[.agg #[.int .i64 d.tlo, .int .i64 d.thi, .int .i64 d.dlo, .int .i64 d.dhi], .agg #[.int .u8 (n 0), .int .u8 (n 1)]] w fun e w' => e = .returned (.agg #[.int .i64 (lowDay d (n 0) (n 1)).tlo, .int .i64 (lowDay d (n 0) (n 1)).thi, .int .i64 (lowDay d (n 0) (n 1)).dlo, .int .i64 (lowDay d (n 0) (n 1)).dhi]) ∧ Below w.heap.size w w' := by
  obtain ⟨a, ha⟩ : ∃ a, a = n 0 := ⟨_, rfl⟩
  obtain ⟨b, hb⟩ : ∃ b, b = n 1 := ⟨_, rfl⟩
  have h0 := hn 0 (by omega); have h1 := hn 1 (by omega)
  rw [← ha] at h0 ⊢
  rw [← hb] at h1 ⊢
  clear ha hb hn
  have d0 := hd.t0; have d1 := hd.t1; have d2 := hd.d0; have d3 := hd.d1
  have w0' : IntKind.i64.wrap (d.tlo - a) = d.tlo - a := IntWalk.i64_in _ (by omega)
  have w1' : IntKind.i64.wrap (d.thi - a) = d.thi - a := IntWalk.i64_in _ (by omega)
  have w2' : IntKind.i64.wrap (d.dlo - b) = d.dlo - b := IntWalk.i64_in _ (by omega)
  have w3' : IntKind.i64.wrap (d.dhi - b) = d.dhi - b := IntWalk.i64_in _ (by omega)
  have wa : IntKind.i64.wrap a = a := IntWalk.i64_in _ (by omega)
  have wb : IntKind.i64.wrap b = b := IntWalk.i64_in _ (by omega)
  obtain ⟨y, hx⟩ : ∃ x, x = lowDay d a b := ⟨_, rfl⟩
  have e0 : max (-300) (d.tlo - a) = y.tlo := by rw [hx]; rfl
  have e1 : max (-300) (d.thi - a) = y.thi := by rw [hx]; rfl
  have e2 : max 0 (d.dlo - b) = y.dlo := by rw [hx]; rfl
  have e3 : max 0 (d.dhi - b) = y.dhi := by rw [hx]; rfl
  have HSP : Hid (∀ (p q : Int) W, Calls Try.prog 25 #[.int .i64 p, .int .i64 q] W fun e w' => e = .returned (.agg #[.int .i64 p, .int .i64 q]) ∧ Below W.heap.size W w') := Lib.hid fun p q W => span_any p q W
  rw [← hx]
  clear hx hd
  go_enter Try.func32, Try.ntmps32
  go_wp2_with (fail)
  refine wp_name ?_
  intro w0 h0
  have x2 : w0.heap[w.heap.size]? = some (Obj.cells #[.int .i64 d.tlo, .int .i64 d.thi, .int .i64 d.dlo, .int .i64 d.dhi] 48) := by rw [h0]; repeat' (first | (with_reducible assumption) | (with_reducible refine blk_set_ne ?_ ?_) | (with_reducible exact blk_new _ _) | (with_reducible refine blk_new' _ _ (by first | (with_reducible rfl) | (simp; done) | (simp <;> omega))) | (with_reducible refine blk_alloc ?_ _) | (with_reducible refine blk_drew ?_) | (with_reducible refine blk_drewN ?_ _) | (with_reducible refine Ext2.blk (by assumption) ?_) | omega | (simp <;> omega) | exact blk_set (by assumption) _ _)
  have x3 : w0.heap[w.heap.size + 1]? = some (Obj.cells #[.int .u8 a, .int .u8 b] 66) := by rw [h0]; repeat' (first | (with_reducible assumption) | (with_reducible refine blk_set_ne ?_ ?_) | (with_reducible exact blk_new _ _) | (with_reducible refine blk_new' _ _ (by first | (with_reducible rfl) | (simp; done) | (simp <;> omega))) | (with_reducible refine blk_alloc ?_ _) | (with_reducible refine blk_drew ?_) | (with_reducible refine blk_drewN ?_ _) | (with_reducible refine Ext2.blk (by assumption) ?_) | omega | (simp <;> omega) | exact blk_set (by assumption) _ _)
  have x4 : w0.heap[w.heap.size + 2]? = some (Obj.cells #[.int .i64 0, .int .i64 0, .int .i64 0, .int .i64 0] 48) := by rw [h0]; repeat' (first | (with_reducible assumption) | (with_reducible refine blk_set_ne ?_ ?_) | (with_reducible exact blk_new _ _) | (with_reducible refine blk_new' _ _ (by first | (with_reducible rfl) | (simp; done) | (simp <;> omega))) | (with_reducible refine blk_alloc ?_ _) | (with_reducible refine blk_drew ?_) | (with_reducible refine blk_drewN ?_ _) | (with_reducible refine Ext2.blk (by assumption) ?_) | omega | (simp <;> omega) | exact blk_set (by assumption) _ _)
  have hB0 : Below w.heap.size w w0 := by rw [h0]; repeat' (first | exact Below.refl _ _ | assumption | refine below_drewN ?_ _ | refine Below.drew ?_ | refine Below.alloc ?_ (by first | assumption | omega | (simp <;> omega)) _ | refine Below.setCell ?_ (by first | assumption | omega | (simp <;> omega)) _ | refine Ext2.on (by assumption) ?_)
  clear h0
  have q3c := cell_blk x3
  have q3f := frz_blk x3
  refine region_ev [] [0, 1, 2, 3, 4, 5, 6, 7] [] [] (by kernel_rfl) (by kernel_rfl) (by intro c a d v w h; cases d <;> exact h) ?_
  simp only [picks, List.drop_succ_cons, List.drop_zero]
  repeat (refine wpQ0_step (fun K hK => ?_); go_simp; (refine hK _ ?_; clear hK K))
  refine wpQ0_nil ?_
  repeat ((with_reducible refine wpQ2_step (fun K hK => ?_)); go_simp; first | ((with_reducible refine hK _ ?_); clear hK K) | (apply Exists.intro; refine ⟨fun x => ?_, hK _ ?_⟩; (fail); clear hK K))
  refine wpQ2_nil ?_
  refine Events.none_ fun w1 hg1 => ?_
  simp only [picks, List.drop_succ_cons, List.drop_zero]
  have x2 := Ext2.blk hg1 x2
  have x4 := Ext2.blk hg1 x4
  have hB1 : Below w.heap.size w w1 := hB0.trans (Below.mono hg1 hB0.size)
  clear q3c q3f x3 hB0 hg1
  have q2c := cell_blk x2
  have q2f := frz_blk x2
  go_wp2_with (fail)
  refine region_ev [] [0, 1, 2, 3, 4, 5, 6, 7, 8, 9, 10, 11, 12, 13, 14, 15, 16, 17, 18, 19, 20, 21, 22, 23, 24, 25, 26] [] [27] (by kernel_rfl) (by kernel_rfl) (by intro c a d v w h; cases d <;> exact h) ?_
  simp only [picks, List.drop_succ_cons, List.drop_zero]
  repeat (refine wpQ0_step (fun K hK => ?_); go_simp; (refine hK _ ?_; clear hK K))
  refine wpQ0_nil ?_
  repeat ((with_reducible refine wpQ2_step (fun K hK => ?_)); go_simp; first | ((with_reducible refine hK _ ?_); clear hK K) | (apply Exists.intro; refine ⟨fun x => ?_, hK _ ?_⟩; ((with_reducible exact HSP.out _ _ x.1)); clear hK K))
  refine wpQ2_nil ?_
  refine Events.none_ fun w2 hg2 => ?_
  simp only [picks, List.drop_succ_cons, List.drop_zero]
  have x4 := Ext2.blk hg2 x4
  have hB2 : Below w.heap.size w w2 := hB1.trans (Below.mono hg2 hB1.size)
  clear q2c q2f x2 hB1 hg2
  have q4c := cell_blk x4
  have q4f := frz_blk x4
  go_wp2_with (fail)
  refine bp_name ?_
  intro w3 h3
  have r1 : w3.heap[w.heap.size + 2]? = some (Obj.cells #[.int .i64 y.tlo, .int .i64 y.thi, .int .i64 y.dlo, .int .i64 y.dhi] 48) := by rw [h3]; exact Eq.trans (blk_set (blk_set (blk_set (blk_set x4 _ _) _ _) _ _) _ _) rfl
  have hB3 : Below w.heap.size w w3 := by rw [h3]; exact below_set (below_set (below_set (below_set hB2 (by omega)) (by omega)) (by omega)) (by omega)
  refine bodyPost_ret (v := .agg #[.int .i64 y.tlo, .int .i64 y.thi, .int .i64 y.dlo, .int .i64 y.dhi]) ?_ rfl ⟨rfl, hB3⟩
  have zc := cell_blk r1
  have zf := frz_blk r1
  simp [results, Try.results32, go_sem, zc]
end Go.Proofs.Ytfjbgcaogffiaaa
