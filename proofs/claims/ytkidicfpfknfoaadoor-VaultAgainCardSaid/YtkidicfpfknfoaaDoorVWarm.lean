/-
  warm.
-/
import Derived.Test.YtkidicfpfknfoaaDoorVWet
import Derived.Test.YtkidicfpfknfoaaDoorVWhere
namespace Go.Proofs.YtkidicfpfknfoaaDoor
open Go.RowKit D
set_option linter.unusedVariables false
set_option linter.unusedSimpArgs false
attribute [local go_sem high] run_minI run_maxI
attribute [local go_sem] upon2 cls_cell cls_frozen forall_const exists_eq_left'
attribute [local go_sem] FirstUpon
theorem ext_cell' {w W : World} (h : Below w.heap.size w W) {b o : Nat} {x : Value} (hc : w.cell? ⟨b, o, none⟩ = some x) : W.cell? ⟨b, o, none⟩ = some x := (Below.cell (p := ⟨b, o, none⟩) h (cell_lt hc)).trans hc
theorem share_b (n r : Int) (W : World) (h1 : -90000 ≤ n * r) (h2 : n * r ≤ 90000) : Calls Tryd.prog 86 #[.int .i64 n, .int .i64 r] W fun e w' => e = .returned (.int .i64 (n * r / 100)) ∧ Below W.heap.size W w' := (share_any n r W h1 h2).mono fun e w' ⟨he, hw⟩ => ⟨he, by rw [← hw]; exact Below.refl _ _⟩
theorem turn_two {b : Nat} {W : World} {x y : Value} {t : TypeId} (hb : W.heap[b]? = some (.cells #[x, y] t (0, 0))) (u v : Value) : Turn b (.cells #[u, v] t (0, 0)) W ((W.setCell ⟨b, 0, none⟩ u).setCell ⟨b, 1, none⟩ v) := by
  have h := (turn_set (o := 0) hb u).set (o := 1) v
  simpa using h
set_option maxRecDepth 100000 in
set_option maxHeartbeats 8000000 in
theorem warm_any {S : Site} {s : SSl} {b : Nat} {M : List Mv} {k : Sl} {t : Span} {r : Nat} {w : World} (hV : VltAt w S s b M k) (hr : r < S.rooms.length) (hR : RateIn S) (hI : RIn (rmD S.rooms r)) (ht : TIn t) :
    Calls Tryd.prog 74 #[.pointer (some ⟨b, 0, none⟩), .agg #[.int .i64 t.lo, .int .i64 t.hi], .int .i64 (r : Int)] w fun e w' => e = .returned (.agg #[.int .i64 (warmV S (rmD S.rooms r) t).lo, .int .i64 (warmV S (rmD S.rooms r) t).hi]) ∧ Below w.heap.size w w' := by
  have x0 := hV.blk
  have hrl := hV.site.rm.le; have hrm := hV.site.rm.max
  obtain ⟨rb, roff, hra, hc⟩ := rm_cells hV.site.rm hr
  have c1 := hc.c1; have c2 := hc.c2
  obtain ⟨⟨ra, rc⟩, cs, ps⟩ := s
  dsimp only at hra hrl hrm
  subst hra
  obtain ⟨lo, hlo⟩ : ∃ x, x = (rmD S.rooms r).tlo := ⟨_, rfl⟩
  obtain ⟨hi, hhi⟩ : ∃ x, x = (rmD S.rooms r).thi := ⟨_, rfl⟩
  obtain ⟨i1, i2, i3, i4, -, -, -, -⟩ := hI
  obtain ⟨t1, t2, t3, t4⟩ := ht
  obtain ⟨s1, s2, s3, s4⟩ := hR
  unfold warmV
  rw [← hlo] at c1 i1 i2 ⊢
  rw [← hhi] at c2 i3 i4 ⊢
  simp only
  have p0 : (0 : Int) ≤ (r : Int) := by omega
  have p1 : (r : Int) < (S.rooms.length : Int) := by omega
  clear hlo hhi hc hV
  have hlb := blk_lt x0
  have lrb := cell_lt c1
  dsimp only at lrb
  have key : ∀ (A B : Int), (A = S.rlo ∨ A = S.rhi) → (B = S.rlo ∨ B = S.rhi) → (A = if lo < t.lo then S.rhi else S.rlo) → (B = if t.hi < hi then S.rhi else S.rlo) → Calls Tryd.prog 74 #[.pointer (some ⟨b, 0, none⟩), .agg #[.int .i64 t.lo, .int .i64 t.hi], .int .i64 (r : Int)] w fun e w' => e = .returned (.agg #[.int .i64 (t.lo + (lo - t.lo) * A / 100), .int .i64 (t.hi - (t.hi - hi) * B / 100)]) ∧ Below w.heap.size w w' := by
    intro A B hA hB hA2 hB2
    have mA := mul_in (n := lo - t.lo) (r := A) (by omega) (by omega) (by omega)
    have mB := mul_in (n := t.hi - hi) (r := B) (by omega) (by omega) (by omega)
    have HA := Lib.hid fun W => share_b (lo - t.lo) A W mA.1 mA.2
    have HB := Lib.hid fun W => share_b (t.hi - hi) B W mB.1 mB.2
    obtain ⟨P, hP⟩ : ∃ P, P = (lo - t.lo) * A / 100 := ⟨_, rfl⟩
    obtain ⟨Q, hQ⟩ : ∃ Q, Q = (t.hi - hi) * B / 100 := ⟨_, rfl⟩
    have bP : -900 ≤ P ∧ P ≤ 900 := by omega
    have bQ : -900 ≤ Q ∧ Q ≤ 900 := by omega
    rw [← hP] at HA ⊢
    rw [← hQ] at HB ⊢
    have e1 : IntKind.i64.wrap (lo - t.lo) = lo - t.lo := IntWalk.i64_in _ (by omega)
    have e2 : IntKind.i64.wrap (t.hi - hi) = t.hi - hi := IntWalk.i64_in _ (by omega)
    have e3 : IntKind.i64.wrap (t.lo + P) = t.lo + P := IntWalk.i64_in _ (by omega)
    have e4 : IntKind.i64.wrap (t.hi - Q) = t.hi - Q := IntWalk.i64_in _ (by omega)
    have HA2 := Lib.hid hA2; have HB2 := Lib.hid hB2
    clear hP hQ mA mB hA hB hA2 hB2
    go_enter Tryd.func74, Tryd.ntmps74
    go_wp2_with (fail)
    refine wp_name ?_
    intro w1 h1
    obtain ⟨b4, hb4⟩ : ∃ b, b = w.heap.size := ⟨_, rfl⟩
    obtain ⟨b6, hb6⟩ : ∃ b, b = w.heap.size + 1 := ⟨_, rfl⟩
    have y4 : w1.heap[b4]? = some (Obj.cells #[.int .i64 t.lo, .int .i64 t.hi] 25) := by rw [h1, hb4]; exact blk_alloc (blk_new _ _) _
    have y6 : w1.heap[b6]? = some (Obj.cells #[.int .i64 0, .int .i64 0] 25) := by rw [h1, hb6]; exact blk_new' _ _ (by simp)
    have hB1 : Below w.heap.size w w1 := by rw [h1]; exact Below.alloc (below_alloc _ _) (by simp) _
    have hle6 : w.heap.size ≤ b6 := by omega
    have hb46 : b4 ≠ b6 := by omega
    have x1 := below_blk hB1 x0 hlb
    have d1 := ext_cell' hB1 c1; have d2 := ext_cell' hB1 c2
    rw [← hb6, ← hb4]
    have Y4 := Lib.hid y4; have Y6 := Lib.hid y6
    clear h1 hb4 hb6 x0 c1 c2 y4 y6
    have q0c := cell_blk x1
    have q0f := frz_blk x1
    refine region_ev [] [0, 1, 2, 3, 4, 5, 6, 7, 8, 9, 10, 11, 12, 13] [(14, 7, some 16), (15, 8, some 17)] [] (by kernel_rfl) (by kernel_rfl) (by intro c a d v w h; cases d <;> exact h) ?_
    simp only [picks, List.drop_succ_cons, List.drop_zero]
    repeat (refine wpQ0_step (fun K hK => ?_); go_simp; (refine hK _ ?_; clear hK K))
    refine wpQ0_nil ?_
    repeat ((with_reducible refine wpQ2_step (fun K hK => ?_)); go_simp; first | ((with_reducible refine hK _ ?_); clear hK K) | (apply Exists.intro; refine ⟨fun x => ?_, hK _ ?_⟩; (fail); clear hK K))
    refine wpQ2_nil ?_
    refine Events.fill2 (fun b => .pointer (some ⟨b, 0, none⟩)) (Obj.cells #[.int .i64 0, .int .i64 0] 25) (Obj.cells #[.int .i64 lo, .int .i64 hi] 25) (fun b => .pointer (some ⟨b, 0, none⟩)) (Obj.cells #[.int .i64 0, .int .i64 0] 25) (Obj.cells #[.int .i64 S.rlo, .int .i64 S.rhi] 25) ⟨_, rfl, rfl, rfl, fun W => by kernel_rfl⟩ ⟨_, rfl, rfl, rfl, fun b W hb => ?_⟩ ⟨_, rfl, rfl, rfl, fun W => by kernel_rfl⟩ ⟨_, rfl, rfl, rfl, fun b W hb => ?_⟩ (by omega) fun b7 b8 w2 hb7 hb8 hneb7 hg2 nb7 nb8 => ?_
    · have hbc := cell_blk hb; have hbf := frz_blk hb; go_simp; exact turn_two hb _ _
    · have hbc := cell_blk hb; have hbf := frz_blk hb; go_simp; exact turn_two hb _ _
    simp only [picks, List.drop_succ_cons, List.drop_zero]
    have hB2 := below_ext hB1 hg2
    have Y42 := Lib.hid (Ext2.blk hg2 Y4.out); have Y62 := Lib.hid (Ext2.blk hg2 Y6.out)
    have N7 := Lib.hid nb7; have N8 := Lib.hid nb8
    clear q0c q0f x1 d1 d2 hg2 Y4 Y6
    have q8c := cell_blk nb8
    have q8f := frz_blk nb8
    go_wp2_with (fail)
    refine region_ev [] [0, 1, 2, 3, 4, 5] [] [] (by kernel_rfl) (by kernel_rfl) (by intro c a d v w h; cases d <;> exact h) ?_
    simp only [picks, List.drop_succ_cons, List.drop_zero]
    repeat (refine wpQ0_step (fun K hK => ?_); go_simp; (refine hK _ ?_; clear hK K))
    refine wpQ0_nil ?_
    repeat ((with_reducible refine wpQ2_step (fun K hK => ?_)); go_simp; first | ((with_reducible refine hK _ ?_); clear hK K) | (apply Exists.intro; refine ⟨fun x => ?_, hK _ ?_⟩; (fail); clear hK K))
    refine wpQ2_nil ?_
    refine Events.none_ fun w3 hg3 => ?_
    simp only [picks, List.drop_succ_cons, List.drop_zero]
    have hB3 := below_ext hB2 hg3
    have z4 := Ext2.blk hg3 Y42.out; have z6 := Ext2.blk hg3 Y62.out; have z7 := Ext2.blk hg3 N7.out; have z8 := Ext2.blk hg3 N8.out
    have Z4 := Lib.hid z4; have Z6 := Lib.hid z6; have Z7 := Lib.hid z7
    clear q8c q8f nb7 nb8 Y42 Y62 N7 N8 hg3
    have q4c := cell_blk z4
    have q4f := frz_blk z4
    have q7c := cell_blk z7
    have q7f := frz_blk z7
    have q8c := cell_blk z8
    have q8f := frz_blk z8
    have hfin : ∀ w5 w6 : World, Ext2 w3 w5 → w6 = (w5.setCell ⟨b6, 0, none⟩ (.int .i64 (t.lo + P))).setCell ⟨b6, 1, none⟩ (.int .i64 (t.hi - Q)) → w6.heap[b6]? = some (Obj.cells #[.int .i64 (t.lo + P), .int .i64 (t.hi - Q)] 25) ∧ Below w.heap.size w w6 := fun w5 w6 h5 h6 => by
      rw [h6]
      exact ⟨Eq.trans (blk_set (blk_set (Ext2.blk h5 z6) _ _) _ _) rfl, below_set (below_set (below_ext hB3 h5) hle6) hle6⟩
    have HFIN := Lib.hid hfin
    clear hfin z4 z6 z7 z8
    by_cases hc1 : lo < t.lo <;> by_cases hc2 : t.hi < hi
    · obtain rfl : A = S.rhi := by rw [HA2.out, if_pos hc1]
      obtain rfl : B = S.rhi := by rw [HB2.out, if_pos hc2]
      clear HA2 HB2
      go_wp2_with (fail)
      refine region_ev [] [0, 1, 2, 3, 4, 5, 6, 7, 8, 9, 10, 11, 12, 13, 14, 15, 16, 17, 18, 19, 20] [] [21] (by kernel_rfl) (by kernel_rfl) (by intro c a d v w h; cases d <;> exact h) ?_
      simp only [picks, List.drop_succ_cons, List.drop_zero]
      repeat (refine wpQ0_step (fun K hK => ?_); go_simp; (refine hK _ ?_; clear hK K))
      refine wpQ0_nil ?_
      repeat ((with_reducible refine wpQ2_step (fun K hK => ?_)); go_simp; first | ((with_reducible refine hK _ ?_); clear hK K) | (apply Exists.intro; refine ⟨fun x => ?_, hK _ ?_⟩; (first | (with_reducible exact HA.out x.1) | (with_reducible exact HB.out x.1)); clear hK K))
      refine wpQ2_nil ?_
      refine Events.none_ fun w5 hg5 => ?_
      simp only [picks, List.drop_succ_cons, List.drop_zero]
      have z6 := Ext2.blk hg5 Z6.out
      clear q4c q4f q7c q7f q8c q8f
      have q6c := cell_blk z6
      have q6f := frz_blk z6
      go_wp2_with (fail)
      obtain ⟨y6, hB6⟩ := HFIN.out w5 _ hg5 rfl
      clear q6c q6f
      have q6c := cell_blk y6
      have q6f := frz_blk y6
      refine bodyPost_ret (v := .agg #[.int .i64 (t.lo + P), .int .i64 (t.hi - Q)]) ?_ rfl ⟨rfl, hB6⟩
      simp [results, Tryd.results74, go_sem, q6c]
    · obtain rfl : A = S.rhi := by rw [HA2.out, if_pos hc1]
      obtain rfl : B = S.rlo := by rw [HB2.out, if_neg hc2]
      clear HA2 HB2
      go_wp2_with (fail)
      refine region_ev [] [0, 1, 2, 3, 4, 5, 6, 7, 8, 9, 10, 11, 12, 13, 14, 15, 16, 17, 18, 19, 20] [] [21] (by kernel_rfl) (by kernel_rfl) (by intro c a d v w h; cases d <;> exact h) ?_
      simp only [picks, List.drop_succ_cons, List.drop_zero]
      repeat (refine wpQ0_step (fun K hK => ?_); go_simp; (refine hK _ ?_; clear hK K))
      refine wpQ0_nil ?_
      repeat ((with_reducible refine wpQ2_step (fun K hK => ?_)); go_simp; first | ((with_reducible refine hK _ ?_); clear hK K) | (apply Exists.intro; refine ⟨fun x => ?_, hK _ ?_⟩; (first | (with_reducible exact HA.out x.1) | (with_reducible exact HB.out x.1)); clear hK K))
      refine wpQ2_nil ?_
      refine Events.none_ fun w5 hg5 => ?_
      simp only [picks, List.drop_succ_cons, List.drop_zero]
      have z6 := Ext2.blk hg5 Z6.out
      clear q4c q4f q7c q7f q8c q8f
      have q6c := cell_blk z6
      have q6f := frz_blk z6
      go_wp2_with (fail)
      obtain ⟨y6, hB6⟩ := HFIN.out w5 _ hg5 rfl
      clear q6c q6f
      have q6c := cell_blk y6
      have q6f := frz_blk y6
      refine bodyPost_ret (v := .agg #[.int .i64 (t.lo + P), .int .i64 (t.hi - Q)]) ?_ rfl ⟨rfl, hB6⟩
      simp [results, Tryd.results74, go_sem, q6c]
    · obtain rfl : A = S.rlo := by rw [HA2.out, if_neg hc1]
      obtain rfl : B = S.rhi := by rw [HB2.out, if_pos hc2]
      clear HA2 HB2
      go_wp2_with (fail)
      refine region_ev [] [0, 1, 2, 3, 4, 5, 6, 7, 8, 9, 10, 11, 12, 13, 14, 15, 16, 17, 18, 19, 20] [] [21] (by kernel_rfl) (by kernel_rfl) (by intro c a d v w h; cases d <;> exact h) ?_
      simp only [picks, List.drop_succ_cons, List.drop_zero]
      repeat (refine wpQ0_step (fun K hK => ?_); go_simp; (refine hK _ ?_; clear hK K))
      refine wpQ0_nil ?_
      repeat ((with_reducible refine wpQ2_step (fun K hK => ?_)); go_simp; first | ((with_reducible refine hK _ ?_); clear hK K) | (apply Exists.intro; refine ⟨fun x => ?_, hK _ ?_⟩; (first | (with_reducible exact HA.out x.1) | (with_reducible exact HB.out x.1)); clear hK K))
      refine wpQ2_nil ?_
      refine Events.none_ fun w5 hg5 => ?_
      simp only [picks, List.drop_succ_cons, List.drop_zero]
      have z6 := Ext2.blk hg5 Z6.out
      clear q4c q4f q7c q7f q8c q8f
      have q6c := cell_blk z6
      have q6f := frz_blk z6
      go_wp2_with (fail)
      obtain ⟨y6, hB6⟩ := HFIN.out w5 _ hg5 rfl
      clear q6c q6f
      have q6c := cell_blk y6
      have q6f := frz_blk y6
      refine bodyPost_ret (v := .agg #[.int .i64 (t.lo + P), .int .i64 (t.hi - Q)]) ?_ rfl ⟨rfl, hB6⟩
      simp [results, Tryd.results74, go_sem, q6c]
    · obtain rfl : A = S.rlo := by rw [HA2.out, if_neg hc1]
      obtain rfl : B = S.rlo := by rw [HB2.out, if_neg hc2]
      clear HA2 HB2
      go_wp2_with (fail)
      refine region_ev [] [0, 1, 2, 3, 4, 5, 6, 7, 8, 9, 10, 11, 12, 13, 14, 15, 16, 17, 18, 19, 20] [] [21] (by kernel_rfl) (by kernel_rfl) (by intro c a d v w h; cases d <;> exact h) ?_
      simp only [picks, List.drop_succ_cons, List.drop_zero]
      repeat (refine wpQ0_step (fun K hK => ?_); go_simp; (refine hK _ ?_; clear hK K))
      refine wpQ0_nil ?_
      repeat ((with_reducible refine wpQ2_step (fun K hK => ?_)); go_simp; first | ((with_reducible refine hK _ ?_); clear hK K) | (apply Exists.intro; refine ⟨fun x => ?_, hK _ ?_⟩; (first | (with_reducible exact HA.out x.1) | (with_reducible exact HB.out x.1)); clear hK K))
      refine wpQ2_nil ?_
      refine Events.none_ fun w5 hg5 => ?_
      simp only [picks, List.drop_succ_cons, List.drop_zero]
      have z6 := Ext2.blk hg5 Z6.out
      clear q4c q4f q7c q7f q8c q8f
      have q6c := cell_blk z6
      have q6f := frz_blk z6
      go_wp2_with (fail)
      obtain ⟨y6, hB6⟩ := HFIN.out w5 _ hg5 rfl
      clear q6c q6f
      have q6c := cell_blk y6
      have q6f := frz_blk y6
      refine bodyPost_ret (v := .agg #[.int .i64 (t.lo + P), .int .i64 (t.hi - Q)]) ?_ rfl ⟨rfl, hB6⟩
      simp [results, Tryd.results74, go_sem, q6c]
  exact key _ _ (by split <;> simp) (by split <;> simp) rfl rfl
end Go.Proofs.YtkidicfpfknfoaaDoor
