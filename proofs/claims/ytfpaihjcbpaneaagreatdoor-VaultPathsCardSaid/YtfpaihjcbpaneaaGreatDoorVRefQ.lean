/-
  ref.hour, Warm, wait, Wait.
-/
import Derived.Test.YtfpaihjcbpaneaaGreatDoorVRefP
namespace Go.Proofs.YtfpaihjcbpaneaaGreatDoor
open Go.RowKit D
set_option linter.unusedVariables false
set_option linter.unusedSimpArgs false
attribute [local go_sem high] run_minI run_maxI
attribute [local go_sem] upon2 cls_cell cls_frozen forall_const exists_eq_left'
attribute [local go_sem] FirstUpon
set_option maxRecDepth 100000 in
set_option maxHeartbeats 8000000 in
theorem hourR_any {S : Site} {s : SSl} {t : Span} {r : Nat} {w : World} (hS : SiteAt w S s) (hr : r < S.rooms.length) (hR : RateIn S) (hI : RIn (rmD S.rooms r)) (ht : TIn t) :
    Calls Tryz.prog 41 #[.agg #[.slice s.r.a S.rooms.length s.r.cap, .slice s.c.a S.cans.length s.c.cap, .int .i64 S.rlo, .int .i64 S.rhi, .slice s.p.a S.steps.length s.p.cap], .agg #[.int .i64 t.lo, .int .i64 t.hi], .int .i64 (r : Int)] w fun e w' => e = .returned (.agg #[.int .i64 (warmV S (rmD S.rooms r) t).lo, .int .i64 (warmV S (rmD S.rooms r) t).hi]) ∧ Below w.heap.size w w' := by
  have hrl := hS.rm.le; have hrm := hS.rm.max
  have HS := Lib.hid hS
  obtain ⟨⟨ra, rc⟩, cs, ps⟩ := s
  dsimp only at hrl hrm
  obtain ⟨lo, hlo⟩ : ∃ x, x = (rmD S.rooms r).tlo := ⟨_, rfl⟩
  obtain ⟨hi, hhi⟩ : ∃ x, x = (rmD S.rooms r).thi := ⟨_, rfl⟩
  have HLO := Lib.hid hlo; have HHI := Lib.hid hhi
  obtain ⟨i1, i2, i3, i4, -, -, -, -⟩ := hI
  obtain ⟨t1, t2, t3, t4⟩ := ht
  obtain ⟨s1, s2, s3, s4⟩ := hR
  unfold warmV
  rw [← hlo] at i1 i2 ⊢
  rw [← hhi] at i3 i4 ⊢
  simp only
  have p0 : (0 : Int) ≤ (r : Int) := by omega
  have p1 : (r : Int) < (S.rooms.length : Int) := by omega
  clear hlo hhi hS
  have key : ∀ (A B : Int), (A = S.rlo ∨ A = S.rhi) → (B = S.rlo ∨ B = S.rhi) → (A = if lo < t.lo then S.rhi else S.rlo) → (B = if t.hi < hi then S.rhi else S.rlo) → Calls Tryz.prog 41 #[.agg #[.slice (SSl.mk ⟨ra, rc⟩ cs ps).r.a S.rooms.length (SSl.mk ⟨ra, rc⟩ cs ps).r.cap, .slice (SSl.mk ⟨ra, rc⟩ cs ps).c.a S.cans.length (SSl.mk ⟨ra, rc⟩ cs ps).c.cap, .int .i64 S.rlo, .int .i64 S.rhi, .slice (SSl.mk ⟨ra, rc⟩ cs ps).p.a S.steps.length (SSl.mk ⟨ra, rc⟩ cs ps).p.cap], .agg #[.int .i64 t.lo, .int .i64 t.hi], .int .i64 (r : Int)] w fun e w' => e = .returned (.agg #[.int .i64 (t.lo + (lo - t.lo) * A / 100), .int .i64 (t.hi - (t.hi - hi) * B / 100)]) ∧ Below w.heap.size w w' := by
    intro A B hA hB hA2 hB2
    have mA := mul_in (n := lo - t.lo) (r := A) (by omega) (by omega) (by omega)
    have mB := mul_in (n := t.hi - hi) (r := B) (by omega) (by omega) (by omega)
    obtain ⟨a1, ha1⟩ : ∃ x, x = (lo - t.lo) * A := ⟨_, rfl⟩
    obtain ⟨a2, ha2⟩ : ∃ x, x = (t.hi - hi) * B := ⟨_, rfl⟩
    rw [← ha1] at mA ⊢
    rw [← ha2] at mB ⊢
    have HA := Lib.hid fun W => floorR_b a1 W mA.1 mA.2
    have HB := Lib.hid fun W => floorR_b a2 W mB.1 mB.2
    obtain ⟨P, hP⟩ : ∃ P, P = a1 / 100 := ⟨_, rfl⟩
    obtain ⟨Q, hQ⟩ : ∃ Q, Q = a2 / 100 := ⟨_, rfl⟩
    have bP : -900 ≤ P ∧ P ≤ 900 := by omega
    have bQ : -900 ≤ Q ∧ Q ≤ 900 := by omega
    rw [← hP] at HA ⊢
    rw [← hQ] at HB ⊢
    have e1 : IntKind.i64.wrap (lo - t.lo) = lo - t.lo := IntWalk.i64_in _ (by omega)
    have e2 : IntKind.i64.wrap (hi - t.hi) = hi - t.hi := IntWalk.i64_in _ (by omega)
    have e2b : IntKind.i64.wrap (-(hi - t.hi)) = t.hi - hi := by rw [show -(hi - t.hi) = t.hi - hi by omega]; exact IntWalk.i64_in _ (by omega)
    have e2c : IntKind.i64.wrap (t.hi - hi) = t.hi - hi := IntWalk.i64_in _ (by omega)
    have e3 : IntKind.i64.wrap (t.lo + P) = t.lo + P := IntWalk.i64_in _ (by omega)
    have e4 : IntKind.i64.wrap (t.hi - Q) = t.hi - Q := IntWalk.i64_in _ (by omega)
    have e5 : IntKind.i64.wrap ((lo - t.lo) * A) = a1 := by rw [← ha1]; exact IntWalk.i64_in _ (by omega)
    have e6 : IntKind.i64.wrap ((t.hi - hi) * B) = a2 := by rw [← ha2]; exact IntWalk.i64_in _ (by omega)
    have HA2 := Lib.hid hA2; have HB2 := Lib.hid hB2
    clear hP hQ mA mB hA hB hA2 hB2 ha1 ha2 s1 s2 s3 s4
    go_enter Tryz.func41, Tryz.ntmps41
    go_upto_region 1 with (fail)
    refine wp_name ?_
    intro w1 h1
    obtain ⟨n3, hn3⟩ : ∃ n, n = w.heap.size := ⟨_, rfl⟩
    obtain ⟨n4, hn4⟩ : ∃ n, n = n3 + 1 := ⟨_, rfl⟩
    obtain ⟨n6, hn6⟩ : ∃ n, n = n4 + 1 := ⟨_, rfl⟩
    have hE1 : Ext2 w w1 := by rw [h1]; exact ext_trans (ext_trans (below_alloc' _ _) (below_alloc' _ _)) (below_alloc' _ _)
    have x3 : w1.heap[n3]? = some (Obj.cells #[.slice (SSl.mk ⟨ra, rc⟩ cs ps).r.a S.rooms.length (SSl.mk ⟨ra, rc⟩ cs ps).r.cap, .slice (SSl.mk ⟨ra, rc⟩ cs ps).c.a S.cans.length (SSl.mk ⟨ra, rc⟩ cs ps).c.cap, .int .i64 S.rlo, .int .i64 S.rhi, .slice (SSl.mk ⟨ra, rc⟩ cs ps).p.a S.steps.length (SSl.mk ⟨ra, rc⟩ cs ps).p.cap] 28) := by rw [h1, hn3]; exact blk_alloc (blk_alloc (blk_new _ _) _) _
    have x4 : w1.heap[n4]? = some (Obj.cells #[.int .i64 t.lo, .int .i64 t.hi] 25) := by rw [h1, hn4, hn3]; exact blk_alloc (blk_new' _ _ (by simp)) _
    have x6 : w1.heap[n6]? = some (Obj.cells #[.int .i64 0, .int .i64 0] 25) := by rw [h1, hn6, hn4, hn3]; exact blk_new' _ _ (by simp)
    rw [← hn3, ← hn4, ← hn6]
    have l6 : w.heap.size ≤ n6 := by omega
    obtain ⟨bR, oR, haR, c0, c1, c2, -, -, -, -, -, -, -⟩ := rm_cells (HS.out.below hE1).rm hr
    dsimp only at haR
    subst haR
    rw [← HLO.out] at c1; rw [← HHI.out] at c2
    have HE1 := Lib.hid hE1; have X3 := Lib.hid x3; have X4 := Lib.hid x4; have X6 := Lib.hid x6
    have k1 := cell_lt c1
    dsimp only at k1
    have q3c := cell_blk x3
    have q3f := frz_blk x3
    clear h1 hn3 hn4 hn6 hE1 x3 x4 x6 c0
    go_wp2_with (fail)
    refine wp_name ?_
    intro w2 h2
    obtain ⟨n7, hn7⟩ : ∃ n, n = w1.heap.size := ⟨_, rfl⟩
    have hE2 : Ext2 w1 w2 := by rw [h2]; exact below_alloc' _ _
    have x7 : w2.heap[n7]? = some (Obj.cells #[.int .i64 lo, .int .i64 hi] 25) := by rw [h2, hn7]; exact blk_new _ _
    have x3 := Ext2.blk hE2 X3.out; have x4 := Ext2.blk hE2 X4.out
    rw [← hn7]
    have HE2 := Lib.hid (ext_trans HE1.out hE2); have X62 := Lib.hid (Ext2.blk hE2 X6.out)
    clear q3c q3f h2 hn7 hE2 c1 c2 k1
    have X32 := Lib.hid x3; have X42 := Lib.hid x4; have X72 := Lib.hid x7
    have q3c := cell_blk x3
    have q3f := frz_blk x3
    have q4c := cell_blk x4
    have q4f := frz_blk x4
    have q7c := cell_blk x7
    have q7f := frz_blk x7
    clear x3 x4 x7
    refine region_ev [] [0, 1, 2, 3, 4, 5, 6, 7] [] [] (by kernel_rfl) (by kernel_rfl) (by intro c a d v w h; cases d <;> exact h) ?_
    simp only [picks, List.drop_succ_cons, List.drop_zero]
    repeat (refine wpQ0_step (fun K hK => ?_); go_simp; (refine hK _ ?_; clear hK K))
    refine wpQ0_nil ?_
    repeat ((with_reducible refine wpQ2_step (fun K hK => ?_)); go_simp; first | ((with_reducible refine hK _ ?_); clear hK K) | (apply Exists.intro; refine ⟨fun x => ?_, hK _ ?_⟩; (fail); clear hK K))
    refine wpQ2_nil ?_
    refine Events.none_ fun w3 hg3 => ?_
    simp only [picks, List.drop_succ_cons, List.drop_zero]
    have HE3 := Lib.hid (ext_trans HE2.out hg3)
    have x3 := Ext2.blk hg3 X32.out; have x4 := Ext2.blk hg3 X42.out; have x7 := Ext2.blk hg3 X72.out; have X63 := Lib.hid (Ext2.blk hg3 X62.out)
    clear q3c q3f q4c q4f q7c q7f hg3
    have q3c := cell_blk x3
    have q3f := frz_blk x3
    have q4c := cell_blk x4
    have q4f := frz_blk x4
    have q7c := cell_blk x7
    have q7f := frz_blk x7
    clear x3 x4 x7
    have hfin : ∀ w5 w6 : World, Ext2 w3 w5 → w6 = (w5.setCell ⟨n6, 0, none⟩ (.int .i64 (t.lo + P))).setCell ⟨n6, 1, none⟩ (.int .i64 (t.hi - Q)) → w6.heap[n6]? = some (Obj.cells #[.int .i64 (t.lo + P), .int .i64 (t.hi - Q)] 25) ∧ Below w.heap.size w w6 := fun w5 w6 h5 h6 => by
      rw [h6]
      exact ⟨Eq.trans (blk_set (blk_set (Ext2.blk h5 X63.out) _ _) _ _) rfl, below_set (below_set (below_ext HE3.out h5) l6) l6⟩
    have HFIN := Lib.hid hfin
    clear hfin
    by_cases hc1 : lo < t.lo <;> by_cases hc2 : t.hi < hi
    · obtain rfl : A = S.rhi := by rw [HA2.out, if_pos hc1]
      obtain rfl : B = S.rhi := by rw [HB2.out, if_pos hc2]
      clear HA2 HB2
      go_wp2_with (fail)
      refine region_ev [] [0, 1, 2, 3, 4, 5, 6, 7, 8, 9, 10, 11, 12, 13, 14, 15, 16, 17, 18, 19, 20, 21, 22, 23] [] [24] (by kernel_rfl) (by kernel_rfl) (by intro c a d v w h; cases d <;> exact h) ?_
      simp only [picks, List.drop_succ_cons, List.drop_zero]
      repeat (refine wpQ0_step (fun K hK => ?_); go_simp; (refine hK _ ?_; clear hK K))
      refine wpQ0_nil ?_
      repeat ((with_reducible refine wpQ2_step (fun K hK => ?_)); go_simp; first | ((with_reducible refine hK _ ?_); clear hK K) | (apply Exists.intro; refine ⟨fun x => ?_, hK _ ?_⟩; (first | (with_reducible exact HA.out x.1) | (with_reducible exact HB.out x.1)); clear hK K))
      refine wpQ2_nil ?_
      refine Events.none_ fun w5 hg5 => ?_
      simp only [picks, List.drop_succ_cons, List.drop_zero]
      have z6 := Ext2.blk hg5 X63.out
      clear q4c q4f q7c q7f q3c q3f
      have q6c := cell_blk z6
      have q6f := frz_blk z6
      go_wp2_with (fail)
      obtain ⟨y6, hB6⟩ := HFIN.out w5 _ hg5 rfl
      clear q6c q6f
      have q6c := cell_blk y6
      have q6f := frz_blk y6
      refine bodyPost_ret (v := .agg #[.int .i64 (t.lo + P), .int .i64 (t.hi - Q)]) ?_ rfl ⟨rfl, hB6⟩
      simp [results, Tryz.results41, go_sem, q6c]
    · obtain rfl : A = S.rhi := by rw [HA2.out, if_pos hc1]
      obtain rfl : B = S.rlo := by rw [HB2.out, if_neg hc2]
      clear HA2 HB2
      go_wp2_with (fail)
      refine region_ev [] [0, 1, 2, 3, 4, 5, 6, 7, 8, 9, 10, 11, 12, 13, 14, 15, 16, 17, 18, 19, 20, 21, 22, 23] [] [24] (by kernel_rfl) (by kernel_rfl) (by intro c a d v w h; cases d <;> exact h) ?_
      simp only [picks, List.drop_succ_cons, List.drop_zero]
      repeat (refine wpQ0_step (fun K hK => ?_); go_simp; (refine hK _ ?_; clear hK K))
      refine wpQ0_nil ?_
      repeat ((with_reducible refine wpQ2_step (fun K hK => ?_)); go_simp; first | ((with_reducible refine hK _ ?_); clear hK K) | (apply Exists.intro; refine ⟨fun x => ?_, hK _ ?_⟩; (first | (with_reducible exact HA.out x.1) | (with_reducible exact HB.out x.1)); clear hK K))
      refine wpQ2_nil ?_
      refine Events.none_ fun w5 hg5 => ?_
      simp only [picks, List.drop_succ_cons, List.drop_zero]
      have z6 := Ext2.blk hg5 X63.out
      clear q4c q4f q7c q7f q3c q3f
      have q6c := cell_blk z6
      have q6f := frz_blk z6
      go_wp2_with (fail)
      obtain ⟨y6, hB6⟩ := HFIN.out w5 _ hg5 rfl
      clear q6c q6f
      have q6c := cell_blk y6
      have q6f := frz_blk y6
      refine bodyPost_ret (v := .agg #[.int .i64 (t.lo + P), .int .i64 (t.hi - Q)]) ?_ rfl ⟨rfl, hB6⟩
      simp [results, Tryz.results41, go_sem, q6c]
    · obtain rfl : A = S.rlo := by rw [HA2.out, if_neg hc1]
      obtain rfl : B = S.rhi := by rw [HB2.out, if_pos hc2]
      clear HA2 HB2
      go_wp2_with (fail)
      refine region_ev [] [0, 1, 2, 3, 4, 5, 6, 7, 8, 9, 10, 11, 12, 13, 14, 15, 16, 17, 18, 19, 20, 21, 22, 23] [] [24] (by kernel_rfl) (by kernel_rfl) (by intro c a d v w h; cases d <;> exact h) ?_
      simp only [picks, List.drop_succ_cons, List.drop_zero]
      repeat (refine wpQ0_step (fun K hK => ?_); go_simp; (refine hK _ ?_; clear hK K))
      refine wpQ0_nil ?_
      repeat ((with_reducible refine wpQ2_step (fun K hK => ?_)); go_simp; first | ((with_reducible refine hK _ ?_); clear hK K) | (apply Exists.intro; refine ⟨fun x => ?_, hK _ ?_⟩; (first | (with_reducible exact HA.out x.1) | (with_reducible exact HB.out x.1)); clear hK K))
      refine wpQ2_nil ?_
      refine Events.none_ fun w5 hg5 => ?_
      simp only [picks, List.drop_succ_cons, List.drop_zero]
      have z6 := Ext2.blk hg5 X63.out
      clear q4c q4f q7c q7f q3c q3f
      have q6c := cell_blk z6
      have q6f := frz_blk z6
      go_wp2_with (fail)
      obtain ⟨y6, hB6⟩ := HFIN.out w5 _ hg5 rfl
      clear q6c q6f
      have q6c := cell_blk y6
      have q6f := frz_blk y6
      refine bodyPost_ret (v := .agg #[.int .i64 (t.lo + P), .int .i64 (t.hi - Q)]) ?_ rfl ⟨rfl, hB6⟩
      simp [results, Tryz.results41, go_sem, q6c]
    · obtain rfl : A = S.rlo := by rw [HA2.out, if_neg hc1]
      obtain rfl : B = S.rlo := by rw [HB2.out, if_neg hc2]
      clear HA2 HB2
      go_wp2_with (fail)
      refine region_ev [] [0, 1, 2, 3, 4, 5, 6, 7, 8, 9, 10, 11, 12, 13, 14, 15, 16, 17, 18, 19, 20, 21, 22, 23] [] [24] (by kernel_rfl) (by kernel_rfl) (by intro c a d v w h; cases d <;> exact h) ?_
      simp only [picks, List.drop_succ_cons, List.drop_zero]
      repeat (refine wpQ0_step (fun K hK => ?_); go_simp; (refine hK _ ?_; clear hK K))
      refine wpQ0_nil ?_
      repeat ((with_reducible refine wpQ2_step (fun K hK => ?_)); go_simp; first | ((with_reducible refine hK _ ?_); clear hK K) | (apply Exists.intro; refine ⟨fun x => ?_, hK _ ?_⟩; (first | (with_reducible exact HA.out x.1) | (with_reducible exact HB.out x.1)); clear hK K))
      refine wpQ2_nil ?_
      refine Events.none_ fun w5 hg5 => ?_
      simp only [picks, List.drop_succ_cons, List.drop_zero]
      have z6 := Ext2.blk hg5 X63.out
      clear q4c q4f q7c q7f q3c q3f
      have q6c := cell_blk z6
      have q6f := frz_blk z6
      go_wp2_with (fail)
      obtain ⟨y6, hB6⟩ := HFIN.out w5 _ hg5 rfl
      clear q6c q6f
      have q6c := cell_blk y6
      have q6f := frz_blk y6
      refine bodyPost_ret (v := .agg #[.int .i64 (t.lo + P), .int .i64 (t.hi - Q)]) ?_ rfl ⟨rfl, hB6⟩
      simp [results, Tryz.results41, go_sem, q6c]
  exact key _ _ (by split <;> simp) (by split <;> simp) rfl rfl
theorem warmREnd {w W : World} {S : Site} {t : Span} {r h : Int} {n8 : Nat} {T : Array Value} {u : Span} {e : Int} (ho : warmO S t r h = (u, e)) (hB : Below w.heap.size w W) (l8 : w.heap.size ≤ n8) (x8 : ∃ a b, W.heap[n8]? = some (.cells #[a, b] 25 (0, 0))) (t8 : T.getD 8 undef = .pointer (some ⟨n8, 0, none⟩)) (t9 : T.getD 9 undef = .int .i64 e) :
    bodyPost Tryz.prog Tryz.f29 (fun e' w' => e' = .returned (.tuple #[.agg #[.int .i64 (warmO S t r h).1.lo, .int .i64 (warmO S t r h).1.hi], .int .i64 (warmO S t r h).2]) ∧ Below w.heap.size w w') .ret { tmps := T, defers := [] } ((W.setCell ⟨n8, 0, none⟩ (.int .i64 u.lo)).setCell ⟨n8, 1, none⟩ (.int .i64 u.hi)) := by
  obtain ⟨a, b, x8⟩ := x8
  have c8 := cell_blk (Eq.trans (blk_set (blk_set x8 0 (.int .i64 u.lo)) 1 (.int .i64 u.hi)) rfl)
  have u8 : T[8]?.getD undef = .pointer (some ⟨n8, 0, none⟩) := by rw [← t8, Array.getD_eq_getD_getElem?]
  have u9 : T[9]?.getD undef = .int .i64 e := by rw [← t9, Array.getD_eq_getD_getElem?]
  refine bodyPost_ret (v := .tuple #[.agg #[.int .i64 u.lo, .int .i64 u.hi], .int .i64 e]) ?_ rfl ⟨by rw [ho], below_set (below_set hB l8) l8⟩
  simp [results, Tryz.results29, go_sem, c8, t8, t9, u8, u9]
set_option maxRecDepth 100000 in
set_option maxHeartbeats 8000000 in
theorem warmR_any {S : Site} {s : SSl} {t : Span} {r h : Int} {w : World} (hS : SiteAt w S s) :
    Calls Tryz.prog 29 #[.agg #[.slice s.r.a S.rooms.length s.r.cap, .slice s.c.a S.cans.length s.c.cap, .int .i64 S.rlo, .int .i64 S.rhi, .slice s.p.a S.steps.length s.p.cap], .agg #[.int .i64 t.lo, .int .i64 t.hi], .int .i64 r, .int .i64 h] w fun e' w' => e' = .returned (.tuple #[.agg #[.int .i64 (warmO S t r h).1.lo, .int .i64 (warmO S t r h).1.hi], .int .i64 (warmO S t r h).2]) ∧ Below w.heap.size w w' := by
  have HS := Lib.hid hS
  clear hS
  go_enter Tryz.func29, Tryz.ntmps29
  go_wp2_with (fail)
  refine calls_name ?_
  intro w1 hw1
  obtain ⟨n4, hn4⟩ : ∃ n, n = w.heap.size := ⟨_, rfl⟩
  obtain ⟨n5, hn5⟩ : ∃ n, n = n4 + 1 := ⟨_, rfl⟩
  obtain ⟨n8, hn8⟩ : ∃ n, n = n5 + 1 := ⟨_, rfl⟩
  have hE1 : Ext2 w w1 := by rw [hw1]; exact ext_trans (ext_trans (below_alloc' _ _) (below_alloc' _ _)) (below_alloc' _ _)
  have X4 : Hid (w1.heap[n4]? = some (Obj.cells #[.slice s.r.a S.rooms.length s.r.cap, .slice s.c.a S.cans.length s.c.cap, .int .i64 S.rlo, .int .i64 S.rhi, .slice s.p.a S.steps.length s.p.cap] 28)) := Lib.hid (by rw [hw1, hn4]; exact blk_alloc (blk_alloc (blk_new _ _) _) _)
  have X5 : Hid (w1.heap[n5]? = some (Obj.cells #[.int .i64 t.lo, .int .i64 t.hi] 25)) := Lib.hid (by rw [hw1, hn5, hn4]; exact blk_alloc (blk_new' _ _ (by simp)) _)
  have X8 : Hid (w1.heap[n8]? = some (Obj.cells #[.int .i64 0, .int .i64 0] 25)) := Lib.hid (by rw [hw1, hn8, hn5, hn4]; exact blk_new' _ _ (by simp))
  rw [← hn4, ← hn5, ← hn8]
  have l4 : w.heap.size ≤ n4 := by omega
  have l45 : n4 < n5 := by omega
  have l58 : n5 < n8 := by omega
  refine (askedR_any (HS.out.below hE1)).mono ?_
  rintro e w2 ⟨rfl, hb2⟩
  have HE2 := Lib.hid (ext_trans hE1 hb2)
  have Y4 := Lib.hid (Ext2.blk hb2 X4.out); have Y5 := Lib.hid (Ext2.blk hb2 X5.out); have Y8 := Lib.hid (Ext2.blk hb2 X8.out)
  obtain ⟨x, hx⟩ : ∃ x, x = askE S t [r] := ⟨_, rfl⟩
  rw [← hx]
  have HX := Lib.hid hx
  have x8 := Y8.out
  have q8c := cell_blk x8
  have q8f := frz_blk x8
  clear hw1 hn4 hn5 hn8 hE1 hb2 hx x8
  by_cases hx0 : x = 0
  case neg =>
    have hd : (x == 0) = false := by simp [hx0]
    have hd' : (x != 0) = true := by simp [hx0]
    have HN := Lib.hid hx0
    clear hx0
    go_wp2_with (fail)
    have e0 : warmO S t r h = (⟨0, 0⟩, x) := by unfold warmO; rw [← HX.out, if_pos HN.out]
    exact warmREnd e0 HE2.out (by omega) ⟨_, _, Y8.out⟩ rfl rfl
  subst hx0
  have hd : ((0 : Int) != 0) = false := rfl
  obtain ⟨v, hv⟩ : ∃ v, v = inB h 0 2400 := ⟨_, rfl⟩
  have H3 : Hid (∀ W, Calls Tryz.prog 37 #[.int .i64 h, .int .i64 0, .int .i64 2400] W fun e w' => e = .returned (.bool v) ∧ W = w') := Lib.hid fun W => by rw [hv]; exact in_any _ _ _ W
  have HV := Lib.hid hv
  clear hv
  go_wp2_with (fail)
  (with_reducible refine (H3.out _).mono ?_)
  rintro e w' ⟨rfl, rfl⟩
  cases v
  case false =>
    go_wp2_with (fail)
    have e0 : warmO S t r h = (⟨0, 0⟩, 7) := by unfold warmO; rw [if_neg (by rw [← HX.out]; decide), if_pos HV.out.symm]
    exact warmREnd e0 HE2.out (by omega) ⟨_, _, Y8.out⟩ rfl rfl
  obtain ⟨hck, hsp, hr0, hr1⟩ := askE1_ok HX.out.symm
  have hti := spanE_in hsp
  have g1 := inB_iff.1 HV.out.symm
  obtain ⟨rn, hrn⟩ : ∃ n : Nat, n = r.toNat := ⟨_, rfl⟩
  obtain ⟨hn, hhn⟩ : ∃ n : Nat, n = h.toNat := ⟨_, rfl⟩
  have er : r = (rn : Int) := by omega
  have eh : h = (hn : Int) := by omega
  have hrl : rn < S.rooms.length := by omega
  have hh24 : hn ≤ 2400 := by omega
  have HCK := Lib.hid hck; have HTI := Lib.hid hti
  have HW0 : Hid (warmO S t r h = (warmN S (rmD S.rooms rn) hn t, 0)) := Lib.hid (by unfold warmO; rw [if_neg (by rw [← HX.out]; decide), if_neg (by rw [← HV.out]; decide), ← hrn, ← hhn])
  have HHR : Hid (∀ W, Ext2 w W → ∀ u, TIn u → Calls Tryz.prog 41 #[.agg #[.slice s.r.a S.rooms.length s.r.cap, .slice s.c.a S.cans.length s.c.cap, .int .i64 S.rlo, .int .i64 S.rhi, .slice s.p.a S.steps.length s.p.cap], .agg #[.int .i64 u.lo, .int .i64 u.hi], .int .i64 r] W fun e w' => e = .returned (.agg #[.int .i64 (warmV S (rmD S.rooms rn) u).lo, .int .i64 (warmV S (rmD S.rooms rn) u).hi]) ∧ Below W.heap.size W w') := Lib.hid fun W hW u hu => by rw [er]; exact hourR_any (HS.out.below hW) hrl hck.rates (hck.room hrl).1 hu
  subst eh
  clear hck hsp hti g1 hrn hhn er hr0 hr1
  go_wp2_with (fail)
  clear q8c q8f
  go_loopw [11] (fun z wr => ∃ k : Nat, z = .int .i64 (k : Int) ∧ k ≤ hn ∧ Below w.heap.size w wr ∧ wr.heap[n4]? = some (Obj.cells #[.slice s.r.a S.rooms.length s.r.cap, .slice s.c.a S.cans.length s.c.cap, .int .i64 S.rlo, .int .i64 S.rhi, .slice s.p.a S.steps.length s.p.cap] 28) ∧ wr.heap[n5]? = some (Obj.cells #[.int .i64 (warmN S (rmD S.rooms rn) k t).lo, .int .i64 (warmN S (rmD S.rooms rn) k t).hi] 25) ∧ wr.heap[n8]? = some (Obj.cells #[.int .i64 0, .int .i64 0] 25)) (fun z _ => hn - (intOf z).toNat)
  case atStart => exact ⟨0, rfl, by omega, HE2.out, Y4.out, Y5.out, Y8.out⟩
  case round =>
    obtain ⟨k, rfl, hk, hB, x4, x5, x8⟩ := hrel
    have HB := Lib.hid hB; have X4' := Lib.hid x4; have X5' := Lib.hid x5; have X8' := Lib.hid x8
    by_cases hlt : k < hn
    · go_light
      have i2 : (k : Int) < (hn : Int) := by omega
      have w3' : IntKind.i64.wrap ((k : Int) + 1) = (k : Int) + 1 := IntWalk.i64_in _ (by omega)
      have q4c := cell_blk x4
      have q4f := frz_blk x4
      have q5c := cell_blk x5
      have q5f := frz_blk x5
      clear hB x5 x8 x4
      go_wp2_with (fail)
      refine (HHR.out _ HB.out _ (warmN_in HCK.out.rates (HCK.out.room hrl).1 k HTI.out)).mono ?_
      rintro e w6 ⟨rfl, hb6⟩
      have HB6 := Lib.hid (below_ext HB.out hb6)
      have X46 := Lib.hid (Ext2.blk hb6 X4'.out); have X56 := Lib.hid (Ext2.blk hb6 X5'.out); have X86 := Lib.hid (Ext2.blk hb6 X8'.out)
      have x56 := X56.out
      clear q4c q4f q5c q5f
      have q6c := cell_blk x56
      have q6f := frz_blk x56
      clear hb6 x56
      go_wp2_with (fail)
      go_roundw
      case rel => exact ⟨k + 1, by go_num, by omega, below_set (below_set HB6.out (by omega)) (by omega), blk_set_ne (blk_set_ne X46.out (by omega)) (by omega), by rw [warmN_succ]; exact Eq.trans (blk_set (blk_set X56.out _ _) _ _) rfl, blk_set_ne (blk_set_ne X86.out (by omega)) (by omega)⟩
      case measure => simp [intOf]; omega
    · obtain rfl : k = hn := by omega
      have r1 : ¬ (k : Int) < (k : Int) := by omega
      have q5c := cell_blk x5
      have q5f := frz_blk x5
      have q8c := cell_blk x8
      have q8f := frz_blk x8
      clear hB x5 x8 x4
      go_wp2_with (fail)
      have e0 : warmO S t r ((k : Nat) : Int) = (warmN S (rmD S.rooms rn) k t, 0) := HW0.out
      exact warmREnd e0 HB.out (by omega) ⟨_, _, X8'.out⟩ rfl rfl
def waitRR (x : Option (Nat × Span)) (v : Span) : Value :=
  match x with
  | some (n, u) => .tuple #[.int .i64 (n : Int), .agg #[.int .i64 u.lo, .int .i64 u.hi], .bool true]
  | none => .tuple #[.int .i64 0, .agg #[.int .i64 v.lo, .int .i64 v.hi], .bool false]
set_option maxRecDepth 100000 in
set_option maxHeartbeats 8000000 in
theorem waitRf_any {S : Site} {s : SSl} {t : Span} {r nx : Nat} {w : World} (hS : SiteAt w S s) (hC : Chk S) (hr : r < S.rooms.length) (hn : nx < S.rooms.length) (ht : TIn t) :
    Calls Tryz.prog 66 #[.agg #[.slice s.r.a S.rooms.length s.r.cap, .slice s.c.a S.cans.length s.c.cap, .int .i64 S.rlo, .int .i64 S.rhi, .slice s.p.a S.steps.length s.p.cap], .agg #[.int .i64 t.lo, .int .i64 t.hi], .int .i64 (r : Int), .int .i64 (nx : Int)] w fun e w' => e = .returned (waitRR (waitV S r nx t) (warmN S (rmD S.rooms r) 501 t)) ∧ Below w.heap.size w w' := by
  have HS := Lib.hid hS; have HC := Lib.hid hC; have HT := Lib.hid ht
  obtain ⟨U, hU⟩ : ∃ U, U = warmN S (rmD S.rooms r) 501 t := ⟨_, rfl⟩
  rw [← hU]
  have HUU := Lib.hid hU
  have HMY : Hid (∀ W, Ext2 w W → ∀ u, TIn u → Calls Tryz.prog 64 #[.agg #[.slice s.r.a S.rooms.length s.r.cap, .slice s.c.a S.cans.length s.c.cap, .int .i64 S.rlo, .int .i64 S.rhi, .slice s.p.a S.steps.length s.p.cap], .agg #[.int .i64 u.lo, .int .i64 u.hi], .int .i64 (nx : Int)] W fun e w' => e = .returned (.bool (mayS u (rmD S.rooms nx))) ∧ Below W.heap.size W w') := Lib.hid fun W hW u hu => mayR_any (HS.out.below hW) hn (HC.out.room hn).1 hu
  have HHR : Hid (∀ W, Ext2 w W → ∀ u, TIn u → Calls Tryz.prog 41 #[.agg #[.slice s.r.a S.rooms.length s.r.cap, .slice s.c.a S.cans.length s.c.cap, .int .i64 S.rlo, .int .i64 S.rhi, .slice s.p.a S.steps.length s.p.cap], .agg #[.int .i64 u.lo, .int .i64 u.hi], .int .i64 (r : Int)] W fun e w' => e = .returned (.agg #[.int .i64 (warmV S (rmD S.rooms r) u).lo, .int .i64 (warmV S (rmD S.rooms r) u).hi]) ∧ Below W.heap.size W w') := Lib.hid fun W hW u hu => hourR_any (HS.out.below hW) hr HC.out.rates (HC.out.room hr).1 hu
  clear hS hC ht hU
  go_enter Tryz.func66, Tryz.ntmps66
  go_wp2_with (fail)
  refine wp_name ?_
  intro w1 hw1
  obtain ⟨n4, hn4⟩ : ∃ n, n = w.heap.size := ⟨_, rfl⟩
  obtain ⟨n5, hn5⟩ : ∃ n, n = n4 + 1 := ⟨_, rfl⟩
  obtain ⟨n9, hn9⟩ : ∃ n, n = n5 + 1 := ⟨_, rfl⟩
  have hE1 : Ext2 w w1 := by rw [hw1]; exact ext_trans (ext_trans (below_alloc' _ _) (below_alloc' _ _)) (below_alloc' _ _)
  have X4 : Hid (w1.heap[n4]? = some (Obj.cells #[.slice s.r.a S.rooms.length s.r.cap, .slice s.c.a S.cans.length s.c.cap, .int .i64 S.rlo, .int .i64 S.rhi, .slice s.p.a S.steps.length s.p.cap] 28)) := Lib.hid (by rw [hw1, hn4]; exact blk_alloc (blk_alloc (blk_new _ _) _) _)
  have X5 : Hid (w1.heap[n5]? = some (Obj.cells #[.int .i64 t.lo, .int .i64 t.hi] 25)) := Lib.hid (by rw [hw1, hn5, hn4]; exact blk_alloc (blk_new' _ _ (by simp)) _)
  have X9 : Hid (w1.heap[n9]? = some (Obj.cells #[.int .i64 0, .int .i64 0] 25)) := Lib.hid (by rw [hw1, hn9, hn5, hn4]; exact blk_new' _ _ (by simp))
  rw [← hn4, ← hn5, ← hn9]
  have lw : w.heap.size ≤ n4 := by omega
  have l45 : n4 < n5 := by omega
  have l59 : n5 < n9 := by omega
  have HE1 := Lib.hid hE1
  clear hw1 hn4 hn5 hn9 hE1
  go_loopw [8, 10, 11] (fun f8 f10 z wr => f8 = .int .i64 0 ∧ f10 = .bool false ∧ ∃ k : Nat, z = .int .i64 (k : Int) ∧ k ≤ 501 ∧ Below w.heap.size w wr ∧ ∃ u : Span, wr.heap[n4]? = some (Obj.cells #[.slice s.r.a S.rooms.length s.r.cap, .slice s.c.a S.cans.length s.c.cap, .int .i64 S.rlo, .int .i64 S.rhi, .slice s.p.a S.steps.length s.p.cap] 28) ∧ wr.heap[n5]? = some (Obj.cells #[.int .i64 u.lo, .int .i64 u.hi] 25) ∧ wr.heap[n9]? = some (Obj.cells #[.int .i64 0, .int .i64 0] 25) ∧ TIn u ∧ u = warmN S (rmD S.rooms r) k t ∧ waitV S r nx t = waitF S (rmD S.rooms r) (rmD S.rooms nx) (501 - k) k u) (fun _ _ z _ => 501 - (intOf z).toNat)
  case atStart => exact ⟨rfl, rfl, 0, rfl, by omega, HE1.out, t, X4.out, X5.out, X9.out, HT.out, rfl, rfl⟩
  case round =>
    obtain ⟨rfl, rfl, k, rfl, hk, hB, u, x4, x5, x9, hti, huk, hw⟩ := hrel
    have HB := Lib.hid hB; have HTI := Lib.hid hti; have HW := Lib.hid hw; have X5 := Lib.hid x5; have X9 := Lib.hid x9; have X4 := Lib.hid x4; have HUK := Lib.hid huk
    have l9 := blk_lt x9
    clear hB hti hw huk
    by_cases hlt : k < 501
    · go_light
      have i2 : (k : Int) < 501 := by omega
      have i3 : (k : Int) ≤ 500 := by omega
      have w3' : IntKind.i64.wrap ((k : Int) + 1) = (k : Int) + 1 := IntWalk.i64_in _ (by omega)
      obtain ⟨my, hmy⟩ : ∃ x, x = mayS u (rmD S.rooms nx) := ⟨_, rfl⟩
      have hM := HMY.out wr HB.out u HTI.out
      rw [← hmy] at hM
      have HM := Lib.hid hM
      have HWS : Hid (waitF S (rmD S.rooms r) (rmD S.rooms nx) (501 - k) k u = if my then waitF S (rmD S.rooms r) (rmD S.rooms nx) (501 - (k + 1)) (k + 1) (warmV S (rmD S.rooms r) u) else some (k, u)) := Lib.hid (by
        rw [hmy, show 501 - k = (501 - (k + 1)) + 1 by omega, waitF])
      have q4c := cell_blk x4
      have q4f := frz_blk x4
      have q5c := cell_blk x5
      have q5f := frz_blk x5
      clear hmy x4 x5 x9 hM
      go_wp2_with (fail)
      (with_reducible refine HM.out.mono ?_)
      rintro e w3 ⟨rfl, hg3⟩
      have HB3 := Lib.hid (below_ext HB.out hg3)
      have Y4 := Lib.hid (Ext2.blk hg3 X4.out); have Y5 := Lib.hid (Ext2.blk hg3 X5.out); have Y9 := Lib.hid (Ext2.blk hg3 X9.out)
      have x5 := Y5.out; have x9 := Y9.out; have x4 := Y4.out
      clear q4c q4f q5c q5f hg3 HM
      have q4c := cell_blk x4
      have q4f := frz_blk x4
      have q5c := cell_blk x5
      have q5f := frz_blk x5
      cases my
      case false =>
        have q9c := cell_blk x9
        have q9f := frz_blk x9
        clear x5 x9 x4
        go_wp2_with (fail)
        refine region_ev [] [0, 1, 2] [] [3, 4] (by kernel_rfl) (by kernel_rfl) (by intro c a d v w h; cases d <;> exact h) ?_
        simp only [picks, List.drop_succ_cons, List.drop_zero]
        repeat (refine wpQ0_step (fun K hK => ?_); go_simp; (refine hK _ ?_; clear hK K))
        refine wpQ0_nil ?_
        repeat ((with_reducible refine wpQ2_step (fun K hK => ?_)); go_simp; first | ((with_reducible refine hK _ ?_); clear hK K) | (apply Exists.intro; refine ⟨fun x => ?_, hK _ ?_⟩; (fail); clear hK K))
        refine wpQ2_nil ?_
        refine Events.none_ fun w4 hg4 => ?_
        simp only [picks, List.drop_succ_cons, List.drop_zero]
        have HB4 := Lib.hid (below_ext HB3.out hg4)
        have x9 := Ext2.blk hg4 Y9.out
        have X9' := Lib.hid x9
        clear q5c q5f q9c q9f hg4 q4c q4f
        have q9c := cell_blk x9
        have q9f := frz_blk x9
        clear x9
        go_wp2_with (fail)
        have y9 := Eq.trans (blk_set (blk_set X9'.out 0 (.int .i64 u.lo)) 1 (.int .i64 u.hi)) rfl
        have yc := cell_blk y9
        refine bodyPost_ret (v := .tuple #[.int .i64 (k : Int), .agg #[.int .i64 u.lo, .int .i64 u.hi], .bool true]) ?_ rfl ⟨by rw [HW.out, HWS.out]; rfl, below_set (below_set HB4.out (by omega)) (by omega)⟩
        simp [results, Tryz.results66, go_sem, yc]
      case true =>
        clear x5 x9 x4
        go_wp2_with (fail)
        refine (HHR.out w3 HB3.out u HTI.out).mono ?_
        rintro e w4 ⟨rfl, hg4⟩
        have HB4 := Lib.hid (below_ext HB3.out hg4)
        have x5 := Ext2.blk hg4 Y5.out
        have Z4 := Lib.hid (Ext2.blk hg4 Y4.out); have Z5 := Lib.hid x5; have Z9 := Lib.hid (Ext2.blk hg4 Y9.out)
        obtain ⟨u', hu'⟩ : ∃ x, x = warmV S (rmD S.rooms r) u := ⟨_, rfl⟩
        rw [← hu']
        have HU := Lib.hid hu'
        clear q4c q4f q5c q5f hg4 hu'
        have q5c := cell_blk x5
        have q5f := frz_blk x5
        clear x5
        go_wp2_with (fail)
        go_roundw
        case rel => exact ⟨rfl, rfl, k + 1, by go_num, by omega, below_set (below_set HB4.out (by omega)) (by omega), u', blk_set_ne (blk_set_ne Z4.out (by omega)) (by omega), Eq.trans (blk_set (blk_set Z5.out _ _) _ _) rfl, blk_set_ne (blk_set_ne Z9.out (by omega)) (by omega), by rw [HU.out]; exact warm_in HC.out.rates (HC.out.room hr).1 HTI.out, by rw [HU.out, HUK.out, warmN_succ], by rw [HW.out, HWS.out, HU.out]; rfl⟩
        case measure => simp [intOf]; omega
    · obtain rfl : k = 501 := by omega
      have r1 : ¬ ((501 : Nat) : Int) ≤ 500 := by omega
      have r1' : ¬ (501 : Int) ≤ 500 := by omega
      obtain rfl : u = U := by rw [HUU.out, HUK.out]
      have q5c := cell_blk x5
      have q5f := frz_blk x5
      have q9c := cell_blk x9
      have q9f := frz_blk x9
      clear x9 x5 x4
      go_wp2_with (fail)
      refine region_ev [] [0, 1] [] [2, 3] (by kernel_rfl) (by kernel_rfl) (by intro c a d v w h; cases d <;> exact h) ?_
      simp only [picks, List.drop_succ_cons, List.drop_zero]
      repeat (refine wpQ0_step (fun K hK => ?_); go_simp; (refine hK _ ?_; clear hK K))
      refine wpQ0_nil ?_
      repeat ((with_reducible refine wpQ2_step (fun K hK => ?_)); go_simp; first | ((with_reducible refine hK _ ?_); clear hK K) | (apply Exists.intro; refine ⟨fun x => ?_, hK _ ?_⟩; (fail); clear hK K))
      refine wpQ2_nil ?_
      refine Events.none_ fun w4 hg4 => ?_
      simp only [picks, List.drop_succ_cons, List.drop_zero]
      have HB4 := Lib.hid (below_ext HB.out hg4)
      have x9 := Ext2.blk hg4 X9.out
      have X9' := Lib.hid x9
      clear q5c q5f q9c q9f hg4
      have q9c := cell_blk x9
      have q9f := frz_blk x9
      clear x9
      go_wp2_with (fail)
      have y9 := Eq.trans (blk_set (blk_set X9'.out 0 (.int .i64 u.lo)) 1 (.int .i64 u.hi)) rfl
      have yc := cell_blk y9
      refine bodyPost_ret (v := .tuple #[.int .i64 0, .agg #[.int .i64 u.lo, .int .i64 u.hi], .bool false]) ?_ rfl ⟨by rw [HW.out]; rfl, below_set (below_set HB4.out (by omega)) (by omega)⟩
      simp [results, Tryz.results66, go_sem, yc]
theorem waitREnd {w W : World} {S : Site} {t : Span} {r nx : Int} {n9 : Nat} {T : Array Value} {n : Int} {u : Span} {e : Int} (ho : waitO S t r nx = (n, u, e)) (hB : Below w.heap.size w W) (x9 : W.heap[n9]? = some (Obj.cells #[.int .i64 u.lo, .int .i64 u.hi] 25)) (t8 : T.getD 8 undef = .int .i64 n) (t9 : T.getD 9 undef = .pointer (some ⟨n9, 0, none⟩)) (t10 : T.getD 10 undef = .int .i64 e) :
    bodyPost Tryz.prog Tryz.f31 (fun e' w' => e' = .returned (.tuple #[.int .i64 (waitO S t r nx).1, .agg #[.int .i64 (waitO S t r nx).2.1.lo, .int .i64 (waitO S t r nx).2.1.hi], .int .i64 (waitO S t r nx).2.2]) ∧ Below w.heap.size w w') .ret { tmps := T, defers := [] } W := by
  have c9 := cell_blk x9
  have u8 : T[8]?.getD undef = .int .i64 n := by rw [← t8, Array.getD_eq_getD_getElem?]
  have u9 : T[9]?.getD undef = .pointer (some ⟨n9, 0, none⟩) := by rw [← t9, Array.getD_eq_getD_getElem?]
  have u10 : T[10]?.getD undef = .int .i64 e := by rw [← t10, Array.getD_eq_getD_getElem?]
  refine bodyPost_ret (v := .tuple #[.int .i64 n, .agg #[.int .i64 u.lo, .int .i64 u.hi], .int .i64 e]) ?_ rfl ⟨by rw [ho], hB⟩
  simp [results, Tryz.results31, go_sem, c9, t8, t9, t10, u8, u9, u10]
set_option maxRecDepth 100000 in
set_option maxHeartbeats 8000000 in
theorem waitAR_any {S : Site} {s : SSl} {t : Span} {r nx : Int} {w : World} (hS : SiteAt w S s) :
    Calls Tryz.prog 31 #[.agg #[.slice s.r.a S.rooms.length s.r.cap, .slice s.c.a S.cans.length s.c.cap, .int .i64 S.rlo, .int .i64 S.rhi, .slice s.p.a S.steps.length s.p.cap], .agg #[.int .i64 t.lo, .int .i64 t.hi], .int .i64 r, .int .i64 nx] w fun e' w' => e' = .returned (.tuple #[.int .i64 (waitO S t r nx).1, .agg #[.int .i64 (waitO S t r nx).2.1.lo, .int .i64 (waitO S t r nx).2.1.hi], .int .i64 (waitO S t r nx).2.2]) ∧ Below w.heap.size w w' := by
  have HS := Lib.hid hS
  have hrl := hS.rm.le; have hrm := hS.rm.max
  have w5' : IntKind.i64.wrap ((S.rooms.length : Int) - 1) = (S.rooms.length : Int) - 1 := IntWalk.i64_in _ (by omega)
  clear hS
  go_enter Tryz.func31, Tryz.ntmps31
  go_wp2_with (fail)
  refine calls_name ?_
  intro w1 hw1
  obtain ⟨n4, hn4⟩ : ∃ n, n = w.heap.size := ⟨_, rfl⟩
  obtain ⟨n5, hn5⟩ : ∃ n, n = n4 + 1 := ⟨_, rfl⟩
  obtain ⟨n9, hn9⟩ : ∃ n, n = n5 + 1 := ⟨_, rfl⟩
  have hE1 : Ext2 w w1 := by rw [hw1]; exact ext_trans (ext_trans (below_alloc' _ _) (below_alloc' _ _)) (below_alloc' _ _)
  have X4 : Hid (w1.heap[n4]? = some (Obj.cells #[.slice s.r.a S.rooms.length s.r.cap, .slice s.c.a S.cans.length s.c.cap, .int .i64 S.rlo, .int .i64 S.rhi, .slice s.p.a S.steps.length s.p.cap] 28)) := Lib.hid (by rw [hw1, hn4]; exact blk_alloc (blk_alloc (blk_new _ _) _) _)
  have X5 : Hid (w1.heap[n5]? = some (Obj.cells #[.int .i64 t.lo, .int .i64 t.hi] 25)) := Lib.hid (by rw [hw1, hn5, hn4]; exact blk_alloc (blk_new' _ _ (by simp)) _)
  have X9 : Hid (w1.heap[n9]? = some (Obj.cells #[.int .i64 0, .int .i64 0] 25)) := Lib.hid (by rw [hw1, hn9, hn5, hn4]; exact blk_new' _ _ (by simp))
  rw [← hn4, ← hn5, ← hn9]
  have l4 : w.heap.size ≤ n4 := by omega
  have l45 : n4 < n5 := by omega
  have l59 : n5 < n9 := by omega
  refine (askedR_any (HS.out.below hE1)).mono ?_
  rintro e w2 ⟨rfl, hb2⟩
  have HE2 := Lib.hid (ext_trans hE1 hb2)
  have Y4 := Lib.hid (Ext2.blk hb2 X4.out); have Y5 := Lib.hid (Ext2.blk hb2 X5.out); have Y9 := Lib.hid (Ext2.blk hb2 X9.out)
  obtain ⟨x, hx⟩ : ∃ x, x = askE S t [r] := ⟨_, rfl⟩
  rw [← hx]
  have HX := Lib.hid hx
  have x9 := Y9.out; have x4 := Y4.out
  have q9c := cell_blk x9
  have q9f := frz_blk x9
  have q4c := cell_blk x4
  have q4f := frz_blk x4
  clear hw1 hn4 hn5 hn9 hE1 hb2 hx x9 x4
  have hend : ∀ W, Ext2 w2 W → ∀ (u v : Span), Below w.heap.size w (((W.setCell ⟨n9, 0, none⟩ (.int .i64 u.lo)).setCell ⟨n9, 1, none⟩ (.int .i64 u.hi))) ∧ (((W.setCell ⟨n9, 0, none⟩ (.int .i64 u.lo)).setCell ⟨n9, 1, none⟩ (.int .i64 u.hi))).heap[n9]? = some (Obj.cells #[.int .i64 u.lo, .int .i64 u.hi] 25) := fun W hW u v =>
    ⟨below_set (below_set (ext_trans HE2.out hW) (by omega)) (by omega), Eq.trans (blk_set (blk_set (Ext2.blk hW Y9.out) _ _) _ _) rfl⟩
  have HEND := Lib.hid hend
  clear hend
  have ENDQ : True := trivial
  by_cases hx0 : x = 0
  case neg =>
    have hd : (x == 0) = false := by simp [hx0]
    have hd' : (x != 0) = true := by simp [hx0]
    have HN := Lib.hid hx0
    clear hx0
    go_wp2_with (fail)
    have e0 : waitO S t r nx = (0, ⟨0, 0⟩, x) := by
      have : askE S t [r, nx] = x := by rw [askE_two, ← HX.out, if_pos HN.out]
      unfold waitO; rw [this, if_pos HN.out]
    obtain ⟨g1, g2⟩ := HEND.out w2 (Below.refl _ _) ⟨0, 0⟩ ⟨0, 0⟩
    exact waitREnd e0 g1 g2 rfl rfl rfl
  subst hx0
  have hd : ((0 : Int) == 0) = true := rfl
  have hd' : ((0 : Int) != 0) = false := rfl
  obtain ⟨v, hv⟩ : ∃ v, v = inB nx 0 ((S.rooms.length : Int) - 1) := ⟨_, rfl⟩
  have H3 : Hid (∀ W, Calls Tryz.prog 37 #[.int .i64 nx, .int .i64 0, .int .i64 ((S.rooms.length : Int) - 1)] W fun e w' => e = .returned (.bool v) ∧ W = w') := Lib.hid fun W => by rw [hv]; exact in_any _ _ _ W
  have HV := Lib.hid hv
  clear hv
  go_wp2_with (fail)
  (with_reducible refine (H3.out _).mono ?_)
  rintro e w' ⟨rfl, rfl⟩
  cases v
  case false =>
    go_wp2_with (fail)
    have e0 : waitO S t r nx = (0, ⟨0, 0⟩, 4) := by
      have : askE S t [r, nx] = 4 := by rw [askE_two, ← HX.out, if_neg (by simp), if_pos HV.out.symm]
      unfold waitO; rw [this, if_pos (by decide)]
    obtain ⟨g1, g2⟩ := HEND.out w2 (Below.refl _ _) ⟨0, 0⟩ ⟨0, 0⟩
    exact waitREnd e0 g1 g2 rfl rfl rfl
  have hask : askE S t [r, nx] = 0 := by rw [askE_two, ← HX.out, if_neg (by simp), if_neg (by rw [← HV.out]; simp)]
  obtain ⟨hck, hsp, hr, hn⟩ := askE_ok hask
  have hti := spanE_in hsp
  obtain ⟨rn, hrn⟩ : ∃ n : Nat, n = r.toNat := ⟨_, rfl⟩
  obtain ⟨nn, hnn⟩ : ∃ n : Nat, n = nx.toNat := ⟨_, rfl⟩
  have er : r = (rn : Int) := by omega
  have en : nx = (nn : Int) := by omega
  have hcl := waitRf_any (w := w2) (t := t) (HS.out.below HE2.out) hck (show rn < S.rooms.length by omega) (show nn < S.rooms.length by omega) hti
  have hwo : waitO S t r nx = match waitV S rn nn t with | some (n, u) => ((n : Int), u, 0) | none => (0, ⟨0, 0⟩, 9) := by unfold waitO; rw [hask, if_neg (by simp), ← hrn, ← hnn]; cases waitV S rn nn t <;> rfl
  have HWO := Lib.hid hwo
  rw [← er, ← en] at hcl
  obtain ⟨U, hU⟩ : ∃ U, U = warmN S (rmD S.rooms rn) 501 t := ⟨_, rfl⟩
  rw [← hU] at hcl
  have HCL := Lib.hid hcl
  have x5 := Y5.out
  have q5c := cell_blk x5
  have q5f := frz_blk x5
  clear hask hck hsp hti hrn hnn er en hcl hwo hU hr hn x5
  go_wp2_with (fail)
  (with_reducible refine HCL.out.mono ?_)
  rintro e w3 ⟨rfl, hb3⟩
  have HE3 := Lib.hid hb3
  obtain ⟨W0, hW0⟩ : ∃ y, y = waitV S rn nn t := ⟨_, rfl⟩
  rw [← hW0]
  have HW0 := Lib.hid hW0
  have x9 := Ext2.blk hb3 Y9.out
  have X93 := Lib.hid x9
  clear q4c q4f q5c q5f q9c q9f hb3 hW0
  have q9c := cell_blk x9
  have q9f := frz_blk x9
  clear x9
  cases W0 with
  | none =>
    simp only [waitRR]
    go_upto_region 7 with (fail)
    refine wp_name ?_
    intro w4 hw4
    have hE4 : Ext2 w3 w4 := by rw [hw4]; exact below_alloc' _ _
    have HE4 := Lib.hid (ext_trans HE3.out hE4)
    have x9 := Ext2.blk hE4 X93.out
    clear q9c q9f hw4 hE4
    have q9c := cell_blk x9
    have q9f := frz_blk x9
    clear x9
    go_wp2_with (fail)
    have e0 : waitO S t r nx = (0, ⟨0, 0⟩, 9) := by rw [HWO.out, ← HW0.out]
    obtain ⟨g1, g2⟩ := HEND.out w4 HE4.out ⟨0, 0⟩ ⟨0, 0⟩
    exact waitREnd e0 g1 g2 rfl rfl rfl
  | some nu =>
    obtain ⟨n, u⟩ := nu
    simp only [waitRR]
    go_upto_region 7 with (fail)
    refine wp_name ?_
    intro w4 hw4
    obtain ⟨n13, hn13⟩ : ∃ b, b = w3.heap.size := ⟨_, rfl⟩
    have hE4 : Ext2 w3 w4 := by rw [hw4]; exact below_alloc' _ _
    have x13 : w4.heap[n13]? = some (Obj.cells #[.int .i64 u.lo, .int .i64 u.hi] 25) := by rw [hw4, hn13]; exact blk_new _ _
    rw [← hn13]
    have HE4 := Lib.hid (ext_trans HE3.out hE4)
    have x9 := Ext2.blk hE4 X93.out
    have X94 := Lib.hid x9
    clear q9c q9f hw4 hE4 hn13
    have q9c := cell_blk x9
    have q9f := frz_blk x9
    have q13c := cell_blk x13
    have q13f := frz_blk x13
    clear x9 x13
    go_wp2_with (fail)
    refine region_ev [] [0, 1, 2] [] [3, 4] (by kernel_rfl) (by kernel_rfl) (by intro c a d v w h; cases d <;> exact h) ?_
    simp only [picks, List.drop_succ_cons, List.drop_zero]
    repeat (refine wpQ0_step (fun K hK => ?_); go_simp; (refine hK _ ?_; clear hK K))
    refine wpQ0_nil ?_
    repeat ((with_reducible refine wpQ2_step (fun K hK => ?_)); go_simp; first | ((with_reducible refine hK _ ?_); clear hK K) | (apply Exists.intro; refine ⟨fun x => ?_, hK _ ?_⟩; (fail); clear hK K))
    refine wpQ2_nil ?_
    refine Events.none_ fun w5 hg5 => ?_
    simp only [picks, List.drop_succ_cons, List.drop_zero]
    have HE5 := Lib.hid (ext_trans HE4.out hg5)
    have x9 := Ext2.blk hg5 X94.out
    clear q9c q9f q13c q13f hg5
    have q9c := cell_blk x9
    have q9f := frz_blk x9
    clear x9
    go_wp2_with (fail)
    have e0 : waitO S t r nx = ((n : Int), u, 0) := by rw [HWO.out, ← HW0.out]
    obtain ⟨g1, g2⟩ := HEND.out w5 HE5.out u u
    exact waitREnd e0 g1 g2 rfl rfl rfl
end Go.Proofs.YtfpaihjcbpaneaaGreatDoor
