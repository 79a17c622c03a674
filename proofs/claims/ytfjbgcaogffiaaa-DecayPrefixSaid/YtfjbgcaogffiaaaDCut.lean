/-
  The law's cut: a task without what is behind a morning.
-/
import Derived.Test.YtfjbgcaogffiaaaDSlc
import Derived.Test.YtfjbgcaogffiaaaDPlwC
namespace Go.Proofs.Ytfjbgcaogffiaaa
open Go.RowKit D
set_option linter.unusedVariables false
set_option linter.unusedSimpArgs false
attribute [local go_sem high] run_minI run_maxI
attribute [local go_sem] upon2 cls_cell cls_frozen forall_const exists_eq_left'
attribute [local go_sem] FirstUpon
attribute [local go_sem high] run_days_to
theorem testC_snocA {L : List Test} {x : D.Test} {p q : Nat} (hp : p < L.length + 1) (hq : q < 3) : upd (testC L) L.length [.int .i64 x.day, .int .i64 x.grade, .int .i64 x.err] p q = testC (L ++ [x]) p q := by
  have hj := testD_app (l := L) (x := x) (j := p)
  by_cases h : p = L.length
  · subst h
    rw [upd_at]
    rw [if_pos rfl] at hj
    rcases (by omega : q = 0 ∨ q = 1 ∨ q = 2) with rfl | rfl | rfl <;> simp only [testC, hj] <;> rfl
  · rw [upd_lt (by omega)]
    rw [if_neg h] at hj
    rcases (by omega : q = 0 ∨ q = 1 ∨ q = 2) with rfl | rfl | rfl <;> simp only [testC, hj]
/-- All cells of a task are stored. -/
theorem set13 {W : World} {b : Nat} {t : TypeId} {f : Nat × Nat} {c0 c1 c2 c3 c4 c5 c6 c7 c8 c9 c10 c11 c12 v0 v1 v2 v3 v4 v5 v6 v7 v8 v9 v10 v11 v12 : Value} (h : W.heap[b]? = some (.cells #[c0, c1, c2, c3, c4, c5, c6, c7, c8, c9, c10, c11, c12] t f)) : (((((((((((((W.setCell ⟨b, 0, none⟩ v0).setCell ⟨b, 1, none⟩ v1).setCell ⟨b, 2, none⟩ v2).setCell ⟨b, 3, none⟩ v3).setCell ⟨b, 4, none⟩ v4).setCell ⟨b, 5, none⟩ v5).setCell ⟨b, 6, none⟩ v6).setCell ⟨b, 7, none⟩ v7).setCell ⟨b, 8, none⟩ v8).setCell ⟨b, 9, none⟩ v9).setCell ⟨b, 10, none⟩ v10).setCell ⟨b, 11, none⟩ v11).setCell ⟨b, 12, none⟩ v12).heap[b]? = some (.cells #[v0, v1, v2, v3, v4, v5, v6, v7, v8, v9, v10, v11, v12] t f) := by
  have h1 := (blk_set (blk_set (blk_set (blk_set (blk_set (blk_set (blk_set (blk_set (blk_set (blk_set (blk_set (blk_set (blk_set h 0 v0) 1 v1) 2 v2) 3 v3) 4 v4) 5 v5) 6 v6) 7 v7) 8 v8) 9 v9) 10 v10) 11 v11) 12 v12)
  simpa using h1
set_option maxRecDepth 100000 in
set_option maxHeartbeats 2000000 in
theorem cut_any {T : Task} {s : TSl} {k : Nat} {w : World} (hT : TaskAt w T s) (hk : TaskOk T) (hkl : k ≤ T.days.length) : Calls Try.prog 34 #[.agg #[.slice s.h.a T.rule.heat.length s.h.cap, .slice s.w.a T.rule.wet.length s.w.cap, .int .i64 T.rule.own, .int .i64 T.rule.feed, .int .i64 T.rule.g0, .int .i64 T.rule.g1, .int .i64 T.rule.g2, .int .i64 T.rule.lost, .int .i64 T.first, .slice s.d.a T.days.length s.d.cap, .int .i64 T.start.lo, .int .i64 T.start.hi, .slice s.t.a T.tests.length s.t.cap], .int .i64 (k : Int)] w fun e w' => (∃ z : Sl, e = .returned (.agg #[.slice s.h.a T.rule.heat.length s.h.cap, .slice s.w.a T.rule.wet.length s.w.cap, .int .i64 T.rule.own, .int .i64 T.rule.feed, .int .i64 T.rule.g0, .int .i64 T.rule.g1, .int .i64 T.rule.g2, .int .i64 T.rule.lost, .int .i64 T.first, (.slice (takeA s.d.a s.d.cap 4) k s.d.cap), .int .i64 T.start.lo, .int .i64 T.start.hi, (.slice z.a (cutT T k).tests.length z.cap)]) ∧ TestsS w' z (cutT T k).tests) ∧ Below w.heap.size w w' := by
  have HT := Lib.hid hT
  have hnd := hk.nd
  have hnt := hk.nt
  have hfst := hk.first
  have hdl := hT.days.le
  have hkc : k ≤ s.d.cap := by omega
  obtain ⟨f, hf⟩ : ∃ f, f = T.first + (k : Int) := ⟨_, rfl⟩
  have hcu : (cutT T k).tests = movTests T.tests f := by rw [hf]; rfl
  rw [hcu]
  have wf : IntKind.i64.wrap (T.first + (k : Int)) = f := by rw [hf]; exact IntWalk.i64_in _ (by omega)
  have HF := Lib.hid hf
  clear hT hk hcu hf
  go_enter Try.func34, Try.ntmps34
  go_wp2_with (fail)
  refine wp_name ?_
  intro w2 h2
  have hE2 : Below w.heap.size w w2 := by rw [h2]; repeat' (first | exact Below.refl _ _ | assumption | refine below_drewN ?_ _ | refine Below.drew ?_ | refine Below.alloc ?_ (by first | assumption | omega | (simp <;> omega)) _ | refine Below.setCell ?_ (by first | assumption | omega | (simp <;> omega)) _ | refine Ext2.on (by assumption) ?_)
  have x0 : w2.heap[w.heap.size]? = some (Obj.cells #[.slice s.h.a T.rule.heat.length s.h.cap, .slice s.w.a T.rule.wet.length s.w.cap, .int .i64 T.rule.own, .int .i64 T.rule.feed, .int .i64 T.rule.g0, .int .i64 T.rule.g1, .int .i64 T.rule.g2, .int .i64 T.rule.lost, .int .i64 T.first, .slice s.d.a T.days.length s.d.cap, .int .i64 T.start.lo, .int .i64 T.start.hi, .slice s.t.a T.tests.length s.t.cap] 31) := by rw [h2]; repeat' (first | (with_reducible assumption) | (with_reducible refine blk_set_ne ?_ ?_) | (with_reducible exact blk_new _ _) | (with_reducible refine blk_new' _ _ (by first | (with_reducible rfl) | (simp; done) | (simp <;> omega))) | (with_reducible refine blk_alloc ?_ _) | (with_reducible refine blk_drew ?_) | (with_reducible refine blk_drewN ?_ _) | (with_reducible refine Ext2.blk (by assumption) ?_) | omega | (simp <;> omega) | exact blk_set (by assumption) _ _)
  have x4 : w2.heap[w.heap.size + 1]? = some (Obj.cells #[.slice none 0 0, .slice none 0 0, .int .i64 0, .int .i64 0, .int .i64 0, .int .i64 0, .int .i64 0, .int .i64 0, .int .i64 0, .slice none 0 0, .int .i64 0, .int .i64 0, .slice none 0 0] 31) := by rw [h2]; repeat' (first | (with_reducible assumption) | (with_reducible refine blk_set_ne ?_ ?_) | (with_reducible exact blk_new _ _) | (with_reducible refine blk_new' _ _ (by first | (with_reducible rfl) | (simp; done) | (simp <;> omega))) | (with_reducible refine blk_alloc ?_ _) | (with_reducible refine blk_drew ?_) | (with_reducible refine blk_drewN ?_ _) | (with_reducible refine Ext2.blk (by assumption) ?_) | omega | (simp <;> omega) | exact blk_set (by assumption) _ _)
  have x5 : w2.heap[w.heap.size + 2]? = some (Obj.cells #[.slice s.h.a T.rule.heat.length s.h.cap, .slice s.w.a T.rule.wet.length s.w.cap, .int .i64 T.rule.own, .int .i64 T.rule.feed, .int .i64 T.rule.g0, .int .i64 T.rule.g1, .int .i64 T.rule.g2, .int .i64 T.rule.lost, .int .i64 T.first, (.slice (takeA s.d.a s.d.cap 4) k s.d.cap), .int .i64 T.start.lo, .int .i64 T.start.hi, (.slice none 0 0)] 31) := by rw [h2]; repeat' (first | (with_reducible assumption) | (with_reducible refine blk_set_ne ?_ ?_) | (with_reducible exact blk_new _ _) | (with_reducible refine blk_new' _ _ (by first | (with_reducible rfl) | (simp; done) | (simp <;> omega))) | (with_reducible refine blk_alloc ?_ _) | (with_reducible refine blk_drew ?_) | (with_reducible refine blk_drewN ?_ _) | (with_reducible refine Ext2.blk (by assumption) ?_) | omega | (simp <;> omega) | exact blk_set (by assumption) _ _)
  have HX0 := Lib.hid x0; have HX4 := Lib.hid x4; have HX5 := Lib.hid x5
  have hz5 := blk_lt x5
  obtain ⟨b5, hb5⟩ : ∃ b, b = w.heap.size + 2 := ⟨_, rfl⟩
  have e5 : w.heap.size + 1 + 1 = b5 := by omega
  rw [← hb5] at HX5 hz5
  try rw [e5]
  try rw [← hb5]
  clear e5
  have n5 : ¬ w.heap.size = b5 := by omega
  have n6 : ¬ w.heap.size + 1 = b5 := by omega
  have hle5 : w.heap.size ≤ b5 := by omega
  clear h2 x0 x4 x5 hb5
  go_loopw [6] (fun i wr => ∃ (n : Nat) (v : Value), i = .int .i64 (n : Int) ∧ n ≤ T.tests.length ∧ Below b5 w2 wr ∧ wr.heap[b5]? = some (Obj.cells #[.slice s.h.a T.rule.heat.length s.h.cap, .slice s.w.a T.rule.wet.length s.w.cap, .int .i64 T.rule.own, .int .i64 T.rule.feed, .int .i64 T.rule.g0, .int .i64 T.rule.g1, .int .i64 T.rule.g2, .int .i64 T.rule.lost, .int .i64 T.first, (.slice (takeA s.d.a s.d.cap 4) k s.d.cap), .int .i64 T.start.lo, .int .i64 T.start.hi, v] 31) ∧ OwnR wr (b5 + 1) 51 3 v (movTests (T.tests.take n) f).length (testC (movTests (T.tests.take n) f))) (fun i _ => T.tests.length - (intOf i).toNat)
  case atStart => exact ⟨0, _, rfl, by omega, Below.refl _ _, HX5.out, own_nil _ _ _ _ _⟩
  case round =>
    obtain ⟨n, v, rfl, hn, hE, y5, hO⟩ := hrel
    have hB : Below w.heap.size w wr := hE2.trans (hE.mono hle5)
    obtain ⟨⟨va, vc⟩, rfl, -⟩ := hO.sl
    dsimp only at hO y5
    have x0 := (hE.block w.heap.size (by omega)).trans HX0.out
    have hz9 := blk_lt y5
    have hszr : w2.heap.size ≤ wr.heap.size := hE.size
    by_cases hlt : n < T.tests.length
    · go_light
      obtain ⟨tb, toff, hta, htr⟩ := (HT.out.tests.below hB).row (by omega) (by omega)
      rw [hta] at x0
      obtain ⟨t0, t1, t2⟩ := htr.three (i := n) hlt
      simp only [testC] at t0 t1 t2
      obtain ⟨x, hx⟩ : ∃ x, x = testD T.tests n := ⟨_, rfl⟩
      have hst := movTests_take (f := f) hlt
      rw [← hx] at t0 t1 t2 hst
      have hml : (movTests (T.tests.take n) f).length ≤ 20 := Nat.le_trans (List.length_filter_le _ _) (by rw [List.length_take]; omega)
      have p0 : (0 : Int) ≤ (n : Int) := by omega
      have p1 : (n : Int) < (T.tests.length : Int) := by omega
      have w2' : IntKind.i64.wrap ((n : Int) + 1) = (n : Int) + 1 := IntWalk.i64_in _ (by omega)
      have HST := Lib.hid hst; have HO := Lib.hid hO; have HML := Lib.hid hml; have HE := Lib.hid hE
      clear hx hst hO htr hta hml hE
      have q0c := cell_blk x0
      have q0f := frz_blk x0
      have q5c := cell_blk y5
      have q5f := frz_blk y5
      go_wp2_with (fail)
      refine region_ev [] [0, 1, 2, 3, 4, 5, 6, 7, 8, 9, 10] [] [] (by kernel_rfl) (by kernel_rfl) (by intro c a d v w h; cases d <;> exact h) ?_
      simp only [picks, List.drop_succ_cons, List.drop_zero]
      repeat (refine wpQ0_step (fun K hK => ?_); go_simp; (refine hK _ ?_; clear hK K))
      refine wpQ0_nil ?_
      repeat ((with_reducible refine wpQ2_step (fun K hK => ?_)); go_simp; first | ((with_reducible refine hK _ ?_); clear hK K) | (apply Exists.intro; refine ⟨fun x => ?_, hK _ ?_⟩; (fail); clear hK K))
      refine wpQ2_nil ?_
      refine Events.none_ fun wy hgy => ?_
      simp only [picks, List.drop_succ_cons, List.drop_zero]
      have hEy : Ext2 wr wy := hgy
      have HE := Lib.hid (HE.out.trans (Below.mono hEy (by omega)))
      have HO := Lib.hid (HO.out.below hEy)
      have y5 := Ext2.blk hEy y5
      have x0 := Ext2.blk hEy x0
      have t0 := (Below.cell hEy (cell_lt t0)).trans t0
      have t1 := (Below.cell hEy (cell_lt t1)).trans t1
      have t2 := (Below.cell hEy (cell_lt t2)).trans t2
      have hz9 := blk_lt y5
      clear q0c q0f q5c q5f hgy hEy
      have q0c := cell_blk x0
      have q0f := frz_blk x0
      have q5c := cell_blk y5
      have q5f := frz_blk y5
      by_cases hd : x.day ≤ f
      · go_wp2_with (fail)
        refine region_ev [] [0, 1, 2, 3, 4, 5, 6] [(7, 39, none)] [8, 9, 10] (by kernel_rfl) (by kernel_rfl) (by intro c a d v w h; cases d <;> exact h) ?_
        simp only [picks, List.drop_succ_cons, List.drop_zero]
        repeat (refine wpQ0_step (fun K hK => ?_); go_simp; (refine hK _ ?_; clear hK K))
        refine wpQ0_nil ?_
        repeat ((with_reducible refine wpQ2_step (fun K hK => ?_)); go_simp; first | ((with_reducible refine hK _ ?_); clear hK K) | (apply Exists.intro; refine ⟨fun x => ?_, hK _ ?_⟩; (fail); clear hK K))
        refine wpQ2_nil ?_
        refine Events.lay1 (fun b => .slice (some ⟨b, 0, none⟩) 1 1) (.cells #[.int .i64 x.day, .int .i64 x.grade, .int .i64 x.err] 51 (0, 0)) ⟨_, rfl, rfl, rfl, fun W => by kernel_rfl⟩ fun bq wx hbq hgx nbq => ?_
        simp only [picks, List.drop_succ_cons, List.drop_zero]
        have hEx : Ext2 wy wx := hgx
        have hzx := hEx.size
        have hml := HML.out
        clear q0c q0f q5c q5f t0 t1 t2
        go_wp2_with (at_builtin; refine app_one [.int .i64 x.day, .int .i64 x.grade, .int .i64 x.err] elTestA rfl _ _ rfl (b5 + 1) rfl (HO.out.below hEx) bq 1 rfl nbq (by simp [Value.oneCell']) (by omega) (by omega) ?_; intro v' w8 hO11 hg8; obtain ⟨⟨a', cp'⟩, rfl, -⟩ := hO11.sl; dsimp only at hO11; have u9 := app_keeps (HO.out.below hEx) hg8 (Ext2.blk hEx y5) (by omega); have u9c := cell_blk u9; have u9f := frz_blk u9)
        go_roundw
        case rel =>
          refine ⟨n + 1, .slice a' ((movTests (T.tests.take n) f).length + 1) cp', by go_num, by omega, below_set (app_below (HE.out.trans (Below.mono hEx (by omega))) (HO.out.below hEx) (by omega) (by omega) hg8) (Nat.le_refl _), Eq.trans (blk_set u9 _ _) rfl, ?_⟩
          rw [HST.out, if_pos hd, List.length_append]
          exact (hO11.above (Above.set (Above.refl _ _) (.inl (Nat.lt_succ_self _)))).congr fun i q hi hq => testC_snocA hi hq
        case measure => simp [intOf]; omega
      · go_wp2_with (fail)
        go_roundw
        case rel =>
          refine ⟨n + 1, _, by go_num, by omega, HE.out, y5, ?_⟩
          rw [HST.out, if_neg hd]; exact HO.out
        case measure => simp [intOf]; omega
    · obtain rfl : n = T.tests.length := by omega
      rw [List.take_length] at hO y5
      have y4 := (hE.block (w.heap.size + 1) (by omega)).trans HX4.out
      have p1 : ¬ (T.tests.length : Int) < (T.tests.length : Int) := by omega
      have hzr := hB.size
      have HO := Lib.hid hO
      clear hO
      have q0c := cell_blk x0
      have q0f := frz_blk x0
      have q5c := cell_blk y5
      have q5f := frz_blk y5
      have q4c := cell_blk y4
      have q4f := frz_blk y4
      go_wp2_with (fail)
      refine bp_name ?_
      intro w7 h7
      have r1 : w7.heap[w.heap.size + 1]? = some (Obj.cells #[.slice s.h.a T.rule.heat.length s.h.cap, .slice s.w.a T.rule.wet.length s.w.cap, .int .i64 T.rule.own, .int .i64 T.rule.feed, .int .i64 T.rule.g0, .int .i64 T.rule.g1, .int .i64 T.rule.g2, .int .i64 T.rule.lost, .int .i64 T.first, (.slice (takeA s.d.a s.d.cap 4) k s.d.cap), .int .i64 T.start.lo, .int .i64 T.start.hi, (.slice va (movTests T.tests f).length vc)] 31) := by
        rw [h7]
        exact set13 y4
      have S : ∀ {W : World} {o : Nat} {v : Value}, Below w.heap.size w W → Below w.heap.size w (W.setCell ⟨w.heap.size + 1, o, none⟩ v) := fun h => below_set h (Nat.le_succ _)
      have hB7 : Below w.heap.size w w7 := by rw [h7]; exact S (S (S (S (S (S (S (S (S (S (S (S (S (hB)))))))))))))
      have hab : w.heap.size + 1 < b5 + 1 := by omega
      have hT7 : TestsS w7 ⟨va, vc⟩ (movTests T.tests f) := by
        rw [h7]; exact own_rowA (HO.out.above (Above.set (Above.set (Above.set (Above.set (Above.set (Above.set (Above.set (Above.set (Above.set (Above.set (Above.set (Above.set (Above.set (Above.refl _ _) (.inl hab)) (.inl hab)) (.inl hab)) (.inl hab)) (.inl hab)) (.inl hab)) (.inl hab)) (.inl hab)) (.inl hab)) (.inl hab)) (.inl hab)) (.inl hab)) (.inl hab)))
      clear h7
      refine bodyPost_ret (v := .agg #[.slice s.h.a T.rule.heat.length s.h.cap, .slice s.w.a T.rule.wet.length s.w.cap, .int .i64 T.rule.own, .int .i64 T.rule.feed, .int .i64 T.rule.g0, .int .i64 T.rule.g1, .int .i64 T.rule.g2, .int .i64 T.rule.lost, .int .i64 T.first, (.slice (takeA s.d.a s.d.cap 4) k s.d.cap), .int .i64 T.start.lo, .int .i64 T.start.hi, (.slice va (movTests T.tests f).length vc)]) ?_ rfl ⟨⟨⟨va, vc⟩, rfl, hT7⟩, hB7⟩
      have zc := cell_blk r1
      have zf := frz_blk r1
      simp [results, Try.results34, go_sem, zc]
end Go.Proofs.Ytfjbgcaogffiaaa
