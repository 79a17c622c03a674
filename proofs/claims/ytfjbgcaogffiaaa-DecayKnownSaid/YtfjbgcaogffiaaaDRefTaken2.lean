/-
  The reference's taken: the walk.
-/
import Derived.Test.YtfjbgcaogffiaaaDRefTk
namespace Go.Proofs.Ytfjbgcaogffiaaa
open Go.RowKit D
set_option linter.unusedVariables false
set_option linter.unusedSimpArgs false
attribute [local go_sem high] run_minI run_maxI
attribute [local go_sem] upon2 cls_cell cls_frozen forall_const exists_eq_left'
def TakenOut (T : Task) (w : World) (e : Ending) (w' : World) : Prop :=
  (∃ v u, e = .returned (.tuple #[v, u]) ∧ OwnR w' w.heap.size 3 1 v (goodT T).length (natC (goodT T)) ∧ OwnR w' w.heap.size 65 2 u (struckT T).length (strikeC (struckT T))) ∧ Below w.heap.size w w'
set_option maxRecDepth 100000 in
set_option maxHeartbeats 2000000 in
theorem taken_none {T : Task} {s : TSl} {w : World} (hT : TaskAt w T s) (hk : TaskOk T) (h0 : T.tests.length = 0) : Calls Try.prog 88 #[.agg #[.slice s.h.a T.rule.heat.length s.h.cap, .slice s.w.a T.rule.wet.length s.w.cap, .int .i64 T.rule.own, .int .i64 T.rule.feed, .int .i64 T.rule.g0, .int .i64 T.rule.g1, .int .i64 T.rule.g2, .int .i64 T.rule.lost, .int .i64 T.first, .slice s.d.a T.days.length s.d.cap, .int .i64 T.start.lo, .int .i64 T.start.hi, .slice s.t.a T.tests.length s.t.cap]] w (TakenOut T w) := by
  have hg : goodT T = [] ∧ struckT T = [] := by
    have := rfold_end (days_of hk); rw [h0] at this; exact ⟨this.1.symm, this.2.symm⟩
  have HO : Hid (∀ W, Below w.heap.size w W → Calls Try.prog 108 #[.slice s.t.a T.tests.length s.t.cap] W fun e w' => (∃ v, e = .returned v ∧ OwnR w' W.heap.size 3 1 v T.tests.length (natC (insSort (fun j => (testD T.tests j).day) T.tests.length))) ∧ Below W.heap.size W w') :=
    Lib.hid fun W hW => orderR_any (hT.below hW).tests (by omega)
  have HG := Lib.hid hg
  have HH := Lib.hid h0
  clear hg hT hk h0
  go_enter Try.func88, Try.ntmps88
  go_wp2_with (fail)
  refine (HO.out _ (by repeat' (first | exact Below.refl _ _ | assumption | refine below_drewN ?_ _ | refine Below.drew ?_ | refine Below.alloc ?_ (by first | assumption | omega | (simp <;> omega)) _ | refine Below.setCell ?_ (by first | assumption | omega | (simp <;> omega)) _ | refine Ext2.on (by assumption) ?_))).mono ?_
  rintro e w1 ⟨⟨v, rfl, hO⟩, hB1⟩
  rw [HH.out] at hO
  obtain ⟨⟨a, cap⟩, rfl, -⟩ := hO.sl
  have b0 : w1.heap[w.heap.size]? = some (Obj.cells #[.slice s.h.a T.rule.heat.length s.h.cap, .slice s.w.a T.rule.wet.length s.w.cap, .int .i64 T.rule.own, .int .i64 T.rule.feed, .int .i64 T.rule.g0, .int .i64 T.rule.g1, .int .i64 T.rule.g2, .int .i64 T.rule.lost, .int .i64 T.first, .slice s.d.a T.days.length s.d.cap, .int .i64 T.start.lo, .int .i64 T.start.hi, .slice s.t.a T.tests.length s.t.cap] 31) := below_blk hB1 (blk_new _ _) (by simp)
  have q0c := cell_blk b0
  have q0f := frz_blk b0
  have hB := Below.trans (Below.alloc (Below.refl w.heap.size w) (Nat.le_refl _) (Obj.cells #[.slice s.h.a T.rule.heat.length s.h.cap, .slice s.w.a T.rule.wet.length s.w.cap, .int .i64 T.rule.own, .int .i64 T.rule.feed, .int .i64 T.rule.g0, .int .i64 T.rule.g1, .int .i64 T.rule.g2, .int .i64 T.rule.lost, .int .i64 T.first, .slice s.d.a T.days.length s.d.cap, .int .i64 T.start.lo, .int .i64 T.start.hi, .slice s.t.a T.tests.length s.t.cap] 31)) (hB1.mono (by simp))
  go_wp2_with (fail)
  refine wp_loop_rounds 1 ?_
  rw [rounds_succ]
  go_wp2_with (fail)
  go_ret2
  exact ⟨⟨_, _, rfl, by rw [HG.out.1]; exact own_nil _ _ _ _ _, by rw [HG.out.2]; exact own_nil _ _ _ _ _⟩, hB.alloc hB.size _⟩
set_option maxRecDepth 100000 in
set_option maxHeartbeats 2000000 in
theorem taken_some {T : Task} {sh sw sd : Sl} {tb toff tc : Nat} {w : World} (hT : TaskAt w T ⟨sh, sw, sd, ⟨some ⟨tb, toff, none⟩, tc⟩⟩) (hk : TaskOk T) (hm : 0 < T.tests.length) (hr : RowC w tb toff 3 T.tests.length (testC T.tests)) :
    Calls Try.prog 88 #[.agg #[.slice sh.a T.rule.heat.length sh.cap, .slice sw.a T.rule.wet.length sw.cap, .int .i64 T.rule.own, .int .i64 T.rule.feed, .int .i64 T.rule.g0, .int .i64 T.rule.g1, .int .i64 T.rule.g2, .int .i64 T.rule.lost, .int .i64 T.first, .slice sd.a T.days.length sd.cap, .int .i64 T.start.lo, .int .i64 T.start.hi, .slice (some ⟨tb, toff, none⟩) T.tests.length tc]] w (TakenOut T w) := by
  have hnt := hk.nt
  have hnd := hk.nd
  have hc1 := hT.tests.le
  have hc2 := hT.tests.max
  have HO : Hid (∀ W, Below w.heap.size w W → Calls Try.prog 108 #[.slice (some ⟨tb, toff, none⟩) T.tests.length tc] W fun e w' => (∃ v, e = .returned v ∧ OwnR w' W.heap.size 3 1 v T.tests.length (natC (orderT T))) ∧ Below W.heap.size W w') :=
    Lib.hid fun W hW => by
      have h := orderR_any (hT.below hW).tests (by omega)
      have e : insSort (fun j => (testD T.tests j).day) T.tests.length = orderT T := rfl
      rw [e] at h; exact h
  have hst := hk.start
  have HT := Lib.hid hT; have HK := Lib.hid hk; have HR := Lib.hid hr
  dsimp only at hc1 hc2
  clear hT hk hr
  go_enter Try.func88, Try.ntmps88
  go_wp2_with (fail)
  (with_reducible refine (HO.out _ ?_).mono ?_)
  · repeat' (first | exact Below.refl _ _ | assumption | refine below_drewN ?_ _ | refine Below.drew ?_ | refine Below.alloc ?_ (by first | assumption | omega | (simp <;> omega)) _ | refine Below.setCell ?_ (by first | assumption | omega | (simp <;> omega)) _ | refine Ext2.on (by assumption) ?_)
  rintro e w1 ⟨⟨v6, rfl, hO⟩, hB1⟩
  rcases hO.forms with ⟨_, h⟩ | ⟨g6, cp6, rfl, hbg6, hcp1, hcp2, hr6, -, -⟩
  · omega
  clear hO
  have b0 : w1.heap[w.heap.size]? = some (Obj.cells #[.slice sh.a T.rule.heat.length sh.cap, .slice sw.a T.rule.wet.length sw.cap, .int .i64 T.rule.own, .int .i64 T.rule.feed, .int .i64 T.rule.g0, .int .i64 T.rule.g1, .int .i64 T.rule.g2, .int .i64 T.rule.lost, .int .i64 T.first, .slice sd.a T.days.length sd.cap, .int .i64 T.start.lo, .int .i64 T.start.hi, .slice (some ⟨tb, toff, none⟩) T.tests.length tc] 31) := below_blk hB1 (blk_new _ _) (by simp)
  have hB := Below.trans (Below.alloc (Below.refl w.heap.size w) (Nat.le_refl _) (Obj.cells #[.slice sh.a T.rule.heat.length sh.cap, .slice sw.a T.rule.wet.length sw.cap, .int .i64 T.rule.own, .int .i64 T.rule.feed, .int .i64 T.rule.g0, .int .i64 T.rule.g1, .int .i64 T.rule.g2, .int .i64 T.rule.lost, .int .i64 T.first, .slice sd.a T.days.length sd.cap, .int .i64 T.start.lo, .int .i64 T.start.hi, .slice (some ⟨tb, toff, none⟩) T.tests.length tc] 31)) (hB1.mono (by simp))
  have hz1 := hB1.size; rw [World.size_alloc] at hz1
  have q0c := cell_blk b0
  have q0f := frz_blk b0
  have H6 := Lib.hid hr6; have H0 := Lib.hid b0; have HB := Lib.hid hB
  go_wp2_with (fail)
  clear q0c q0f b0 hr6 hB hB1
  go_loopw [4, 5, 8, 9] (fun v u a i wr => ∃ k : Nat, i = .int .i64 (k : Int) ∧ k ≤ T.tests.length ∧ a = .int .i64 (((rfold T k).at_ : Nat) : Int) ∧ Below w1.heap.size w1 wr ∧ wr.heap[w1.heap.size]? = some (Obj.cells #[.int .i64 (rfold T k).now.lo, .int .i64 (rfold T k).now.hi] 28) ∧
      OwnR wr (w1.heap.size + 1) 3 1 v (rfold T k).good.length (natC (rfold T k).good) ∧ OwnR wr (w1.heap.size + 1) 65 2 u (rfold T k).struck.length (strikeC (rfold T k).struck)) (fun _ _ _ i _ => T.tests.length - (intOf i).toNat)
  case atStart => exact ⟨0, rfl, by omega, rfl, by repeat' (first | exact Below.refl _ _ | assumption | refine below_drewN ?_ _ | refine Below.drew ?_ | refine Below.alloc ?_ (by first | assumption | omega | (simp <;> omega)) _ | refine Below.setCell ?_ (by first | assumption | omega | (simp <;> omega)) _ | refine Ext2.on (by assumption) ?_), blk_new _ _, own_nil _ _ _ _ _, own_nil _ _ _ _ _⟩
  case round =>
    obtain ⟨k, rfl, hkm, rfl, hBr, b7, hG, hS⟩ := hrel
    by_cases hlt : k < T.tests.length
    · obtain ⟨⟨a4, cp4⟩, rfl, hrow4⟩ := hG.sl
      obtain ⟨⟨a5, cp5⟩, rfl, -⟩ := hS.sl
      dsimp only at hG hS
      have hBw : Below w.heap.size w wr := HB.out.trans (hBr.mono (by omega))
      have b0 : wr.heap[w.heap.size]? = some (Obj.cells #[.slice sh.a T.rule.heat.length sh.cap, .slice sw.a T.rule.wet.length sw.cap, .int .i64 T.rule.own, .int .i64 T.rule.feed, .int .i64 T.rule.g0, .int .i64 T.rule.g1, .int .i64 T.rule.g2, .int .i64 T.rule.lost, .int .i64 T.first, .slice sd.a T.days.length sd.cap, .int .i64 T.start.lo, .int .i64 T.start.hi, .slice (some ⟨tb, toff, none⟩) T.tests.length tc] 31) := below_blk hBr H0.out (by omega)
      have hzr := blk_lt b7
      have inv := rinv (T := T) (n := k) (by omega)
      have hnow := rnow_lev HK.out (n := k) (by omega)
      have hstep := rfold_succ T (n := k) (by rw [order_len]; omega)
      obtain ⟨j, hj⟩ : ∃ j, j = (orderT T).getD k 0 := ⟨_, rfl⟩
      have hjm : j < T.tests.length := by rw [hj]; exact order_lt hlt
      have hat := inv.at_le (days_of HK.out) hlt
      have hgm := fun i hi => inv.mo_good (days_of HK.out) hlt (k := i) hi
      rw [← hj] at hstep hat hgm
      have hmo := mo_days (days_of HK.out) hjm
      have hte := HK.out.tests j hjm
      obtain ⟨c0, c1, c2⟩ := (HR.out.below hBw).three (i := j) hjm
      have c6 := (H6.out.below hBr).one (i := k) hlt
      rw [Nat.zero_add] at c6
      simp only [testC, natC, ← hj] at c0 c1 c2 c6
      obtain ⟨st, hst'⟩ : ∃ st, st = rfold T k := ⟨_, rfl⟩
      obtain ⟨k0, hk0⟩ : ∃ k0, k0 = mo T j := ⟨_, rfl⟩
      obtain ⟨x, hx⟩ : ∃ x, x = testD T.tests j := ⟨_, rfl⟩
      rw [← hst'] at b7 hG hS hnow hstep hat hgm ⊢
      rw [← hk0] at hmo hat hgm
      simp only [dayD', ← hx] at hmo
      rw [← hx] at c0 c1 c2 hte
      have j0 : (0 : Int) ≤ (k : Int) := by omega
      have j1 : (k : Int) < (T.tests.length : Int) := by omega
      have j2 : (0 : Int) ≤ (j : Int) := by omega
      have j3 : (j : Int) < (T.tests.length : Int) := by omega
      have hmo2 := hmo.2.symm
      have hk0b : k0 ≤ 400 := by omega
      have hk0c : (0 : Int) ≤ (k0 : Int) := by omega
      have hk0i : (k0 : Int) ≤ 400 := by omega
      have hon : ∀ W, Below w.heap.size w W → Calls Try.prog 89 #[.agg #[.slice sh.a T.rule.heat.length sh.cap, .slice sw.a T.rule.wet.length sw.cap, .int .i64 T.rule.own, .int .i64 T.rule.feed, .int .i64 T.rule.g0, .int .i64 T.rule.g1, .int .i64 T.rule.g2, .int .i64 T.rule.lost, .int .i64 T.first, .slice sd.a T.days.length sd.cap, .int .i64 T.start.lo, .int .i64 T.start.hi, .slice (some ⟨tb, toff, none⟩) T.tests.length tc], .agg #[.int .i64 st.now.lo, .int .i64 st.now.hi], .int .i64 (st.at_ : Int), .int .i64 (k0 : Int)] W fun e w' => e = .returned (.agg #[.int .i64 (on T.rule (forces T) st.now st.at_ k0).lo, .int .i64 (on T.rule (forces T) st.now st.at_ k0).hi]) ∧ Below W.heap.size W w' := fun W hW => by
        have h := onR_any (s := ⟨sh, sw, sd, ⟨some ⟨tb, toff, none⟩, tc⟩⟩) (n := st.now) (i := st.at_) (j := k0) (HT.out.below hW) HK.out hnow hat hmo.1
        dsimp only at h; exact h
      have HON := Lib.hid hon; clear hon
      obtain ⟨kpj, hkpj⟩ : ∃ kpj, kpj = kp T j := ⟨_, rfl⟩
      have hkeep : ∀ W, Calls Try.prog 91 #[.agg #[.slice sh.a T.rule.heat.length sh.cap, .slice sw.a T.rule.wet.length sw.cap, .int .i64 T.rule.own, .int .i64 T.rule.feed, .int .i64 T.rule.g0, .int .i64 T.rule.g1, .int .i64 T.rule.g2, .int .i64 T.rule.lost], .agg #[.int .i64 x.day, .int .i64 x.grade, .int .i64 x.err]] W fun e w' => e = .returned (.agg #[.int .i64 kpj.lo, .int .i64 kpj.hi]) ∧ Below W.heap.size W w' := fun W => by
        rw [hkpj, kp, ← hx]; exact keepR_any hte.1 HK.out.rule
      have hahead : ∀ i, i < st.good.length → ∃ y : D.Test, y = testD T.tests (st.good.getD i 0) ∧ st.good.getD i 0 < T.tests.length ∧ 0 ≤ y.day - T.first ∧ y.day - T.first ≤ 400 ∧ (0 ≤ y.day ∧ y.day ≤ 80400 ∧ 0 ≤ T.first ∧ T.first ≤ 80000) ∧
          (∀ W, Calls Try.prog 91 #[.agg #[.slice sh.a T.rule.heat.length sh.cap, .slice sw.a T.rule.wet.length sw.cap, .int .i64 T.rule.own, .int .i64 T.rule.feed, .int .i64 T.rule.g0, .int .i64 T.rule.g1, .int .i64 T.rule.g2, .int .i64 T.rule.lost], .agg #[.int .i64 y.day, .int .i64 y.grade, .int .i64 y.err]] W fun e w' => e = .returned (.agg #[.int .i64 (kp T (st.good.getD i 0)).lo, .int .i64 (kp T (st.good.getD i 0)).hi]) ∧ Below W.heap.size W w') ∧
          (∀ W, Below w.heap.size w W → Calls Try.prog 89 #[.agg #[.slice sh.a T.rule.heat.length sh.cap, .slice sw.a T.rule.wet.length sw.cap, .int .i64 T.rule.own, .int .i64 T.rule.feed, .int .i64 T.rule.g0, .int .i64 T.rule.g1, .int .i64 T.rule.g2, .int .i64 T.rule.lost, .int .i64 T.first, .slice sd.a T.days.length sd.cap, .int .i64 T.start.lo, .int .i64 T.start.hi, .slice (some ⟨tb, toff, none⟩) T.tests.length tc], .agg #[.int .i64 (kp T (st.good.getD i 0)).lo, .int .i64 (kp T (st.good.getD i 0)).hi], .int .i64 (y.day - T.first), .int .i64 (k0 : Int)] W fun e w' => e = .returned (.agg #[.int .i64 (aheadT T (st.good.getD i 0) k0).lo, .int .i64 (aheadT T (st.good.getD i 0) k0).hi]) ∧ Below W.heap.size W w') := by
        intro i hi
        have hil : st.good.getD i 0 < T.tests.length := by rw [hst'] at hi ⊢; exact inv.lt (by omega) hi
        have him := hgm i hi
        obtain ⟨jy, hjy⟩ : ∃ jy, jy = st.good.getD i 0 := ⟨_, rfl⟩
        rw [← hjy] at hil him ⊢
        have hty := HK.out.tests jy hil
        have hmy := mo_days (days_of HK.out) hil
        have hf := HK.out.first
        simp only [dayD'] at hmy
        refine ⟨testD T.tests jy, rfl, hil, by omega, by omega, by omega, fun W => keepR_any hty.1 HK.out.rule, fun W hW => ?_⟩
        rw [← hmy.2]
        have h := onR_any (s := ⟨sh, sw, sd, ⟨some ⟨tb, toff, none⟩, tc⟩⟩) (n := kp T jy) (i := mo T jy) (j := k0) (HT.out.below hW) HK.out (keep_lev HK.out.rule hty.1).1 him hmo.1
        dsimp only at h; exact h
      have HAH := Lib.hid hahead; clear hahead
      have HKP := Lib.hid hkeep; clear hkeep
      have HKPJ := Lib.hid hkpj; clear hkpj
      have HG := Lib.hid hG; have HS := Lib.hid hS; have HI := Lib.hid inv; have HN := Lib.hid hnow; have HST := Lib.hid hstep; have HAT := Lib.hid hat; have HGM := Lib.hid hgm; have HMO := Lib.hid hmo; have HTE := Lib.hid hte; have HJ := Lib.hid hj; have HX := Lib.hid hx; have HK0 := Lib.hid hk0; have HSS := Lib.hid hst'
      clear hG hS inv hnow hstep hat hgm hmo hte hj hx hk0 hst'
      have q0c := cell_blk b0
      have q0f := frz_blk b0
      have q7c := cell_blk b7
      have q7f := frz_blk b7
      go_wp2_with (fail)
      refine region_skip 9 8 _ 10 (Obj.cells #[.int .i64 0, .int .i64 0, .int .i64 0] 51) rfl rfl rfl (fun ρ W => by kernel_rfl) (by kernel_rfl) (by kernel_rfl) (by intro c a d v w h; cases d <;> exact h) ?_
      simp only [List.take_succ_cons, List.take_zero, List.drop_succ_cons, List.drop_zero, List.cons_append, List.nil_append, Nat.reduceSub, Nat.reduceAdd]
      repeat (refine wpQ2_step (fun K hK => ?_); go_simp; first | (refine hK _ ?_; clear hK K) | (apply Exists.intro; refine ⟨fun x => ?_, hK _ ?_⟩; (fail); clear hK K))
      refine wpQ2_nil ?_
      intro b10 w2 hb10 hg2 n10
      have m0 := hg2.blk b0; have m7 := hg2.blk b7
      have hz2 := hg2.size
      clear q0c q0f q7c q7f c0 c1 c2 c6
      have q0c := cell_blk m0
      have q0f := frz_blk m0
      have q7c := cell_blk m7
      have q7f := frz_blk m7
      have q10c := cell_blk n10
      have q10f := frz_blk n10
      have e10a : ¬ b10 = w.heap.size := by omega
      have e10b : ¬ b10 = w1.heap.size := by omega
      go_wp2_with (fail)
      refine calls_name ?_
      intro w3 h3
      have p0 : w3.heap[w.heap.size]? = some (Obj.cells #[.slice sh.a T.rule.heat.length sh.cap, .slice sw.a T.rule.wet.length sw.cap, .int .i64 T.rule.own, .int .i64 T.rule.feed, .int .i64 T.rule.g0, .int .i64 T.rule.g1, .int .i64 T.rule.g2, .int .i64 T.rule.lost, .int .i64 T.first, .slice sd.a T.days.length sd.cap, .int .i64 T.start.lo, .int .i64 T.start.hi, .slice (some ⟨tb, toff, none⟩) T.tests.length tc] 31) := by rw [h3]; repeat' (first | (with_reducible assumption) | (with_reducible refine blk_set_ne ?_ ?_) | (with_reducible exact blk_new _ _) | (with_reducible refine blk_new' _ _ (by first | (with_reducible rfl) | (simp; done) | (simp <;> omega))) | (with_reducible refine blk_alloc ?_ _) | (with_reducible refine blk_drew ?_) | (with_reducible refine blk_drewN ?_ _) | (with_reducible refine Ext2.blk (by assumption) ?_) | omega | (simp <;> omega) | exact blk_set (by assumption) _ _)
      have p7 : w3.heap[w1.heap.size]? = some (Obj.cells #[.int .i64 st.now.lo, .int .i64 st.now.hi] 28) := by rw [h3]; repeat' (first | (with_reducible assumption) | (with_reducible refine blk_set_ne ?_ ?_) | (with_reducible exact blk_new _ _) | (with_reducible refine blk_new' _ _ (by first | (with_reducible rfl) | (simp; done) | (simp <;> omega))) | (with_reducible refine blk_alloc ?_ _) | (with_reducible refine blk_drew ?_) | (with_reducible refine blk_drewN ?_ _) | (with_reducible refine Ext2.blk (by assumption) ?_) | omega | (simp <;> omega) | exact blk_set (by assumption) _ _)
      have p10 : w3.heap[b10]? = some (Obj.cells #[.int .i64 x.day, .int .i64 x.grade, .int .i64 x.err] 51) := by rw [h3]; exact blk_set (blk_set (blk_set n10 _ _) _ _) _ _
      have hB3 : Below w1.heap.size w1 w3 := by rw [h3]; exact below_set (below_set (below_set (hBr.trans (Below.mono hg2 (by omega))) (by omega)) (by omega)) (by omega)
      have hA3 : Above (w1.heap.size + 1) wr w3 := by rw [h3]; repeat' (first | (with_reducible assumption) | (with_reducible exact Above.refl _ _) | (with_reducible refine Above.set ?_ (by omega)) | (with_reducible refine Above.alloc ?_ _) | (with_reducible refine Above.ext ?_ (by assumption)))
      clear h3 q0c q0f q7c q7f q10c q10f m0 m7 n10 hg2
      (with_reducible refine (HON.out w3 (HB.out.trans (hB3.mono (by omega)))).mono ?_)
      rintro e w4 ⟨rfl, hg4⟩
      have hg4' : Ext2 w3 w4 := hg4
      have k0_ := hg4'.blk p0; have k7 := hg4'.blk p7; have k10 := hg4'.blk p10
      have hB4 := hB3.trans (Below.mono hg4 (by have := blk_lt p7; omega))
      have hz3 := blk_lt p10
      have hz4 := hg4'.size
      have hA4 := hA3.ext hg4'
      clear p0 p7 p10 hB3 hg4 hg4' hA3
      obtain ⟨nw, hnw⟩ : ∃ nw, nw = on T.rule (forces T) st.now st.at_ k0 := ⟨_, rfl⟩
      rw [← hnw]
      have HNW := Lib.hid hnw; clear hnw
      have q0c := cell_blk k0_
      have q0f := frz_blk k0_
      have q7c := cell_blk k7
      have q7f := frz_blk k7
      have q10c := cell_blk k10
      have q10f := frz_blk k10
      go_wp2_with (fail)
      refine wp_name ?_
      intro w5 h5
      have p0 : w5.heap[w.heap.size]? = some (Obj.cells #[.slice sh.a T.rule.heat.length sh.cap, .slice sw.a T.rule.wet.length sw.cap, .int .i64 T.rule.own, .int .i64 T.rule.feed, .int .i64 T.rule.g0, .int .i64 T.rule.g1, .int .i64 T.rule.g2, .int .i64 T.rule.lost, .int .i64 T.first, .slice sd.a T.days.length sd.cap, .int .i64 T.start.lo, .int .i64 T.start.hi, .slice (some ⟨tb, toff, none⟩) T.tests.length tc] 31) := by rw [h5]; repeat' (first | (with_reducible assumption) | (with_reducible refine blk_set_ne ?_ ?_) | (with_reducible exact blk_new _ _) | (with_reducible refine blk_new' _ _ (by first | (with_reducible rfl) | (simp; done) | (simp <;> omega))) | (with_reducible refine blk_alloc ?_ _) | (with_reducible refine blk_drew ?_) | (with_reducible refine blk_drewN ?_ _) | (with_reducible refine Ext2.blk (by assumption) ?_) | omega | (simp <;> omega) | exact blk_set (by assumption) _ _)
      have p7 : w5.heap[w1.heap.size]? = some (Obj.cells #[.int .i64 nw.lo, .int .i64 nw.hi] 28) := by rw [h5]; exact blk_set (blk_set k7 _ _) _ _
      have p10 : w5.heap[b10]? = some (Obj.cells #[.int .i64 x.day, .int .i64 x.grade, .int .i64 x.err] 51) := by rw [h5]; repeat' (first | (with_reducible assumption) | (with_reducible refine blk_set_ne ?_ ?_) | (with_reducible exact blk_new _ _) | (with_reducible refine blk_new' _ _ (by first | (with_reducible rfl) | (simp; done) | (simp <;> omega))) | (with_reducible refine blk_alloc ?_ _) | (with_reducible refine blk_drew ?_) | (with_reducible refine blk_drewN ?_ _) | (with_reducible refine Ext2.blk (by assumption) ?_) | omega | (simp <;> omega) | exact blk_set (by assumption) _ _)
      have hB5 : Below w1.heap.size w1 w5 := by rw [h5]; exact below_set (below_set hB4 (by omega)) (by omega)
      have hA5 : Above (w1.heap.size + 1) wr w5 := by rw [h5]; repeat' (first | (with_reducible assumption) | (with_reducible exact Above.refl _ _) | (with_reducible refine Above.set ?_ (by omega)) | (with_reducible refine Above.alloc ?_ _) | (with_reducible refine Above.ext ?_ (by assumption)))
      have hz5 : w5.heap.size = w4.heap.size := by rw [h5]; simp
      clear h5 q0c q0f q7c q7f q10c q10f k0_ k7 k10 hB4 hA4
      have q0c := cell_blk p0
      have q0f := frz_blk p0
      have q7c := cell_blk p7
      have q7f := frz_blk p7
      have q10c := cell_blk p10
      have q10f := frz_blk p10
      have HBO : Hid (∀ W, Calls Try.prog 90 #[.agg #[.int .i64 nw.lo, .int .i64 nw.hi], .agg #[.int .i64 kpj.lo, .int .i64 kpj.hi]] W fun e w' => e = .returned (.agg #[.int .i64 (both nw kpj).lo, .int .i64 (both nw kpj).hi]) ∧ Below W.heap.size W w') := Lib.hid fun W => both_any _ _ _ _ W
      refine region_skip 7 6 _ 12 (Obj.cells #[.int .i64 0, .int .i64 0] 28) rfl rfl rfl (fun ρ W => by kernel_rfl) (by kernel_rfl) (by kernel_rfl) (by intro c a d v w h; cases d <;> exact h) ?_
      simp only [List.take_succ_cons, List.take_zero, List.drop_succ_cons, List.drop_zero, List.cons_append, List.nil_append, Nat.reduceSub, Nat.reduceAdd]
      repeat (refine wpQ2_step (fun K hK => ?_); go_simp; first | (refine hK _ ?_; clear hK K) | (apply Exists.intro; refine ⟨fun x => ?_, hK _ ?_⟩; (first | (with_reducible exact HKP.out x.1) | (with_reducible exact HBO.out x.1)); clear hK K))
      refine wpQ2_nil ?_
      intro b12 w6 hb12 hg6 n12
      have r0 := hg6.blk p0; have r7 := hg6.blk p7; have r10 := hg6.blk p10
      have hB6 := hB5.trans (Below.mono hg6 (by omega))
      have hz6 := hg6.size
      have hA6 := hA5.ext hg6
      have c6 := (H6.out.below hB6).one (i := k) hlt
      rw [Nat.zero_add] at c6
      simp only [natC, ← HJ.out] at c6
      have e6a : ¬ b12 = g6 := by have := H6.out.1; omega
      have e6b : ¬ w1.heap.size = g6 := by have := H6.out.1; omega
      clear p0 p7 p10 q0c q0f q7c q7f q10c q10f hB5 hg6 hA5
      obtain ⟨bt, hbt⟩ : ∃ bt, bt = both nw kpj := ⟨_, rfl⟩
      rw [← hbt]
      have HBT := Lib.hid hbt; clear hbt
      have q7c := cell_blk r7
      have q7f := frz_blk r7
      have q12c := cell_blk n12
      have q12f := frz_blk n12
      have e12a : ¬ b12 = w.heap.size := by omega
      have e12b : ¬ b12 = w1.heap.size := by omega
      have e12c : ¬ b12 = b10 := by omega
      have hgl : st.good.length ≤ 20 := by rw [HSS.out]; have := HI.out.glen; omega
      have hsl : st.struck.length ≤ 20 := by rw [HSS.out]; have := HI.out.slen; omega
      by_cases hbad : bt.hi < bt.lo
      · have hnew : rfold T (k + 1) = ⟨nw, k0, st.good, st.struck ++ [⟨(j : Int), byOf T st.good k0 kpj⟩]⟩ := by
          rw [HST.out, rstep, ← HK0.out, ← HNW.out, ← HKPJ.out, ← HBT.out, if_pos (by simp [bad]; omega)]
        have HNEW := Lib.hid hnew; clear hnew
        go_wp2_with (fail)
        refine wp_name ?_
        intro w7 h7
        have p7 : w7.heap[w1.heap.size]? = some (Obj.cells #[.int .i64 nw.lo, .int .i64 nw.hi] 28) := by rw [h7]; repeat' (first | (with_reducible assumption) | (with_reducible refine blk_set_ne ?_ ?_) | (with_reducible exact blk_new _ _) | (with_reducible refine blk_new' _ _ (by first | (with_reducible rfl) | (simp; done) | (simp <;> omega))) | (with_reducible refine blk_alloc ?_ _) | (with_reducible refine blk_drew ?_) | (with_reducible refine blk_drewN ?_ _) | (with_reducible refine Ext2.blk (by assumption) ?_) | omega | (simp <;> omega) | exact blk_set (by assumption) _ _)
        have p10 : w7.heap[b10]? = some (Obj.cells #[.int .i64 x.day, .int .i64 x.grade, .int .i64 x.err] 51) := by rw [h7]; repeat' (first | (with_reducible assumption) | (with_reducible refine blk_set_ne ?_ ?_) | (with_reducible exact blk_new _ _) | (with_reducible refine blk_new' _ _ (by first | (with_reducible rfl) | (simp; done) | (simp <;> omega))) | (with_reducible refine blk_alloc ?_ _) | (with_reducible refine blk_drew ?_) | (with_reducible refine blk_drewN ?_ _) | (with_reducible refine Ext2.blk (by assumption) ?_) | omega | (simp <;> omega) | exact blk_set (by assumption) _ _)
        have hB7 : Below w1.heap.size w1 w7 := by rw [h7]; exact below_set (below_set hB6 (by omega)) (by omega)
        have hA7 : Above (w1.heap.size + 1) wr w7 := by rw [h7]; repeat' (first | (with_reducible assumption) | (with_reducible exact Above.refl _ _) | (with_reducible refine Above.set ?_ (by omega)) | (with_reducible refine Above.alloc ?_ _) | (with_reducible refine Above.ext ?_ (by assumption)))
        clear h7 q7c q7f q12c q12f r0 r7 r10 n12 hB6 hA6 c6
        obtain ⟨wo, rfl⟩ : ∃ wo : World, wo = wr := ⟨_, rfl⟩
        go_loopw [13, 14] (fun v u wi => ∃ i : Nat, u = .int .i64 (i : Int) ∧ i ≤ st.good.length ∧ v = .int .i64 (byOf T (st.good.take i) k0 kpj) ∧ Below w1.heap.size w1 wi ∧ wi.heap[w1.heap.size]? = some (Obj.cells #[.int .i64 nw.lo, .int .i64 nw.hi] 28) ∧ wi.heap[b10]? = some (Obj.cells #[.int .i64 x.day, .int .i64 x.grade, .int .i64 x.err] 51) ∧ Above (w1.heap.size + 1) wo wi) (fun _ u _ => st.good.length - (intOf u).toNat)
        case atStart => exact ⟨0, rfl, by omega, by rw [List.take_zero]; rfl, hB7, p7, p10, hA7⟩
        case round =>
          obtain ⟨i, rfl, hi, rfl, hBi, i7, i10, hAi⟩ := hrel
          have hzi := blk_lt i7
          by_cases hil : i < st.good.length
          · rcases (HG.out.above hAi).forms with ⟨_, h⟩ | ⟨g4, cp4', he, hg4b, hc4, hc4', hr4, -, -⟩
            · omega
            obtain ⟨rfl, rfl⟩ : a4 = some ⟨g4, 0, none⟩ ∧ cp4 = cp4' := by simpa using he
            clear he
            have c4 := hr4.one (i := i) hil
            rw [Nat.zero_add] at c4
            obtain ⟨y, hy, hyl, hy0, hy1, hy2, hykeep, hyon⟩ := HAH.out i hil
            obtain ⟨jy, hjy⟩ : ∃ jy, jy = st.good.getD i 0 := ⟨_, rfl⟩
            simp only [natC, ← hjy] at c4
            rw [← hjy] at hy hyl hykeep hyon
            obtain ⟨y0, y1, y2⟩ := (HR.out.below (HB.out.trans (hBi.mono (by omega)))).three (i := jy) hyl
            simp only [testC, ← hy] at y0 y1 y2
            have hsn : byOf T (st.good.take (i + 1)) k0 kpj = if bad (both (aheadT T jy k0) kpj) then (jy : Int) else byOf T (st.good.take i) k0 kpj := by
              rw [List.take_succ_eq_append_getElem hil, byOf_snoc, hjy, List.getD_eq_getElem?_getD, List.getElem?_eq_getElem hil]; rfl
            obtain ⟨ah, hah⟩ : ∃ ah, ah = aheadT T jy k0 := ⟨_, rfl⟩
            obtain ⟨kpy, hkpy⟩ : ∃ kpy, kpy = kp T jy := ⟨_, rfl⟩
            obtain ⟨byi, hbyi⟩ : ∃ byi, byi = byOf T (st.good.take i) k0 kpj := ⟨_, rfl⟩
            rw [← hah, ← hbyi] at hsn
            rw [← hah, ← hkpy] at hyon
            rw [← hkpy] at hykeep
            rw [← hbyi]
            have HYK := Lib.hid hykeep; have HYO := Lib.hid hyon; have HSN := Lib.hid hsn; have HJY := Lib.hid hjy
            have z0 : (0 : Int) ≤ (i : Int) := by omega
            have z1 : (i : Int) < (st.good.length : Int) := by omega
            have z2 : (0 : Int) ≤ (jy : Int) := by omega
            have z3 : (jy : Int) < (T.tests.length : Int) := by omega
            clear hykeep hyon hsn hah hkpy hbyi hjy hy hr4
            obtain ⟨hy2a, hy2b, hy2c, hy2d⟩ := hy2
            have hz10 := blk_lt i10
            have wy : IntKind.i64.wrap (y.day - T.first) = y.day - T.first := IntWalk.i64_in _ (by omega)
            have i0 : wr.heap[w.heap.size]? = some (Obj.cells #[.slice sh.a T.rule.heat.length sh.cap, .slice sw.a T.rule.wet.length sw.cap, .int .i64 T.rule.own, .int .i64 T.rule.feed, .int .i64 T.rule.g0, .int .i64 T.rule.g1, .int .i64 T.rule.g2, .int .i64 T.rule.lost, .int .i64 T.first, .slice sd.a T.days.length sd.cap, .int .i64 T.start.lo, .int .i64 T.start.hi, .slice (some ⟨tb, toff, none⟩) T.tests.length tc] 31) := below_blk hBi H0.out (by omega)
            have q0c := cell_blk i0
            have q0f := frz_blk i0
            go_wp2_with (fail)
            refine region_skip 9 8 _ 15 (Obj.cells #[.int .i64 0, .int .i64 0, .int .i64 0] 51) rfl rfl rfl (fun ρ W => by kernel_rfl) (by kernel_rfl) (by kernel_rfl) (by intro c a d v w h; cases d <;> exact h) ?_
            simp only [List.take_succ_cons, List.take_zero, List.drop_succ_cons, List.drop_zero, List.cons_append, List.nil_append, Nat.reduceSub, Nat.reduceAdd]
            repeat (refine wpQ2_step (fun K hK => ?_); go_simp; first | (refine hK _ ?_; clear hK K) | (apply Exists.intro; refine ⟨fun x => ?_, hK _ ?_⟩; (fail); clear hK K))
            refine wpQ2_nil ?_
            intro b15 v2 hb15 gv2 n15
            have m0 := gv2.blk i0; have m7 := gv2.blk i7; have m10 := gv2.blk i10
            have sz2 := gv2.size
            clear q0c q0f c4 y0 y1 y2
            have q15c := cell_blk n15
            have q15f := frz_blk n15
            go_wp2_with (fail)
            refine wp_name ?_
            intro v3 h3
            have p0 : v3.heap[w.heap.size]? = some (Obj.cells #[.slice sh.a T.rule.heat.length sh.cap, .slice sw.a T.rule.wet.length sw.cap, .int .i64 T.rule.own, .int .i64 T.rule.feed, .int .i64 T.rule.g0, .int .i64 T.rule.g1, .int .i64 T.rule.g2, .int .i64 T.rule.lost, .int .i64 T.first, .slice sd.a T.days.length sd.cap, .int .i64 T.start.lo, .int .i64 T.start.hi, .slice (some ⟨tb, toff, none⟩) T.tests.length tc] 31) := by rw [h3]; repeat' (first | (with_reducible assumption) | (with_reducible refine blk_set_ne ?_ ?_) | (with_reducible exact blk_new _ _) | (with_reducible refine blk_new' _ _ (by first | (with_reducible rfl) | (simp; done) | (simp <;> omega))) | (with_reducible refine blk_alloc ?_ _) | (with_reducible refine blk_drew ?_) | (with_reducible refine blk_drewN ?_ _) | (with_reducible refine Ext2.blk (by assumption) ?_) | omega | (simp <;> omega) | exact blk_set (by assumption) _ _)
            have p7 : v3.heap[w1.heap.size]? = some (Obj.cells #[.int .i64 nw.lo, .int .i64 nw.hi] 28) := by rw [h3]; repeat' (first | (with_reducible assumption) | (with_reducible refine blk_set_ne ?_ ?_) | (with_reducible exact blk_new _ _) | (with_reducible refine blk_new' _ _ (by first | (with_reducible rfl) | (simp; done) | (simp <;> omega))) | (with_reducible refine blk_alloc ?_ _) | (with_reducible refine blk_drew ?_) | (with_reducible refine blk_drewN ?_ _) | (with_reducible refine Ext2.blk (by assumption) ?_) | omega | (simp <;> omega) | exact blk_set (by assumption) _ _)
            have p10 : v3.heap[b10]? = some (Obj.cells #[.int .i64 x.day, .int .i64 x.grade, .int .i64 x.err] 51) := by rw [h3]; repeat' (first | (with_reducible assumption) | (with_reducible refine blk_set_ne ?_ ?_) | (with_reducible exact blk_new _ _) | (with_reducible refine blk_new' _ _ (by first | (with_reducible rfl) | (simp; done) | (simp <;> omega))) | (with_reducible refine blk_alloc ?_ _) | (with_reducible refine blk_drew ?_) | (with_reducible refine blk_drewN ?_ _) | (with_reducible refine Ext2.blk (by assumption) ?_) | omega | (simp <;> omega) | exact blk_set (by assumption) _ _)
            have p15 : v3.heap[b15]? = some (Obj.cells #[.int .i64 y.day, .int .i64 y.grade, .int .i64 y.err] 51) := by rw [h3]; exact blk_set (blk_set (blk_set n15 _ _) _ _) _ _
            have hB3 : Below w1.heap.size w1 v3 := by rw [h3]; exact below_set (below_set (below_set (hBi.trans (Below.mono gv2 (by omega))) (by omega)) (by omega)) (by omega)
            have hA3 : Above (w1.heap.size + 1) wo v3 := by rw [h3]; have := hAi.1; repeat' (first | (with_reducible assumption) | (with_reducible exact Above.refl _ _) | (with_reducible refine Above.set ?_ (by omega)) | (with_reducible refine Above.alloc ?_ _) | (with_reducible refine Above.ext ?_ (by assumption)))
            clear h3 q15c q15f m0 m7 m10 n15 gv2
            have HBW := Lib.hid (fun W (h : Ext2 v3 W) => h.on (HB.out.trans (hB3.mono (by omega))))
            have HB2 : Hid (∀ W, Calls Try.prog 90 #[.agg #[.int .i64 ah.lo, .int .i64 ah.hi], .agg #[.int .i64 kpj.lo, .int .i64 kpj.hi]] W fun e w' => e = .returned (.agg #[.int .i64 (both ah kpj).lo, .int .i64 (both ah kpj).hi]) ∧ Below W.heap.size W w') := Lib.hid fun W => both_any _ _ _ _ W
            have q0c := cell_blk p0
            have q0f := frz_blk p0
            have q10c := cell_blk p10
            have q10f := frz_blk p10
            have q15c := cell_blk p15
            have q15f := frz_blk p15
            refine region_skip 18 17 _ 16 (Obj.cells #[.int .i64 0, .int .i64 0] 28) rfl rfl rfl (fun ρ W => by kernel_rfl) (by kernel_rfl) (by kernel_rfl) (by intro c a d v w h; cases d <;> exact h) ?_
            simp only [List.take_succ_cons, List.take_zero, List.drop_succ_cons, List.drop_zero, List.cons_append, List.nil_append, Nat.reduceSub, Nat.reduceAdd]
            repeat (refine wpQ2_step (fun K hK => ?_); go_simp; first | (refine hK _ ?_; clear hK K) | (apply Exists.intro; refine ⟨fun x => ?_, hK _ ?_⟩; (first | (with_reducible exact HYK.out x.1) | (with_reducible exact HKP.out x.1) | (with_reducible exact HYO.out x.1 (HBW.out x.1 x.2)) | (with_reducible exact HB2.out x.1)); clear hK K))
            refine wpQ2_nil ?_
            intro b16 v4 hb16 gv4 n16
            have r7 := gv4.blk p7; have r10 := gv4.blk p10
            have hB4 := hB3.trans (Below.mono gv4 (by have := blk_lt p7; omega))
            have hA4 := hA3.ext gv4
            have sz3 := blk_lt p15
            have sz3' := blk_lt p10
            have sz4 := gv4.size
            have sA := hA3.1
            clear p0 p7 p10 p15 q0c q0f q10c q10f q15c q15f hB3 hA3 gv4
            obtain ⟨bo, hbo⟩ : ∃ bo, bo = both ah kpj := ⟨_, rfl⟩
            rw [← hbo]
            have HBO2 := Lib.hid hbo; clear hbo
            have c4 : v4.cell? ⟨g4, i, none⟩ = some (.int .i64 (jy : Int)) := by
              rcases (HG.out.above hA4).forms with ⟨_, h⟩ | ⟨g4', cp4', he, -, -, -, hr4, -, -⟩
              · omega
              obtain ⟨rfl, rfl⟩ : g4 = g4' ∧ cp4 = cp4' := by simpa using he
              have c4 := hr4.one (i := i) hil
              rw [Nat.zero_add] at c4
              rw [c4]; simp only [natC, HJY.out]
            have hg4lt : g4 < v3.heap.size := by
              rcases (HG.out.above hAi).forms with ⟨_, h⟩ | ⟨g4', cp4', he, -, -, -, hr4, -, -⟩
              · omega
              obtain ⟨rfl, rfl⟩ : g4 = g4' ∧ cp4 = cp4' := by simpa using he
              have := hr4.1; omega
            have e16 : ¬ b16 = g4 := by omega
            have q16c := cell_blk n16
            have q16f := frz_blk n16
            by_cases hb2 : bo.hi < bo.lo
            · have hif : (if bad bo then (jy : Int) else byi) = (jy : Int) := if_pos (by simp [bad]; omega)
              have HIF := Lib.hid hif; clear hif
              go_wp2_with (fail)
              go_roundw
              case rel =>
                refine ⟨i + 1, by go_num, by omega, ?_, below_set (below_set hB4 (by omega)) (by omega), by repeat' (first | (with_reducible assumption) | (with_reducible refine blk_set_ne ?_ ?_) | (with_reducible exact blk_new _ _) | (with_reducible refine blk_new' _ _ (by first | (with_reducible rfl) | (simp; done) | (simp <;> omega))) | (with_reducible refine blk_alloc ?_ _) | (with_reducible refine blk_drew ?_) | (with_reducible refine blk_drewN ?_ _) | (with_reducible refine Ext2.blk (by assumption) ?_) | omega | (simp <;> omega) | exact blk_set (by assumption) _ _), by repeat' (first | (with_reducible assumption) | (with_reducible refine blk_set_ne ?_ ?_) | (with_reducible exact blk_new _ _) | (with_reducible refine blk_new' _ _ (by first | (with_reducible rfl) | (simp; done) | (simp <;> omega))) | (with_reducible refine blk_alloc ?_ _) | (with_reducible refine blk_drew ?_) | (with_reducible refine blk_drewN ?_ _) | (with_reducible refine Ext2.blk (by assumption) ?_) | omega | (simp <;> omega) | exact blk_set (by assumption) _ _), by repeat' (first | (with_reducible assumption) | (with_reducible exact Above.refl _ _) | (with_reducible refine Above.set ?_ (by omega)) | (with_reducible refine Above.alloc ?_ _) | (with_reducible refine Above.ext ?_ (by assumption)))⟩
                rw [HSN.out, ← HBO2.out, HIF.out]
              case measure => simp [intOf]; omega
            · have hif : (if bad bo then (jy : Int) else byi) = byi := if_neg (by simp [bad]; omega)
              have HIF := Lib.hid hif; clear hif
              have hb2' : bo.lo ≤ bo.hi := by omega
              clear hb2
              go_wp2_with (fail)
              go_roundw
              case rel =>
                refine ⟨i + 1, by go_num, by omega, ?_, below_set (below_set hB4 (by omega)) (by omega), by repeat' (first | (with_reducible assumption) | (with_reducible refine blk_set_ne ?_ ?_) | (with_reducible exact blk_new _ _) | (with_reducible refine blk_new' _ _ (by first | (with_reducible rfl) | (simp; done) | (simp <;> omega))) | (with_reducible refine blk_alloc ?_ _) | (with_reducible refine blk_drew ?_) | (with_reducible refine blk_drewN ?_ _) | (with_reducible refine Ext2.blk (by assumption) ?_) | omega | (simp <;> omega) | exact blk_set (by assumption) _ _), by repeat' (first | (with_reducible assumption) | (with_reducible refine blk_set_ne ?_ ?_) | (with_reducible exact blk_new _ _) | (with_reducible refine blk_new' _ _ (by first | (with_reducible rfl) | (simp; done) | (simp <;> omega))) | (with_reducible refine blk_alloc ?_ _) | (with_reducible refine blk_drew ?_) | (with_reducible refine blk_drewN ?_ _) | (with_reducible refine Ext2.blk (by assumption) ?_) | omega | (simp <;> omega) | exact blk_set (by assumption) _ _), by repeat' (first | (with_reducible assumption) | (with_reducible exact Above.refl _ _) | (with_reducible refine Above.set ?_ (by omega)) | (with_reducible refine Above.alloc ?_ _) | (with_reducible refine Above.ext ?_ (by assumption)))⟩
                rw [HSN.out, ← HBO2.out, HIF.out]
              case measure => simp [intOf]; omega
          · have hil' : i = st.good.length := by omega
            rw [hil', List.take_length]
            obtain ⟨by_, hby⟩ : ∃ by_, by_ = byOf T st.good k0 kpj := ⟨_, rfl⟩
            rw [← hby]
            have hj0 : ((i : Nat) : Int) < (st.good.length : Int) → False := by omega
            have c6 := (H6.out.below hBi).one (i := k) hlt
            rw [Nat.zero_add] at c6
            simp only [natC, ← HJ.out] at c6
            rw [← hby] at HNEW
            have HBY := Lib.hid hby; clear hby hil'
            go_wp2_with (at_builtin; refine app_one [.int .i64 (j : Int), .int .i64 by_] elStrike rfl _ _ rfl (w1.heap.size + 1) rfl ((HS.out.above (by repeat' (first | (with_reducible assumption) | (with_reducible exact Above.refl _ _) | (with_reducible refine Above.set ?_ (by omega)) | (with_reducible refine Above.alloc ?_ _) | (with_reducible refine Above.ext ?_ (by assumption))))).below (below_alloc' _ _)) _ 1 rfl (blk_new' _ _ (by simp)) (by simp [Value.oneCell']) (by omega) (by simp; omega) ?_; intro v' w8 hO8 hg8)
            have tG := (HG.out.above hAi).below (below_alloc' wr (.cells #[.int .i64 (j : Int), .int .i64 by_] 65))
            have tS := (HS.out.above hAi).below (below_alloc' wr (.cells #[.int .i64 (j : Int), .int .i64 by_] 65))
            have fS : OwnR w8 (w1.heap.size + 1) 65 2 v' (st.struck ++ [Strike.mk (j : Int) by_]).length (strikeC (st.struck ++ [Strike.mk (j : Int) by_])) := by
              rw [List.length_append]
              refine hO8.congr fun i q hi hq => ?_
              have hq' : q < 2 := hq
              rcases Nat.lt_or_ge i st.struck.length with h | h
              · rw [upd_lt h]
                have e : strikeD (st.struck ++ [Strike.mk (j : Int) by_]) i = strikeD st.struck i := by rw [strikeD, strikeD, List.getD_eq_getElem?_getD, List.getD_eq_getElem?_getD, List.getElem?_append_left h]
                rcases (by omega : q = 0 ∨ q = 1) with rfl | rfl <;> simp only [strikeC, e]
              · have hi2 : i = st.struck.length := by omega
                rw [hi2, upd_at]
                have e : strikeD (st.struck ++ [Strike.mk (j : Int) by_]) st.struck.length = Strike.mk (j : Int) by_ := by simp [strikeD]
                rcases (by omega : q = 0 ∨ q = 1) with rfl | rfl <;> simp only [strikeC, e] <;> rfl
            have fG := app_other tS tG (by decide) hg8
            have f7 := app_keeps tS hg8 (blk_alloc i7 _) (by omega)
            have fB := app_below (hBi.alloc (by omega) _) tS (by omega) (by rw [World.size_alloc]; omega) hg8
            clear tG tS hO8 hg8 i7 i10 hAi hBi
            go_roundw
            case rel =>
              refine ⟨k + 1, by go_num, by omega, ?_, fB, ?_, ?_, ?_⟩
              · rw [HNEW.out]
              · rw [HNEW.out]; exact f7
              · rw [HNEW.out]; exact fG
              · rw [HNEW.out]; exact fS
            case measure => simp [intOf]; omega
      · have hbad' : bt.lo ≤ bt.hi := by omega
        clear hbad
        go_wp2_with (at_builtin; refine app_one [.int .i64 (j : Int)] elInt rfl _ _ rfl (w1.heap.size + 1) rfl ((HG.out.above (by repeat' (first | (with_reducible assumption) | (with_reducible exact Above.refl _ _) | (with_reducible refine Above.set ?_ (by omega)) | (with_reducible refine Above.alloc ?_ _) | (with_reducible refine Above.ext ?_ (by assumption))))).below (below_alloc' _ _)) _ 1 rfl (blk_new' _ _ (by simp)) (by simp [Value.oneCell']) (by omega) (by simp; omega) ?_; intro v' w7 hO7 hg7)
        have hnew : rfold T (k + 1) = ⟨bt, k0, st.good ++ [j], st.struck⟩ := by
          rw [HST.out, rstep, ← HK0.out, ← HNW.out, ← HKPJ.out, ← HBT.out, if_neg (by simp [bad]; omega)]
        have HNEW := Lib.hid hnew; clear hnew
        obtain ⟨WT, hWT⟩ : ∃ WT, WT = (((w6.setCell ⟨b12, 0, none⟩ (.int .i64 bt.lo)).setCell ⟨b12, 1, none⟩ (.int .i64 bt.hi)).setCell ⟨w1.heap.size, 0, none⟩ (.int .i64 bt.lo)).setCell ⟨w1.heap.size, 1, none⟩ (.int .i64 bt.hi) := ⟨_, rfl⟩
        rw [← hWT] at hg7
        have t7 : WT.heap[w1.heap.size]? = some (Obj.cells #[.int .i64 bt.lo, .int .i64 bt.hi] 28) := by rw [hWT]; exact blk_set (blk_set (blk_set_ne (blk_set_ne r7 (by omega)) (by omega)) _ _) _ _
        have tB : Below w1.heap.size w1 WT := by rw [hWT]; exact below_set (below_set (below_set (below_set hB6 (by omega)) (by omega)) (by omega)) (by omega)
        have tA : Above (w1.heap.size + 1) wr WT := by rw [hWT]; repeat' (first | (with_reducible assumption) | (with_reducible exact Above.refl _ _) | (with_reducible refine Above.set ?_ (by omega)) | (with_reducible refine Above.alloc ?_ _) | (with_reducible refine Above.ext ?_ (by assumption)))
        have tz := tB.size
        clear hWT
        have tG := (HG.out.above tA).below (below_alloc' WT (.cells #[.int .i64 (j : Int)] 3))
        have tS := (HS.out.above tA).below (below_alloc' WT (.cells #[.int .i64 (j : Int)] 3))
        have fG : OwnR w7 (w1.heap.size + 1) 3 1 v' (st.good ++ [j]).length (natC (st.good ++ [j])) := by
          rw [List.length_append]
          refine hO7.congr fun i q hi hq => ?_
          rcases Nat.lt_or_ge i st.good.length with h | h
          · rw [upd_lt h]; simp only [natC]; rw [List.getD_eq_getElem?_getD, List.getD_eq_getElem?_getD, List.getElem?_append_left h]
          · obtain rfl : i = st.good.length := by omega
            obtain rfl : q = 0 := by have hq' : q < 1 := hq; omega
            rw [upd_at]; simp [natC]
        have fS := app_other tG tS (by decide) hg7
        have f7 := app_keeps tG hg7 (blk_alloc t7 _) (by omega)
        have fB := app_below (tB.alloc tz _) tG (by omega) (by rw [World.size_alloc]; omega) hg7
        clear tG tS hO7 hg7 t7 tB tA
        go_roundw
        case rel =>
          refine ⟨k + 1, by go_num, by omega, ?_, fB, ?_, ?_, ?_⟩
          · rw [HNEW.out]
          · rw [HNEW.out]; exact f7
          · rw [HNEW.out]; exact fG
          · rw [HNEW.out]; exact fS
        case measure => simp [intOf]; omega
    · have hkk : k = T.tests.length := by omega
      have hend := rfold_end (days_of HK.out)
      rw [hkk] at hG hS
      rw [hend.1] at hG; rw [hend.2] at hS; clear hkk
      have HGG := Lib.hid hG; have HSS := Lib.hid hS
      clear hend hG hS b7
      go_wp2_with (fail)
      go_ret2
      exact ⟨⟨_, _, rfl, HGG.out.base (by omega), HSS.out.base (by omega)⟩, HB.out.trans (hBr.mono (by omega))⟩
end Go.Proofs.Ytfjbgcaogffiaaa
