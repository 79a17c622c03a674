/-
  decay.Grow.
-/
import Derived.Test.YtfjbgcaogffiaaaDStrP
namespace Go.Proofs.Ytfjbgcaogffiaaa
open Go.RowKit D
set_option linter.unusedVariables false
set_option linter.unusedSimpArgs false
attribute [local go_sem high] run_minI run_maxI
attribute [local go_sem] upon2 cls_cell cls_frozen forall_const exists_eq_left'
attribute [local go_sem] FirstUpon atBlk_cell field_span0 field_span1
set_option maxRecDepth 100000 in
set_option maxHeartbeats 2000000 in
theorem GrowP_any {R : Rule} {hh hv : Sl} {d : Day} {n : Span} {w : World} (hR : RuleAt w R hh hv) :
    Calls Try.prog 42 #[.agg #[.slice hh.a R.heat.length hh.cap, .slice hv.a R.wet.length hv.cap, .int .i64 R.own, .int .i64 R.feed, .int .i64 R.g0, .int .i64 R.g1, .int .i64 R.g2, .int .i64 R.lost], .agg #[.int .i64 d.tlo, .int .i64 d.thi, .int .i64 d.dlo, .int .i64 d.dhi], .agg #[.int .i64 n.lo, .int .i64 n.hi]] w fun e w' => e = .returned (.tuple #[.agg #[.int .i64 (growV R d n).1.lo, .int .i64 (growV R d n).1.hi], .int .i64 (growV R d n).2]) ∧ Below w.heap.size w w' := by
  obtain ⟨S, se, hp⟩ : ∃ a b, strengthV R d = (a, b) := ⟨_, _, rfl⟩
  obtain ⟨el, hel⟩ : ∃ el, el = levelsE n.lo n.hi := ⟨_, rfl⟩
  have hs : growV R d n = if se ≠ 0 then (⟨0, 0⟩, se) else if el ≠ 0 then (⟨0, 0⟩, el) else (grow R (strength R d) n, 0) := by rw [growV, hp, hel]
  have HC : Hid (∀ W, Below w.heap.size w W → Calls Try.prog 40 #[.agg #[.slice hh.a R.heat.length hh.cap, .slice hv.a R.wet.length hv.cap, .int .i64 R.own, .int .i64 R.feed, .int .i64 R.g0, .int .i64 R.g1, .int .i64 R.g2, .int .i64 R.lost], .agg #[.int .i64 d.tlo, .int .i64 d.thi, .int .i64 d.dlo, .int .i64 d.dhi]] W fun e w' => e = .returned (.tuple #[.agg #[.int .i64 S.lo, .int .i64 S.hi], .int .i64 se]) ∧ Below W.heap.size W w') := Lib.hid fun W hW => by
    have h := StrengthP_any (d := d) (hR.below hW); rw [hp] at h; exact h
  have HCL : Hid (∀ bf bd W, W.heap[bf]? = some (faultO 0 0 0) → W.heap[bd]? = some (spanO n.lo n.hi) → Calls Try.prog 71 #[.pointer (some ⟨bf, 0, none⟩), .pointer (some ⟨bd, 0, none⟩)] W (Caught bf el W)) := Lib.hid fun bf bd W h1 h2 => by rw [hel]; exact grow1_any h1 h2
  have HSV := Lib.hid hs
  have HP := Lib.hid hp; have HEL := Lib.hid hel
  obtain ⟨V, hV⟩ : ∃ V, V = growV R d n := ⟨_, rfl⟩
  rw [← hV] at HSV ⊢
  clear hR hp hel hs hV
  go_enter Try.func42, Try.ntmps42
  go_wp2_with (fail)
  (with_reducible refine (HC.out _ ?_).mono ?_)
  · repeat' (first | exact Below.refl _ _ | assumption | refine below_drewN ?_ _ | refine Below.drew ?_ | refine Below.alloc ?_ (by first | assumption | omega | (simp <;> omega)) _ | refine Below.setCell ?_ (by first | assumption | omega | (simp <;> omega)) _ | refine Ext2.on (by assumption) ?_)
  rintro e w1 ⟨rfl, hb1⟩
  have x0 : w1.heap[w.heap.size]? = some (Obj.cells #[.slice hh.a R.heat.length hh.cap, .slice hv.a R.wet.length hv.cap, .int .i64 R.own, .int .i64 R.feed, .int .i64 R.g0, .int .i64 R.g1, .int .i64 R.g2, .int .i64 R.lost] 25) := below_blk hb1 (by repeat' (first | (with_reducible assumption) | (with_reducible refine blk_set_ne ?_ ?_) | (with_reducible exact blk_new _ _) | (with_reducible refine blk_new' _ _ (by first | (with_reducible rfl) | (simp; done) | (simp <;> omega))) | (with_reducible refine blk_alloc ?_ _) | (with_reducible refine blk_drew ?_) | (with_reducible refine blk_drewN ?_ _) | (with_reducible refine Ext2.blk (by assumption) ?_) | omega | (simp <;> omega) | exact blk_set (by assumption) _ _)) (by first | (simp; done) | (simp; omega))
  have x1 : w1.heap[w.heap.size + 1 + 1]? = some (Obj.cells #[.int .i64 n.lo, .int .i64 n.hi] 28) := below_blk hb1 (by repeat' (first | (with_reducible assumption) | (with_reducible refine blk_set_ne ?_ ?_) | (with_reducible exact blk_new _ _) | (with_reducible refine blk_new' _ _ (by first | (with_reducible rfl) | (simp; done) | (simp <;> omega))) | (with_reducible refine blk_alloc ?_ _) | (with_reducible refine blk_drew ?_) | (with_reducible refine blk_drewN ?_ _) | (with_reducible refine Ext2.blk (by assumption) ?_) | omega | (simp <;> omega) | exact blk_set (by assumption) _ _)) (by first | (simp; done) | (simp; omega))
  have x2 : w1.heap[w.heap.size + 1 + 1 + 1]? = some (Obj.cells #[.int .i64 0, .int .i64 0] 28) := below_blk hb1 (by repeat' (first | (with_reducible assumption) | (with_reducible refine blk_set_ne ?_ ?_) | (with_reducible exact blk_new _ _) | (with_reducible refine blk_new' _ _ (by first | (with_reducible rfl) | (simp; done) | (simp <;> omega))) | (with_reducible refine blk_alloc ?_ _) | (with_reducible refine blk_drew ?_) | (with_reducible refine blk_drewN ?_ _) | (with_reducible refine Ext2.blk (by assumption) ?_) | omega | (simp <;> omega) | exact blk_set (by assumption) _ _)) (by first | (simp; done) | (simp; omega))
  have hB1 : Below w.heap.size w w1 := Below.trans (by repeat' (first | exact Below.refl _ _ | assumption | refine below_drewN ?_ _ | refine Below.drew ?_ | refine Below.alloc ?_ (by first | assumption | omega | (simp <;> omega)) _ | refine Below.setCell ?_ (by first | assumption | omega | (simp <;> omega)) _ | refine Ext2.on (by assumption) ?_)) (hb1.mono (by first | (simp; done) | (simp; omega)))
  have hz1 := blk_lt x2
  have HX0 := Lib.hid x0; have HX1 := Lib.hid x1; have HX2 := Lib.hid x2
  clear hb1
  by_cases z : se = 0
  · subst z
    have HSV := Lib.hid (show V = if el ≠ 0 then (⟨0, 0⟩, el) else (grow R (strength R d) n, 0) by have h := HSV.out; rwa [if_neg (fun h => h rfl)] at h)
    clear x0 x1 x2
    go_wp2_with (fail)
    refine calls_name ?_
    intro w2 h2
    have f2 : w2.heap[w1.heap.size + 1]? = some (faultO 0 0 0) := by rw [h2]; unfold faultO; repeat' (first | (with_reducible assumption) | (with_reducible refine blk_set_ne ?_ ?_) | (with_reducible exact blk_new _ _) | (with_reducible refine blk_new' _ _ (by first | (with_reducible rfl) | (simp; done) | (simp <;> omega))) | (with_reducible refine blk_alloc ?_ _) | (with_reducible refine blk_drew ?_) | (with_reducible refine blk_drewN ?_ _) | (with_reducible refine Ext2.blk (by assumption) ?_) | omega | (simp <;> omega) | exact blk_set (by assumption) _ _)
    have s2 : w2.heap[w1.heap.size]? = some (Obj.cells #[.int .i64 S.lo, .int .i64 S.hi] 28) := by rw [h2]; repeat' (first | (with_reducible assumption) | (with_reducible refine blk_set_ne ?_ ?_) | (with_reducible exact blk_new _ _) | (with_reducible refine blk_new' _ _ (by first | (with_reducible rfl) | (simp; done) | (simp <;> omega))) | (with_reducible refine blk_alloc ?_ _) | (with_reducible refine blk_drew ?_) | (with_reducible refine blk_drewN ?_ _) | (with_reducible refine Ext2.blk (by assumption) ?_) | omega | (simp <;> omega) | exact blk_set (by assumption) _ _)
    have hE2 : Ext2 w1 w2 := by rw [h2]; exact Ext2.cr _ _ _ (below_alloc' _ _) (below_alloc' _ _)
    clear h2
    refine (HCL.out _ _ _ f2 (Ext2.blk hE2 HX1.out)).mono ?_
    rintro e w3 hc
    have he := hc.1
    subst he
    have hs2 := Ext2.size hE2
    have hs3 := hc.size
    have x0 := hc.keep (Ext2.blk hE2 HX0.out) (by omega)
    have x1 := hc.keep (Ext2.blk hE2 HX1.out) (by omega)
    have x2 := hc.keep (Ext2.blk hE2 HX2.out) (by omega)
    have s3 := hc.keep s2 (by omega)
    have f3 := hc.2.1
    have hB3 : Below w.heap.size w w3 := hc.below (hB1.trans (Below.mono hE2 hB1.size)) (by omega) (by omega)
    have hfl := blk_lt f2
    unfold faultO at f3
    clear hc f2 hE2 hB1 s2
    by_cases z : el = 0
    · subst z
      have HV2 : Hid (V = (grow R (strength R d) n, 0)) := Lib.hid (by rw [HSV.out, if_neg (fun h => h rfl)])
      have hok : (RuleOk R ∧ DayOk d) ∧ S = strength R d := by
        have h := strengthV_ok (R := R) (d := d) (by rw [HP.out])
        rw [HP.out] at h
        exact ⟨⟨h.1, h.2.1⟩, h.2.2⟩
      have hlv := levels_ok HEL.out.symm
      have hgr := grow_ok hok.1.1 hok.1.2
      rw [← hok.2] at hgr HV2
      have HX : Hid (∀ W, Calls Try.prog 65 #[.agg #[.slice hh.a R.heat.length hh.cap, .slice hv.a R.wet.length hv.cap, .int .i64 R.own, .int .i64 R.feed, .int .i64 R.g0, .int .i64 R.g1, .int .i64 R.g2, .int .i64 R.lost], .agg #[.int .i64 S.lo, .int .i64 S.hi], .int .i64 n.lo] W fun e w' => e = .returned (.agg #[.int .i64 (least R S n.lo), .int .i64 (most R S n.lo)]) ∧ Below W.heap.size W w') := Lib.hid fun W => gains_any hgr hlv.1.1 hlv.1.2 W
      have HY : Hid (∀ W, Calls Try.prog 65 #[.agg #[.slice hh.a R.heat.length hh.cap, .slice hv.a R.wet.length hv.cap, .int .i64 R.own, .int .i64 R.feed, .int .i64 R.g0, .int .i64 R.g1, .int .i64 R.g2, .int .i64 R.lost], .agg #[.int .i64 S.lo, .int .i64 S.hi], .int .i64 n.hi] W fun e w' => e = .returned (.agg #[.int .i64 (least R S n.hi), .int .i64 (most R S n.hi)]) ∧ Below W.heap.size W w') := Lib.hid fun W => gains_any hgr hlv.2.1.1 hlv.2.1.2 W
      clear hok hlv hgr
      have q0c := cell_blk x0
      have q0f := frz_blk x0
      have q1c := cell_blk x1
      have q1f := frz_blk x1
      have qsc := cell_blk s3
      have qsf := frz_blk s3
      have qfc := cell_blk f3
      have qff := frz_blk f3
      go_wp2_with (fail)
      refine region_ev [] [0, 1, 2, 3, 4, 5, 6, 7, 8, 9, 10, 11, 12] [] [13, 14] (by kernel_rfl) (by kernel_rfl) (by intro c a d v w h; cases d <;> exact h) ?_
      simp only [picks, List.drop_succ_cons, List.drop_zero]
      repeat (refine wpQ0_step (fun K hK => ?_); go_simp; (refine hK _ ?_; clear hK K))
      refine wpQ0_nil ?_
      repeat ((with_reducible refine wpQ2_step (fun K hK => ?_)); go_simp; first | ((with_reducible refine hK _ ?_); clear hK K) | (apply Exists.intro; refine ⟨fun x => ?_, hK _ ?_⟩; (first | (with_reducible exact HX.out x.1) | (with_reducible exact HY.out x.1)); clear hK K))
      refine wpQ2_nil ?_
      refine Events.none_ fun w4 hg4 => ?_
      simp only [picks, List.drop_succ_cons, List.drop_zero]
      have hB4 := hB3.trans (Below.mono hg4 hB3.size)
      have x2 := Ext2.blk hg4 x2
      clear q0c q0f q1c q1f qfc qff qsc qsf
      have q2c := cell_blk x2
      have q2f := frz_blk x2
      go_wp2_with (fail)
      have r1 : ((w4.setCell ⟨w.heap.size + 1 + 1 + 1, 0, none⟩ (.int .i64 (least R S n.lo))).setCell ⟨w.heap.size + 1 + 1 + 1, 1, none⟩ (.int .i64 (most R S n.hi))).heap[w.heap.size + 1 + 1 + 1]? = some (Obj.cells #[.int .i64 (least R S n.lo), .int .i64 (most R S n.hi)] 28) := Eq.trans (blk_set (blk_set x2 _ _) _ _) rfl
      refine bodyPost_ret (v := .tuple #[.agg #[.int .i64 (least R S n.lo), .int .i64 (most R S n.hi)], .int .i64 0]) ?_ rfl ⟨by rw [HV2.out]; rfl, below_set (below_set hB4 (by omega)) (by omega)⟩
      have zc := cell_blk r1
      have zf := frz_blk r1
      simp [results, Try.results42, go_sem, zc]
    · have HV2 : Hid (V = (⟨0, 0⟩, el)) := Lib.hid (by rw [HSV.out, if_pos z])
      have hne : (el == 0) = false := by simp; omega
      have hne2 : (el != 0) = true := by simp; omega
      clear z
      have q2c := cell_blk x2
      have q2f := frz_blk x2
      have qfc := cell_blk f3
      have qff := frz_blk f3
      go_wp2_with (fail)
      haveI hcls : Nonempty (Cls (AtBlk (w1.heap.size + 1) #[.int .i64 0, .int .i64 0, .int .i64 el] 103)) := ⟨⟨w3, f3⟩⟩
      refine region_evH (AtBlk (w1.heap.size + 1) #[.int .i64 0, .int .i64 0, .int .i64 el] 103) [1, 2] [0] [] [3, 4] (AtBlk.ext f3) (by kernel_rfl) (by kernel_rfl) (by intro c a d v w h; cases d <;> exact h) ?_
      simp only [picks, List.drop_succ_cons, List.drop_zero]
      repeat (refine wpQS_step (fun K hK => ?_); go_simp; (refine hK _ ?_; clear hK K))
      refine wpQS_nil ?_
      repeat ((with_reducible refine wpQ2_step (fun K hK => ?_)); go_simp; first | ((with_reducible refine hK _ ?_); clear hK K) | (apply Exists.intro; refine ⟨fun x => ?_, hK _ ?_⟩; (fail); clear hK K))
      refine wpQ2_nil ?_
      refine EventsH.none_ fun w4 hg4 => ?_
      simp only [picks, List.drop_succ_cons, List.drop_zero]
      have x2 := Ext2.blk hg4 x2
      have f4 := Ext2.blk hg4 f3
      have hB4 := hB3.trans (Below.mono hg4 hB3.size)
      clear q2c q2f qfc qff
      have q2c := cell_blk x2
      have q2f := frz_blk x2
      refine wpListH_cons ?_
      go_wp2_with (fail)
      have f5 := blk_set_ne (b' := w.heap.size + 1 + 1 + 1) (o := 1) (v := .int .i64 0) (blk_set_ne (b' := w.heap.size + 1 + 1 + 1) (o := 0) (v := .int .i64 0) f4 (by omega)) (by omega)
      refine ⟨f5, wpListH_cons ?_⟩
      go_wp2_with (fail)
      refine ⟨f5, wpListH_nil ?_⟩
      go_wp2_with (fail)
      have r1 : ((w4.setCell ⟨w.heap.size + 1 + 1 + 1, 0, none⟩ (.int .i64 0)).setCell ⟨w.heap.size + 1 + 1 + 1, 1, none⟩ (.int .i64 0)).heap[w.heap.size + 1 + 1 + 1]? = some (Obj.cells #[.int .i64 0, .int .i64 0] 28) := Eq.trans (blk_set (blk_set x2 _ _) _ _) rfl
      refine bodyPost_ret (v := .tuple #[.agg #[.int .i64 (Span.mk 0 0).lo, .int .i64 (Span.mk 0 0).hi], .int .i64 el]) ?_ rfl ⟨by rw [HV2.out], below_set (below_set hB4 (by omega)) (by omega)⟩
      have zc := cell_blk r1
      have zf := frz_blk r1
      simp [results, Try.results42, go_sem, zc]
  · have HV2 : Hid (V = (⟨0, 0⟩, se)) := Lib.hid (by have h := HSV.out; rwa [if_pos z] at h)
    have hne : (se == 0) = false := by simp; omega
    have hne2 : (se != 0) = true := by simp; omega
    clear z x0 x1
    have q2c := cell_blk x2
    have q2f := frz_blk x2
    go_wp2_with (fail)
    have r1 := blk_alloc (show ((w1.setCell ⟨w.heap.size + 1 + 1 + 1, 0, none⟩ (.int .i64 0)).setCell ⟨w.heap.size + 1 + 1 + 1, 1, none⟩ (.int .i64 0)).heap[w.heap.size + 1 + 1 + 1]? = some (Obj.cells #[.int .i64 0, .int .i64 0] 28) from Eq.trans (blk_set (blk_set x2 _ _) _ _) rfl) (Obj.cells #[.int .i64 S.lo, .int .i64 S.hi] 28)
    refine bodyPost_ret (v := .tuple #[.agg #[.int .i64 (Span.mk 0 0).lo, .int .i64 (Span.mk 0 0).hi], .int .i64 se]) ?_ rfl ⟨by rw [HV2.out], ?_⟩
    · have zc := cell_blk r1
      have zf := frz_blk r1
      simp [results, Try.results42, go_sem, zc]
    · exact (below_set (below_set hB1 (by omega)) (by omega)).trans ((below_alloc' _ _).mono (by simp only [World.size_setCell]; exact hB1.size))
end Go.Proofs.Ytfjbgcaogffiaaa
