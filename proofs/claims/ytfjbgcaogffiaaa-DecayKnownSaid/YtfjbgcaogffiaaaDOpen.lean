/-
  decay.open: the reel of a task.
-/
import Derived.Test.YtfjbgcaogffiaaaDKeep
import Derived.Test.YtfjbgcaogffiaaaDRegB
import Derived.Test.YtfjbgcaogffiaaaDRefKnown
namespace Go.Proofs.Ytfjbgcaogffiaaa
open Go.RowKit D
set_option linter.unusedVariables false
set_option linter.unusedSimpArgs false
attribute [local go_sem high] run_minI run_maxI
attribute [local go_sem] upon2 cls_cell cls_frozen forall_const exists_eq_left'
attribute [local go_sem] FirstUpon
def reelV (T : Task) (s : TSl) (v : Value) : Obj := .cells #[.slice s.h.a T.rule.heat.length s.h.cap, .slice s.w.a T.rule.wet.length s.w.cap, .int .i64 T.rule.own, .int .i64 T.rule.feed, .int .i64 T.rule.g0, .int .i64 T.rule.g1, .int .i64 T.rule.g2, .int .i64 T.rule.lost,
  .slice s.h.a T.rule.heat.length s.h.cap, .slice s.w.a T.rule.wet.length s.w.cap, .int .i64 T.rule.own, .int .i64 T.rule.feed, .int .i64 T.rule.g0, .int .i64 T.rule.g1, .int .i64 T.rule.g2, .int .i64 T.rule.lost, .int .i64 T.first, .slice s.d.a T.days.length s.d.cap, .int .i64 T.start.lo, .int .i64 T.start.hi, .slice s.t.a T.tests.length s.t.cap, v] 108 (0, 0)
/-- What open returns: a reel in a block of its own; the strengths lie behind it. -/
def OpenOut (T : Task) (s : TSl) (w : World) (e : Ending) (w' : World) : Prop :=
  (∃ (B : Nat) (v : Value), e = .returned (.tuple #[.pointer (some ⟨B, 0, none⟩), .int .i64 0]) ∧ w.heap.size ≤ B ∧ w'.heap[B]? = some (reelV T s v) ∧ OwnR w' (B + 1) 28 2 v T.days.length (spC (spanD (forces T)))) ∧ Below w.heap.size w w'
set_option maxRecDepth 100000 in
set_option maxHeartbeats 2000000 in
theorem open_any {T : Task} {s : TSl} {w : World} (hT : TaskAt w T s) (h0 : (checkTask T).2.2 = 0) : Calls Try.prog 50 #[.agg #[.slice s.h.a T.rule.heat.length s.h.cap, .slice s.w.a T.rule.wet.length s.w.cap, .int .i64 T.rule.own, .int .i64 T.rule.feed, .int .i64 T.rule.g0, .int .i64 T.rule.g1, .int .i64 T.rule.g2, .int .i64 T.rule.lost, .int .i64 T.first, .slice s.d.a T.days.length s.d.cap, .int .i64 T.start.lo, .int .i64 T.start.hi, .slice s.t.a T.tests.length s.t.cap]] w (OpenOut T s w) := by
  have HK := Lib.hid (task_ok h0).1
  have HC : Hid (∀ W, Below w.heap.size w W → Calls Try.prog 64 #[.agg #[.slice s.h.a T.rule.heat.length s.h.cap, .slice s.w.a T.rule.wet.length s.w.cap, .int .i64 T.rule.own, .int .i64 T.rule.feed, .int .i64 T.rule.g0, .int .i64 T.rule.g1, .int .i64 T.rule.g2, .int .i64 T.rule.lost, .int .i64 T.first, .slice s.d.a T.days.length s.d.cap, .int .i64 T.start.lo, .int .i64 T.start.hi, .slice s.t.a T.tests.length s.t.cap]] W fun e w' => e = .returned (.agg #[.int .i64 0, .int .i64 0, .int .i64 0]) ∧ Below W.heap.size W w') := Lib.hid fun W hW => by
    have h := task_any (hT.below hW)
    rw [(task_ok h0).2] at h; exact h
  have hnd := HK.out.nd
  have HT := Lib.hid hT
  clear hT h0
  obtain ⟨sh, sw, ⟨da, dc⟩, st⟩ := s
  go_enter Try.func50, Try.ntmps50
  go_wp2_with (fail)
  (with_reducible refine (HC.out _ ?_).mono ?_)
  · repeat' (first | exact Below.refl _ _ | assumption | refine below_drewN ?_ _ | refine Below.drew ?_ | refine Below.alloc ?_ (by first | assumption | omega | (simp <;> omega)) _ | refine Below.setCell ?_ (by first | assumption | omega | (simp <;> omega)) _ | refine Ext2.on (by assumption) ?_)
  rintro e w1 ⟨rfl, hb1⟩
  have b0 : w1.heap[w.heap.size]? = some (Obj.cells #[.slice (TSl.mk sh sw ⟨da, dc⟩ st).h.a T.rule.heat.length (TSl.mk sh sw ⟨da, dc⟩ st).h.cap, .slice (TSl.mk sh sw ⟨da, dc⟩ st).w.a T.rule.wet.length (TSl.mk sh sw ⟨da, dc⟩ st).w.cap, .int .i64 T.rule.own, .int .i64 T.rule.feed, .int .i64 T.rule.g0, .int .i64 T.rule.g1, .int .i64 T.rule.g2, .int .i64 T.rule.lost, .int .i64 T.first, .slice (TSl.mk sh sw ⟨da, dc⟩ st).d.a T.days.length (TSl.mk sh sw ⟨da, dc⟩ st).d.cap, .int .i64 T.start.lo, .int .i64 T.start.hi, .slice (TSl.mk sh sw ⟨da, dc⟩ st).t.a T.tests.length (TSl.mk sh sw ⟨da, dc⟩ st).t.cap] 31) := below_blk hb1 (by repeat' (first | (with_reducible assumption) | (with_reducible refine blk_set_ne ?_ ?_) | (with_reducible exact blk_new _ _) | (with_reducible refine blk_new' _ _ (by first | (with_reducible rfl) | (simp; done) | (simp <;> omega))) | (with_reducible refine blk_alloc ?_ _) | (with_reducible refine blk_drew ?_) | (with_reducible refine blk_drewN ?_ _) | (with_reducible refine Ext2.blk (by assumption) ?_) | omega | (simp <;> omega) | exact blk_set (by assumption) _ _)) (by simp)
  have hB1 : Below w.heap.size w w1 := Below.trans (by repeat' (first | exact Below.refl _ _ | assumption | refine below_drewN ?_ _ | refine Below.drew ?_ | refine Below.alloc ?_ (by first | assumption | omega | (simp <;> omega)) _ | refine Below.setCell ?_ (by first | assumption | omega | (simp <;> omega)) _ | refine Ext2.on (by assumption) ?_)) (hb1.mono (by simp))
  have hz := blk_lt b0
  have q0c := cell_blk b0
  have q0f := frz_blk b0
  have e1 : ¬ w1.heap.size = w.heap.size := by omega
  have e2 : ¬ w.heap.size = w1.heap.size := by omega
  have e3 : w.heap.size < w1.heap.size := by omega
  go_wp2_with (fail)
  have hK0 : ∀ v, (Obj.cells #[.slice sh.a T.rule.heat.length sh.cap, .slice sw.a T.rule.wet.length sw.cap, .int .i64 T.rule.own, .int .i64 T.rule.feed, .int .i64 T.rule.g0, .int .i64 T.rule.g1, .int .i64 T.rule.g2, .int .i64 T.rule.lost,
  .slice sh.a T.rule.heat.length sh.cap, .slice sw.a T.rule.wet.length sw.cap, .int .i64 T.rule.own, .int .i64 T.rule.feed, .int .i64 T.rule.g0, .int .i64 T.rule.g1, .int .i64 T.rule.g2, .int .i64 T.rule.lost, .int .i64 T.first, .slice da T.days.length dc, .int .i64 T.start.lo, .int .i64 T.start.hi, .slice st.a T.tests.length st.cap, v] 108 (0, 0)) = reelV T ⟨sh, sw, ⟨da, dc⟩, st⟩ v := fun _ => rfl
  have HR0 := Lib.hid hK0
  clear hK0 hb1 q0c q0f e1 e2
  go_loopw [23] (fun u wr => ∃ (i : Nat) (v : Value), u = .int .i64 (i : Int) ∧ i ≤ T.days.length ∧ Below w.heap.size w wr ∧ wr.heap[w.heap.size]? = some (Obj.cells #[.slice (TSl.mk sh sw ⟨da, dc⟩ st).h.a T.rule.heat.length (TSl.mk sh sw ⟨da, dc⟩ st).h.cap, .slice (TSl.mk sh sw ⟨da, dc⟩ st).w.a T.rule.wet.length (TSl.mk sh sw ⟨da, dc⟩ st).w.cap, .int .i64 T.rule.own, .int .i64 T.rule.feed, .int .i64 T.rule.g0, .int .i64 T.rule.g1, .int .i64 T.rule.g2, .int .i64 T.rule.lost, .int .i64 T.first, .slice (TSl.mk sh sw ⟨da, dc⟩ st).d.a T.days.length (TSl.mk sh sw ⟨da, dc⟩ st).d.cap, .int .i64 T.start.lo, .int .i64 T.start.hi, .slice (TSl.mk sh sw ⟨da, dc⟩ st).t.a T.tests.length (TSl.mk sh sw ⟨da, dc⟩ st).t.cap] 31) ∧ wr.heap[w1.heap.size + 1]? = some (reelV T ⟨sh, sw, ⟨da, dc⟩, st⟩ v) ∧ OwnR wr (w1.heap.size + 1 + 1) 28 2 v i (spC (spanD (forces T)))) (fun u _ => T.days.length - (intOf u).toNat)
  case atStart =>
    refine ⟨0, .slice none 0 0, rfl, by omega, by repeat' (first | exact Below.refl _ _ | assumption | refine below_drewN ?_ _ | refine Below.drew ?_ | refine Below.alloc ?_ (by first | assumption | omega | (simp <;> omega)) _ | refine Below.setCell ?_ (by first | assumption | omega | (simp <;> omega)) _ | refine Ext2.on (by assumption) ?_), ?_, ?_, own_nil _ _ _ _ _⟩
    · repeat' (first | (with_reducible assumption) | (with_reducible refine blk_set_ne ?_ ?_) | (with_reducible exact blk_new _ _) | (with_reducible refine blk_new' _ _ (by first | (with_reducible rfl) | (simp; done) | (simp <;> omega))) | (with_reducible refine blk_alloc ?_ _) | (with_reducible refine blk_drew ?_) | (with_reducible refine blk_drewN ?_ _) | (with_reducible refine Ext2.blk (by assumption) ?_) | omega | (simp <;> omega) | exact blk_set (by assumption) _ _)
    · rw [← HR0.out]; repeat' (first | (with_reducible assumption) | (with_reducible refine blk_set_ne ?_ ?_) | (with_reducible exact blk_new _ _) | (with_reducible refine blk_new' _ _ (by first | (with_reducible rfl) | (simp; done) | (simp <;> omega))) | (with_reducible refine blk_alloc ?_ _) | (with_reducible refine blk_drew ?_) | (with_reducible refine blk_drewN ?_ _) | (with_reducible refine Ext2.blk (by assumption) ?_) | omega | (simp <;> omega) | exact blk_set (by assumption) _ _)
  case round =>
    obtain ⟨i, v, rfl, hi, hBr, c0, cB, hO⟩ := hrel
    have hzB := blk_lt cB
    have hz0 := blk_lt c0
    have hne0 : ¬ w.heap.size = wr.heap.size := by omega
    by_cases hlt : i < T.days.length
    · obtain ⟨db, doff, hda, hrow⟩ := HT.out.days.row (by omega : 0 < T.days.length) (by omega)
      obtain rfl : da = some ⟨db, doff, none⟩ := hda
      have hdc1 := HT.out.days.le
      have hdc2 := HT.out.days.max
      dsimp only at hdc1 hdc2
      obtain ⟨d0, d1, d2, d3⟩ := (hrow.below hBr).four (i := i) hlt
      have hdo := HK.out.days i hlt
      obtain ⟨d, hd⟩ : ∃ d, d = dayD T.days i := ⟨_, rfl⟩
      simp only [dayC, ← hd] at d0 d1 d2 d3
      rw [← hd] at hdo
      have hf := force_at (T := T) hlt
      rw [← hd] at hf
      obtain ⟨f, hf'⟩ : ∃ f, f = strength T.rule d := ⟨_, rfl⟩
      have HX : Hid (∀ W, Below w.heap.size w W → Calls Try.prog 70 #[.agg #[.slice sh.a T.rule.heat.length sh.cap, .slice sw.a T.rule.wet.length sw.cap, .int .i64 T.rule.own, .int .i64 T.rule.feed, .int .i64 T.rule.g0, .int .i64 T.rule.g1, .int .i64 T.rule.g2, .int .i64 T.rule.lost], .agg #[.int .i64 d.tlo, .int .i64 d.thi, .int .i64 d.dlo, .int .i64 d.dhi]] W fun e w' => e = .returned (.agg #[.int .i64 f.lo, .int .i64 f.hi]) ∧ Below W.heap.size W w') := Lib.hid fun W hW => by rw [hf']; exact strength_any (HT.out.rule.below hW) HK.out.rule hdo
      rw [← hf'] at hf
      have HF := Lib.hid hf; have HO := Lib.hid hO; have HBR := Lib.hid hBr; have HCB := Lib.hid cB
      have hlt' : (i : Int) < (T.days.length : Int) := by omega
      have hi0 : (0 : Int) ≤ (i : Int) := by omega
      clear hf hf' hd hdo hrow hO
      have q0c := cell_blk c0
      have q0f := frz_blk c0
      have qBc := cell_blk cB
      have qBf := frz_blk cB
      go_wp2_with (fail)
      refine wp_name ?_
      intro wn hwn
      have n0 : wn.heap[w.heap.size]? = some (Obj.cells #[.slice (TSl.mk sh sw ⟨some ⟨db, doff, none⟩, dc⟩ st).h.a T.rule.heat.length (TSl.mk sh sw ⟨some ⟨db, doff, none⟩, dc⟩ st).h.cap, .slice (TSl.mk sh sw ⟨some ⟨db, doff, none⟩, dc⟩ st).w.a T.rule.wet.length (TSl.mk sh sw ⟨some ⟨db, doff, none⟩, dc⟩ st).w.cap, .int .i64 T.rule.own, .int .i64 T.rule.feed, .int .i64 T.rule.g0, .int .i64 T.rule.g1, .int .i64 T.rule.g2, .int .i64 T.rule.lost, .int .i64 T.first, .slice (TSl.mk sh sw ⟨some ⟨db, doff, none⟩, dc⟩ st).d.a T.days.length (TSl.mk sh sw ⟨some ⟨db, doff, none⟩, dc⟩ st).d.cap, .int .i64 T.start.lo, .int .i64 T.start.hi, .slice (TSl.mk sh sw ⟨some ⟨db, doff, none⟩, dc⟩ st).t.a T.tests.length (TSl.mk sh sw ⟨some ⟨db, doff, none⟩, dc⟩ st).t.cap] 31) := by rw [hwn]; repeat' (first | (with_reducible assumption) | (with_reducible refine blk_set_ne ?_ ?_) | (with_reducible exact blk_new _ _) | (with_reducible refine blk_new' _ _ (by first | (with_reducible rfl) | (simp; done) | (simp <;> omega))) | (with_reducible refine blk_alloc ?_ _) | (with_reducible refine blk_drew ?_) | (with_reducible refine blk_drewN ?_ _) | (with_reducible refine Ext2.blk (by assumption) ?_) | omega | (simp <;> omega) | exact blk_set (by assumption) _ _)
      have nB : wn.heap[w1.heap.size + 1]? = some (reelV T ⟨sh, sw, ⟨some ⟨db, doff, none⟩, dc⟩, st⟩ v) := by rw [hwn]; repeat' (first | (with_reducible assumption) | (with_reducible refine blk_set_ne ?_ ?_) | (with_reducible exact blk_new _ _) | (with_reducible refine blk_new' _ _ (by first | (with_reducible rfl) | (simp; done) | (simp <;> omega))) | (with_reducible refine blk_alloc ?_ _) | (with_reducible refine blk_drew ?_) | (with_reducible refine blk_drewN ?_ _) | (with_reducible refine Ext2.blk (by assumption) ?_) | omega | (simp <;> omega) | exact blk_set (by assumption) _ _)
      have n7 : wn.heap[wr.heap.size]? = some (Obj.cells #[.int .i64 d.tlo, .int .i64 d.thi, .int .i64 d.dlo, .int .i64 d.dhi] 48) := by rw [hwn]; exact blk_new _ _
      have hBn : Below w.heap.size w wn := by rw [hwn]; repeat' (first | exact Below.refl _ _ | assumption | refine below_drewN ?_ _ | refine Below.drew ?_ | refine Below.alloc ?_ (by first | assumption | omega | (simp <;> omega)) _ | refine Below.setCell ?_ (by first | assumption | omega | (simp <;> omega)) _ | refine Ext2.on (by assumption) ?_)
      have hAn : Above (w1.heap.size + 1 + 1) wr wn := by rw [hwn]; repeat' (first | (with_reducible assumption) | (with_reducible exact Above.refl _ _) | (with_reducible refine Above.set ?_ (by omega)) | (with_reducible refine Above.alloc ?_ _) | (with_reducible refine Above.ext ?_ (by assumption)))
      have hzn := hAn.1
      clear q0c q0f qBc qBf hwn d0 d1 d2 d3
      have q0c := cell_blk n0
      have q0f := frz_blk n0
      have qBc := cell_blk nB
      have qBf := frz_blk nB
      have q7c := cell_blk n7
      have q7f := frz_blk n7
      refine region_ev [0] [1, 2, 3, 4, 5, 6, 7, 8] [(9, 36, none)] [10, 11, 12, 13] (by kernel_rfl) (by kernel_rfl) (by intro c a d v w h; cases d <;> exact h) ?_
      simp only [picks, List.drop_succ_cons, List.drop_zero]
      repeat (refine wpQ0_step (fun K hK => ?_); go_simp; (refine hK _ ?_; clear hK K))
      refine wpQ0_nil ?_
      repeat (refine wpQ2_step (fun K hK => ?_); go_simp; first | (refine hK _ ?_; clear hK K) | (apply Exists.intro; refine ⟨fun x => ?_, hK _ ?_⟩; (first | (with_reducible exact HX.out x.1 (x.2.on hBn))); clear hK K))
      refine wpQ2_nil ?_
      refine Events.lay1 (fun b => .slice (some ⟨b, 0, none⟩) 1 1) (.cells #[.int .i64 f.lo, .int .i64 f.hi] 28 (0, 0)) ⟨_, rfl, rfl, rfl, fun W => by kernel_rfl⟩ fun b9 w2 hb9 hg2 nb9 => ?_
      simp only [picks, List.drop_succ_cons, List.drop_zero]
      have c02 := hg2.blk n0
      have cB2 := hg2.blk nB
      have hB2 := hg2.on hBn
      have hA2 := hAn.ext hg2
      have hO2 := HO.out.above hA2
      have hzb := hg2.size
      clear hg2 q0c q0f qBc qBf q7c q7f n0 nB n7
      have HO2 := Lib.hid hO2
      go_wp2_with (at_builtin; refine app_one [.int .i64 f.lo, .int .i64 f.hi] elSpan rfl _ _ rfl (w1.heap.size + 1 + 1) rfl HO2.out b9 1 rfl nb9 (by simp [Value.oneCell']) (by omega) (by have := hA2.1; omega) ?_; intro v' w3 hO3 hg3; obtain ⟨⟨a', cp'⟩, rfl, -⟩ := hO3.sl; dsimp only at hO3; have rB := app_keeps HO2.out hg3 cB2 (by omega); have rBc := cell_blk rB; have rBf := frz_blk rB)
      have hB3 := app_below hB2 HO2.out (by omega) (by have := hA2.1; omega) hg3
      have r0 := app_keeps HO2.out hg3 c02 (by omega)
      have hO4 : OwnR w3 (w1.heap.size + 1 + 1) 28 2 (.slice a' (i + 1) cp') (i + 1) (spC (spanD (forces T))) := hO3.congr fun m q hm hq => by
        have hq' : q < 2 := hq
        rcases Nat.lt_or_ge m i with h | h
        · rw [upd_lt h]
        · obtain rfl : m = i := by omega
          rw [upd_at]
          rcases (by omega : q = 0 ∨ q = 1) with rfl | rfl <;> simp only [spC, HF.out] <;> rfl
      go_roundw
      case rel =>
        refine ⟨i + 1, .slice a' (i + 1) cp', by go_num, by omega, below_set hB3 (by omega), ?_, ?_, ?_⟩
        · repeat' (first | (with_reducible assumption) | (with_reducible refine blk_set_ne ?_ ?_) | (with_reducible exact blk_new _ _) | (with_reducible refine blk_new' _ _ (by first | (with_reducible rfl) | (simp; done) | (simp <;> omega))) | (with_reducible refine blk_alloc ?_ _) | (with_reducible refine blk_drew ?_) | (with_reducible refine blk_drewN ?_ _) | (with_reducible refine Ext2.blk (by assumption) ?_) | omega | (simp <;> omega) | exact blk_set (by assumption) _ _)
        · exact Eq.trans (blk_set rB _ _) rfl
        · exact hO4.above (Above.set (Above.refl _ _) (by omega))
      case measure => simp [intOf]; omega
    · have hii : i = T.days.length := by omega
      subst hii
      have HO := Lib.hid hO; have HCB := Lib.hid cB; have HBR := Lib.hid hBr
      clear hO cB c0
      go_wp2_with (fail)
      refine bodyPost_ret (v := .tuple #[.pointer (some ⟨w1.heap.size + 1, 0, none⟩), .int .i64 0]) (by simp [results, Try.results50, go_sem]) rfl ⟨⟨w1.heap.size + 1, v, rfl, by omega, HCB.out, HO.out⟩, hBr⟩
end Go.Proofs.Ytfjbgcaogffiaaa
