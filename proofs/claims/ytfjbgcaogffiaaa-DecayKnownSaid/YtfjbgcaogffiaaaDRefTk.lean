/-
  The reference's on: the levels on a morning that follow from those on an earlier one.
  The reference's order: the tests by day.
  The reference's keeping: the levels that keep to a test.
  The reference's taken: the tests that are taken, and the struck ones.
-/
import Derived.Test.YtfjbgcaogffiaaaDHeap
import Derived.Test.YtfjbgcaogffiaaaDRefC
import Derived.Test.YtfjbgcaogffiaaaDRef4
import Derived.Test.YtfjbgcaogffiaaaDOk
import Derived.Test.YtfjbgcaogffiaaaDOwn
import Derived.Test.YtfjbgcaogffiaaaDPlainA
import Derived.BigRegion
import Derived.RegionTactic
import Derived.Test.YtfjbgcaogffiaaaDKeep
namespace Go.Proofs.Ytfjbgcaogffiaaa
open Go.RowKit D
set_option linter.unusedVariables false
set_option linter.unusedSimpArgs false
attribute [local go_sem high] run_minI run_maxI
attribute [local go_sem] upon2 cls_cell cls_frozen forall_const exists_eq_left'
theorem force_at {T : Task} {i : Nat} (h : i < T.days.length) : spanD (forces T) i = strength T.rule (dayD T.days i) := by
  simp [spanD, forces, dayD, List.getD_eq_getElem?_getD, h]
def LevOk (n : Span) : Prop := (0 ≤ n.lo ∧ n.lo ≤ 1000000) ∧ (0 ≤ n.hi ∧ n.hi ≤ 1000000)
theorem least_rng {R : Rule} {s : Span} (h : GrowOk R s) {n : Int} (n0 : 0 ≤ n) (n1 : n ≤ 1000000) : n ≤ least R s n ∧ least R s n ≤ 1000000 := by
  have hb := (grow_bounds h n0 n1).2.1.1
  have := Int.ediv_nonneg hb (show (0 : Int) ≤ 1000000000 by omega)
  rw [least]; omega
theorem most_rng {R : Rule} {s : Span} (h : GrowOk R s) {n : Int} (n0 : 0 ≤ n) (n1 : n ≤ 1000000) : n ≤ most R s n ∧ most R s n ≤ 1000000 := by
  have hb := (grow_bounds h n0 n1).2.2.1
  have := Int.ediv_nonneg (a := (R.own * 1000000 + n * R.feed) * s.hi + 999999999) (by omega) (show (0 : Int) ≤ 1000000000 by omega)
  rw [most]; omega
theorem grow_lev {R : Rule} {s : Span} (h : GrowOk R s) {n : Span} (hn : LevOk n) : LevOk (grow R s n) := by
  have h1 := least_rng h hn.1.1 hn.1.2
  have h2 := most_rng h hn.2.1 hn.2.2
  obtain ⟨⟨a, b⟩, c, d⟩ := hn
  refine ⟨⟨?_, h1.2⟩, ?_, h2.2⟩ <;> simp only [grow] <;> omega
theorem growOk_at {T : Task} (hk : TaskOk T) {i : Nat} (h : i < T.days.length) : GrowOk T.rule (spanD (forces T) i) := by
  rw [force_at h]; exact grow_ok hk.rule (hk.days i h)
theorem onF_lev {T : Task} (hk : TaskOk T) {n : Span} (hn : LevOk n) {i : Nat} : ∀ (k : Nat), i + k ≤ T.days.length → LevOk (onF T.rule (forces T) n i k)
  | 0, _ => hn
  | k + 1, h => grow_lev (growOk_at hk (by omega)) (onF_lev hk hn k (by omega))
set_option maxRecDepth 100000 in
set_option maxHeartbeats 3200000 in
theorem onR_any {T : Task} {s : TSl} {n : Span} {i j : Nat} {w : World} (hT : TaskAt w T s) (hk : TaskOk T) (hn : LevOk n) (hij : i ≤ j) (hj : j ≤ T.days.length) :
    Calls Try.prog 89 #[.agg #[.slice s.h.a T.rule.heat.length s.h.cap, .slice s.w.a T.rule.wet.length s.w.cap, .int .i64 T.rule.own, .int .i64 T.rule.feed, .int .i64 T.rule.g0, .int .i64 T.rule.g1, .int .i64 T.rule.g2, .int .i64 T.rule.lost, .int .i64 T.first, .slice s.d.a T.days.length s.d.cap, .int .i64 T.start.lo, .int .i64 T.start.hi, .slice s.t.a T.tests.length s.t.cap], .agg #[.int .i64 n.lo, .int .i64 n.hi], .int .i64 (i : Int), .int .i64 (j : Int)] w fun e w' => e = .returned (.agg #[.int .i64 (on T.rule (forces T) n i j).lo, .int .i64 (on T.rule (forces T) n i j).hi]) ∧ Below w.heap.size w w' := by
  have hd := hk.nd
  obtain ⟨sh, sw, ⟨da, dc⟩, st_⟩ := s
  have hrow : i < j → ∃ b off, da = some ⟨b, off, none⟩ ∧ RowC w b off 4 T.days.length (dayC T.days) := fun h => hT.days.row (by omega) (by omega)
  have hcap : T.days.length ≤ dc ∧ dc ≤ 9223372036854775807 := ⟨hT.days.le, hT.days.max⟩
  obtain ⟨hcap1, hcap2⟩ := hcap
  have HT := Lib.hid hT; have HK := Lib.hid hk; have HN := Lib.hid hn; have HR := Lib.hid hrow
  clear hT hk hn hrow
  rcases Nat.lt_or_ge i j with hij2 | hij2
  case inr =>
    obtain rfl : i = j := by omega
    clear HR HT
    go_enter Try.func89, Try.ntmps89
    go_wp2_with (fail)
    go_loopw [9] (fun v wr => v = .int .i64 (i : Int) ∧ Below w.heap.size w wr ∧ wr.heap[w.heap.size + 1]? = some (Obj.cells #[.int .i64 n.lo, .int .i64 n.hi] 28) ∧ wr.heap[w.heap.size + 1 + 1]? = some (Obj.cells #[.int .i64 0, .int .i64 0] 28)) (fun _ _ => 0)
    case atStart =>
      refine ⟨rfl, by repeat' (first | exact Below.refl _ _ | assumption | refine below_drewN ?_ _ | refine Below.drew ?_ | refine Below.alloc ?_ (by first | assumption | omega | (simp <;> omega)) _ | refine Below.setCell ?_ (by first | assumption | omega | (simp <;> omega)) _ | refine Ext2.on (by assumption) ?_), ?_, ?_⟩
      · repeat' (first | (with_reducible assumption) | (with_reducible refine blk_set_ne ?_ ?_) | (with_reducible exact blk_new _ _) | (with_reducible refine blk_new' _ _ (by first | (with_reducible rfl) | (simp; done) | (simp <;> omega))) | (with_reducible refine blk_alloc ?_ _) | (with_reducible refine blk_drew ?_) | (with_reducible refine blk_drewN ?_ _) | (with_reducible refine Ext2.blk (by assumption) ?_) | omega | (simp <;> omega) | exact blk_set (by assumption) _ _)
      · repeat' (first | (with_reducible assumption) | (with_reducible refine blk_set_ne ?_ ?_) | (with_reducible exact blk_new _ _) | (with_reducible refine blk_new' _ _ (by first | (with_reducible rfl) | (simp; done) | (simp <;> omega))) | (with_reducible refine blk_alloc ?_ _) | (with_reducible refine blk_drew ?_) | (with_reducible refine blk_drewN ?_ _) | (with_reducible refine Ext2.blk (by assumption) ?_) | omega | (simp <;> omega) | exact blk_set (by assumption) _ _)
    case round =>
      obtain ⟨rfl, hB, b1, b2⟩ := hrel
      have hz0 := blk_lt b2
      have q1c := cell_blk b1
      have q1f := frz_blk b1
      have q2c := cell_blk b2
      have q2f := frz_blk b2
      go_wp2_with (fail)
      refine bodyPost_ret (v := .agg #[.int .i64 n.lo, .int .i64 n.hi]) ?_ rfl ⟨?_, by repeat' (first | exact Below.refl _ _ | assumption | refine below_drewN ?_ _ | refine Below.drew ?_ | refine Below.alloc ?_ (by first | assumption | omega | (simp <;> omega)) _ | refine Below.setCell ?_ (by first | assumption | omega | (simp <;> omega)) _ | refine Ext2.on (by assumption) ?_)⟩
      · simp [results, Try.results89, go_sem, q2c, q2f]
      rw [on, Nat.sub_self]; rfl
  obtain ⟨db, doff, rfl, hrow⟩ := HR.out hij2
  have HR := Lib.hid hrow; clear hrow
  go_enter Try.func89, Try.ntmps89
  go_wp2_with (fail)
  go_loopw [9] (fun v wr => ∃ k : Nat, v = .int .i64 (k : Int) ∧ i ≤ k ∧ k ≤ j ∧ Below w.heap.size w wr ∧ wr.heap[w.heap.size]? = some (Obj.cells #[.slice (TSl.mk sh sw ⟨some ⟨db, doff, none⟩, dc⟩ st_).h.a T.rule.heat.length (TSl.mk sh sw ⟨some ⟨db, doff, none⟩, dc⟩ st_).h.cap, .slice (TSl.mk sh sw ⟨some ⟨db, doff, none⟩, dc⟩ st_).w.a T.rule.wet.length (TSl.mk sh sw ⟨some ⟨db, doff, none⟩, dc⟩ st_).w.cap, .int .i64 T.rule.own, .int .i64 T.rule.feed, .int .i64 T.rule.g0, .int .i64 T.rule.g1, .int .i64 T.rule.g2, .int .i64 T.rule.lost, .int .i64 T.first, .slice (TSl.mk sh sw ⟨some ⟨db, doff, none⟩, dc⟩ st_).d.a T.days.length (TSl.mk sh sw ⟨some ⟨db, doff, none⟩, dc⟩ st_).d.cap, .int .i64 T.start.lo, .int .i64 T.start.hi, .slice (TSl.mk sh sw ⟨some ⟨db, doff, none⟩, dc⟩ st_).t.a T.tests.length (TSl.mk sh sw ⟨some ⟨db, doff, none⟩, dc⟩ st_).t.cap] 31) ∧
      wr.heap[w.heap.size + 1]? = some (Obj.cells #[.int .i64 (onF T.rule (forces T) n i (k - i)).lo, .int .i64 (onF T.rule (forces T) n i (k - i)).hi] 28) ∧ wr.heap[w.heap.size + 1 + 1]? = some (Obj.cells #[.int .i64 0, .int .i64 0] 28)) (fun v _ => j - (intOf v).toNat)
  case atStart =>
    refine ⟨i, rfl, by omega, by omega, by repeat' (first | exact Below.refl _ _ | assumption | refine below_drewN ?_ _ | refine Below.drew ?_ | refine Below.alloc ?_ (by first | assumption | omega | (simp <;> omega)) _ | refine Below.setCell ?_ (by first | assumption | omega | (simp <;> omega)) _ | refine Ext2.on (by assumption) ?_), ?_, ?_, ?_⟩
    · repeat' (first | (with_reducible assumption) | (with_reducible refine blk_set_ne ?_ ?_) | (with_reducible exact blk_new _ _) | (with_reducible refine blk_new' _ _ (by first | (with_reducible rfl) | (simp; done) | (simp <;> omega))) | (with_reducible refine blk_alloc ?_ _) | (with_reducible refine blk_drew ?_) | (with_reducible refine blk_drewN ?_ _) | (with_reducible refine Ext2.blk (by assumption) ?_) | omega | (simp <;> omega) | exact blk_set (by assumption) _ _)
    · rw [Nat.sub_self]; simp only [onF]; repeat' (first | (with_reducible assumption) | (with_reducible refine blk_set_ne ?_ ?_) | (with_reducible exact blk_new _ _) | (with_reducible refine blk_new' _ _ (by first | (with_reducible rfl) | (simp; done) | (simp <;> omega))) | (with_reducible refine blk_alloc ?_ _) | (with_reducible refine blk_drew ?_) | (with_reducible refine blk_drewN ?_ _) | (with_reducible refine Ext2.blk (by assumption) ?_) | omega | (simp <;> omega) | exact blk_set (by assumption) _ _)
    · repeat' (first | (with_reducible assumption) | (with_reducible refine blk_set_ne ?_ ?_) | (with_reducible exact blk_new _ _) | (with_reducible refine blk_new' _ _ (by first | (with_reducible rfl) | (simp; done) | (simp <;> omega))) | (with_reducible refine blk_alloc ?_ _) | (with_reducible refine blk_drew ?_) | (with_reducible refine blk_drewN ?_ _) | (with_reducible refine Ext2.blk (by assumption) ?_) | omega | (simp <;> omega) | exact blk_set (by assumption) _ _)
  case round =>
    obtain ⟨k, rfl, hik, hkj, hB, b0, b1, b2⟩ := hrel
    have hz0 := blk_lt b2
    have q0c := cell_blk b0
    have q0f := frz_blk b0
    have q1c := cell_blk b1
    have q1f := frz_blk b1
    have q2c := cell_blk b2
    have q2f := frz_blk b2
    by_cases hlt : k < j
    · obtain ⟨n', hn'⟩ : ∃ n', n' = onF T.rule (forces T) n i (k - i) := ⟨_, rfl⟩
      have hl' : LevOk n' := by rw [hn']; exact onF_lev HK.out HN.out (k - i) (by omega)
      have hstep : onF T.rule (forces T) n i (k + 1 - i) = grow T.rule (strength T.rule (dayD T.days k)) n' := by
        rw [show k + 1 - i = (k - i) + 1 by omega, onF, hn', show i + (k - i) = k by omega, force_at (by omega)]
      rw [← hn'] at b1 q1c
      have hg := growOk_at HK.out (i := k) (by omega)
      rw [force_at (by omega)] at hg
      have hdo := HK.out.days k (by omega)
      obtain ⟨d, hd'⟩ : ∃ d, d = dayD T.days k := ⟨_, rfl⟩
      obtain ⟨c0, c1, c2, c3⟩ := (HR.out.below hB).four (i := k) (by omega)
      simp only [dayC] at c0 c1 c2 c3
      rw [← hd'] at hstep hg hdo c0 c1 c2 c3
      obtain ⟨st, hst⟩ : ∃ st, st = strength T.rule d := ⟨_, rfl⟩
      rw [← hst] at hstep hg
      have HS := Lib.hid hstep; have HG := Lib.hid hg; have HD := Lib.hid hdo; have HL := Lib.hid hl'; have HST := Lib.hid hst
      clear hstep hg hdo hl' hn' hst hd'
      have j0 : (0 : Int) ≤ (k : Int) := by omega
      have j1 : (k : Int) < (T.days.length : Int) := by omega
      have hlt' : (k : Int) < (j : Int) := by omega
      go_wp2_with (fail)
      refine region_skip 9 8 _ 10 (Obj.cells #[.int .i64 0, .int .i64 0] 28) rfl rfl rfl (fun ρ W => by kernel_rfl) (by kernel_rfl) (by kernel_rfl) (by intro c a d v w h; cases d <;> exact h) ?_
      simp only [List.take_succ_cons, List.take_zero, List.drop_succ_cons, List.drop_zero, List.cons_append, List.nil_append, Nat.reduceSub, Nat.reduceAdd]
      have HX : Hid (∀ W, Ext2 wr W → Calls Try.prog 66 #[.agg #[.slice sh.a T.rule.heat.length sh.cap, .slice sw.a T.rule.wet.length sw.cap, .int .i64 T.rule.own, .int .i64 T.rule.feed, .int .i64 T.rule.g0, .int .i64 T.rule.g1, .int .i64 T.rule.g2, .int .i64 T.rule.lost], .agg #[.int .i64 d.tlo, .int .i64 d.thi, .int .i64 d.dlo, .int .i64 d.dhi]] W fun e w' => e = .returned (.agg #[.int .i64 st.lo, .int .i64 st.hi]) ∧ Below W.heap.size W w') := Lib.hid fun W hW => by rw [HST.out]; exact strengthR_any ((HT.out.rule.below hB).below hW) HK.out.rule HD.out
      have C1 := Lib.hid (fun x : Cls (Ext2 wr) => HX.out x.1 x.2)
      repeat (refine wpQ2_step (fun K hK => ?_); go_simp; first | (refine hK _ ?_; clear hK K) | (apply Exists.intro; refine ⟨fun x => ?_, hK _ ?_⟩; (first | (with_reducible exact C1.out x)); clear hK K))
      refine wpQ2_nil ?_
      intro b3 w1 hb3 hg1 nb
      have k0 := hg1.blk b0; have k1 := hg1.blk b1; have k2 := hg1.blk b2
      clear q0c q0f q1c q1f q2c q2f c0 c1 c2 c3
      have q0c := cell_blk k0
      have q0f := frz_blk k0
      have q1c := cell_blk k1
      have q1f := frz_blk k1
      have q3c := cell_blk nb
      have q3f := frz_blk nb
      have hB1 := hg1.on hB
      have hz1 := hg1.size
      have n31 : ¬ b3 = w.heap.size := by omega
      have n32 : ¬ b3 = w.heap.size + 1 := by omega
      have n33 : ¬ b3 = w.heap.size + 1 + 1 := by omega
      go_wp2_with (fail)
      refine wp_name ?_
      intro w2 h2
      have m0 : w2.heap[w.heap.size]? = some (Obj.cells #[.slice (TSl.mk sh sw ⟨some ⟨db, doff, none⟩, dc⟩ st_).h.a T.rule.heat.length (TSl.mk sh sw ⟨some ⟨db, doff, none⟩, dc⟩ st_).h.cap, .slice (TSl.mk sh sw ⟨some ⟨db, doff, none⟩, dc⟩ st_).w.a T.rule.wet.length (TSl.mk sh sw ⟨some ⟨db, doff, none⟩, dc⟩ st_).w.cap, .int .i64 T.rule.own, .int .i64 T.rule.feed, .int .i64 T.rule.g0, .int .i64 T.rule.g1, .int .i64 T.rule.g2, .int .i64 T.rule.lost, .int .i64 T.first, .slice (TSl.mk sh sw ⟨some ⟨db, doff, none⟩, dc⟩ st_).d.a T.days.length (TSl.mk sh sw ⟨some ⟨db, doff, none⟩, dc⟩ st_).d.cap, .int .i64 T.start.lo, .int .i64 T.start.hi, .slice (TSl.mk sh sw ⟨some ⟨db, doff, none⟩, dc⟩ st_).t.a T.tests.length (TSl.mk sh sw ⟨some ⟨db, doff, none⟩, dc⟩ st_).t.cap] 31) := by rw [h2]; repeat' (first | (with_reducible assumption) | (with_reducible refine blk_set_ne ?_ ?_) | (with_reducible exact blk_new _ _) | (with_reducible refine blk_new' _ _ (by first | (with_reducible rfl) | (simp; done) | (simp <;> omega))) | (with_reducible refine blk_alloc ?_ _) | (with_reducible refine blk_drew ?_) | (with_reducible refine blk_drewN ?_ _) | (with_reducible refine Ext2.blk (by assumption) ?_) | omega | (simp <;> omega) | exact blk_set (by assumption) _ _)
      have m1 : w2.heap[w.heap.size + 1]? = some (Obj.cells #[.int .i64 n'.lo, .int .i64 n'.hi] 28) := by rw [h2]; repeat' (first | (with_reducible assumption) | (with_reducible refine blk_set_ne ?_ ?_) | (with_reducible exact blk_new _ _) | (with_reducible refine blk_new' _ _ (by first | (with_reducible rfl) | (simp; done) | (simp <;> omega))) | (with_reducible refine blk_alloc ?_ _) | (with_reducible refine blk_drew ?_) | (with_reducible refine blk_drewN ?_ _) | (with_reducible refine Ext2.blk (by assumption) ?_) | omega | (simp <;> omega) | exact blk_set (by assumption) _ _)
      have m2 : w2.heap[w.heap.size + 1 + 1]? = some (Obj.cells #[.int .i64 0, .int .i64 0] 28) := by rw [h2]; repeat' (first | (with_reducible assumption) | (with_reducible refine blk_set_ne ?_ ?_) | (with_reducible exact blk_new _ _) | (with_reducible refine blk_new' _ _ (by first | (with_reducible rfl) | (simp; done) | (simp <;> omega))) | (with_reducible refine blk_alloc ?_ _) | (with_reducible refine blk_drew ?_) | (with_reducible refine blk_drewN ?_ _) | (with_reducible refine Ext2.blk (by assumption) ?_) | omega | (simp <;> omega) | exact blk_set (by assumption) _ _)
      have m3 : w2.heap[b3]? = some (Obj.cells #[.int .i64 st.lo, .int .i64 st.hi] 28) := by rw [h2]; exact blk_set (blk_set nb _ _) _ _
      have hB2 : Below w.heap.size w w2 := by rw [h2]; exact below_set (below_set hB1 (by omega)) (by omega)
      clear h2 q0c q0f q1c q1f q3c q3f hg1 k0 k1 k2 nb hB1 b0 b1 b2 hB
      have q0c := cell_blk m0
      have q0f := frz_blk m0
      have q1c := cell_blk m1
      have q1f := frz_blk m1
      have q3c := cell_blk m3
      have q3f := frz_blk m3
      have HX1 : Hid (∀ W, Calls Try.prog 57 #[.agg #[.slice sh.a T.rule.heat.length sh.cap, .slice sw.a T.rule.wet.length sw.cap, .int .i64 T.rule.own, .int .i64 T.rule.feed, .int .i64 T.rule.g0, .int .i64 T.rule.g1, .int .i64 T.rule.g2, .int .i64 T.rule.lost], .agg #[.int .i64 st.lo, .int .i64 st.hi], .int .i64 n'.lo] W fun e w' => e = .returned (.int .i64 (least T.rule st n'.lo)) ∧ Below W.heap.size W w') := Lib.hid fun W => least_any HG.out HL.out.1.1 HL.out.1.2 W
      have HX2 : Hid (∀ W, Calls Try.prog 58 #[.agg #[.slice sh.a T.rule.heat.length sh.cap, .slice sw.a T.rule.wet.length sw.cap, .int .i64 T.rule.own, .int .i64 T.rule.feed, .int .i64 T.rule.g0, .int .i64 T.rule.g1, .int .i64 T.rule.g2, .int .i64 T.rule.lost], .agg #[.int .i64 st.lo, .int .i64 st.hi], .int .i64 n'.hi] W fun e w' => e = .returned (.int .i64 (most T.rule st n'.hi)) ∧ Below W.heap.size W w') := Lib.hid fun W => most_any HG.out HL.out.2.1 HL.out.2.2 W
      refine region_take 13 (by kernel_rfl) (by kernel_rfl) (by intro c a d v w h; cases d <;> exact h) ?_
      simp only [List.take_succ_cons, List.take_zero, List.drop_succ_cons, List.drop_zero]
      repeat (refine wpQ2_step (fun K hK => ?_); go_simp; first | (refine hK _ ?_; clear hK K) | (apply Exists.intro; refine ⟨fun x => ?_, hK _ ?_⟩; (first | (with_reducible exact HX1.out x.1) | (with_reducible exact HX2.out x.1)); clear hK K))
      refine wpQ2_nil ?_
      intro w3 hg3
      have k0 := hg3.blk m0; have k1 := hg3.blk m1; have k2 := hg3.blk m2
      have hB3 := hg3.on hB2
      clear q0c q0f q1c q1f q3c q3f m0 m1 m2 m3 hB2 hg3
      have q1c := cell_blk k1
      have q1f := frz_blk k1
      go_wp2_with (fail)
      go_roundw
      case rel =>
        refine ⟨k + 1, by go_num, by omega, by omega, below_set (below_set hB3 (by omega)) (by omega), ?_, ?_, ?_⟩
        · repeat' (first | (with_reducible assumption) | (with_reducible refine blk_set_ne ?_ ?_) | (with_reducible exact blk_new _ _) | (with_reducible refine blk_new' _ _ (by first | (with_reducible rfl) | (simp; done) | (simp <;> omega))) | (with_reducible refine blk_alloc ?_ _) | (with_reducible refine blk_drew ?_) | (with_reducible refine blk_drewN ?_ _) | (with_reducible refine Ext2.blk (by assumption) ?_) | omega | (simp <;> omega) | exact blk_set (by assumption) _ _)
        · rw [HS.out]; exact blk_set (blk_set k1 _ _) _ _
        · repeat' (first | (with_reducible assumption) | (with_reducible refine blk_set_ne ?_ ?_) | (with_reducible exact blk_new _ _) | (with_reducible refine blk_new' _ _ (by first | (with_reducible rfl) | (simp; done) | (simp <;> omega))) | (with_reducible refine blk_alloc ?_ _) | (with_reducible refine blk_drew ?_) | (with_reducible refine blk_drewN ?_ _) | (with_reducible refine Ext2.blk (by assumption) ?_) | omega | (simp <;> omega) | exact blk_set (by assumption) _ _)
      case measure => simp [intOf]; omega
    · obtain rfl : k = j := by omega
      go_wp2_with (fail)
      refine bodyPost_ret (v := .agg #[.int .i64 (onF T.rule (forces T) n i (k - i)).lo, .int .i64 (onF T.rule (forces T) n i (k - i)).hi]) ?_ rfl ⟨?_, by repeat' (first | exact Below.refl _ _ | assumption | refine below_drewN ?_ _ | refine Below.drew ?_ | refine Below.alloc ?_ (by first | assumption | omega | (simp <;> omega)) _ | refine Below.setCell ?_ (by first | assumption | omega | (simp <;> omega)) _ | refine Ext2.on (by assumption) ?_)⟩
      · simp [results, Try.results89, go_sem, q2c, q2f]
      rfl
end Go.Proofs.Ytfjbgcaogffiaaa
namespace Go.Proofs.Ytfjbgcaogffiaaa
open Go.RowKit D
set_option linter.unusedVariables false
set_option linter.unusedSimpArgs false
attribute [local go_sem high] run_minI run_maxI
attribute [local go_sem] upon2 cls_cell cls_frozen forall_const exists_eq_left'
def natC (l : List Nat) (i : Nat) (_ : Nat) : Value := .int .i64 ((l.getD i 0 : Nat) : Int)
theorem elInt : Elem Try.prog 44 3 (.int .i64 0) 1 8 := ⟨by kernel_rfl, by kernel_rfl, rfl, by omega, by omega⟩
theorem insAt_lt {l : List Nat} {m x i : Nat} (hm : m ≤ l.length) (h : i < m) : (insAt l m x).getD i 0 = l.getD i 0 := by
  rw [insAt, List.getD_eq_getElem?_getD, List.getD_eq_getElem?_getD, List.getElem?_append_left (by simp; omega), List.getElem?_take_of_lt h]
theorem insAt_at {l : List Nat} {m x : Nat} (hm : m ≤ l.length) : (insAt l m x).getD m 0 = x := by
  rw [insAt, List.getD_eq_getElem?_getD, List.getElem?_append_right (by simp; omega), show m - (l.take m).length = 0 by simp; omega]; rfl
theorem insAt_gt {l : List Nat} {m x i : Nat} (hm : m ≤ l.length) (h : m ≤ i) : (insAt l m x).getD (i + 1) 0 = l.getD i 0 := by
  rw [insAt, List.getD_eq_getElem?_getD, List.getD_eq_getElem?_getD, List.getElem?_append_right (by simp; omega), show i + 1 - (l.take m).length = (i - m) + 1 by simp; omega, List.getElem?_cons_succ, List.getElem?_drop, show m + (i - m) = i by omega]
theorem slide_eq {d : Nat → Int} {l : List Nat} {x m : Nat} (h1 : m = 0 ∨ ¬ d x < d (l.getD (m - 1) 0)) : ∀ {k : Nat}, m ≤ k → (∀ j, m ≤ j → j < k → d x < d (l.getD j 0)) → slide d l x k = m
  | 0, hk, _ => by have : m = 0 := by omega
                   rw [this]; rfl
  | k + 1, hk, h => by
    rcases Nat.lt_or_ge k m with h2 | h2
    · obtain rfl : m = k + 1 := by omega
      rw [slide, if_neg]
      rcases h1 with h1 | h1
      · omega
      · exact h1
    · rw [slide, if_pos (h k h2 (by omega))]
      exact slide_eq h1 h2 (fun j hj1 hj2 => h j hj1 (by omega))
/-- The exchange of two neighbours. -/
theorem swap_cells {l : List Nat} {m x : Nat} (hm : m + 1 ≤ l.length) (i : Nat) : (if i = m then x else if i = m + 1 then l.getD m 0 else (insAt l (m + 1) x).getD i 0) = (insAt l m x).getD i 0 := by
  by_cases h1 : i = m
  · rw [if_pos h1, h1, insAt_at (by omega)]
  · rw [if_neg h1]
    by_cases h2 : i = m + 1
    · rw [if_pos h2, h2, insAt_gt (by omega) (Nat.le_refl _)]
    · rw [if_neg h2]
      rcases Nat.lt_or_ge i m with h3 | h3
      · rw [insAt_lt hm (by omega), insAt_lt (by omega) h3]
      · obtain ⟨i, rfl⟩ : ∃ i', i = i' + 1 := ⟨i - 1, by omega⟩
        rw [insAt_gt hm (by omega), insAt_gt (by omega) (by omega)]
set_option maxRecDepth 100000 in
set_option maxHeartbeats 3200000 in
theorem orderR_any {s : Sl} {l : List Test} {w : World} (hl : TestsS w s l) (hn : l.length ≤ 20) :
    Calls Try.prog 108 #[.slice s.a l.length s.cap] w fun e w' => (∃ v, e = .returned v ∧ OwnR w' w.heap.size 3 1 v l.length (natC (insSort (fun j => (testD l j).day) l.length))) ∧ Below w.heap.size w w' := by
  obtain ⟨n, hn'⟩ : ∃ n, n = l.length := ⟨_, rfl⟩
  obtain ⟨d, hd⟩ : ∃ d : Nat → Int, d = fun j => (testD l j).day := ⟨_, rfl⟩
  obtain ⟨a, cap⟩ := s
  have hn2 : n ≤ 20 := by rw [hn']; exact hn
  have hc1 : n ≤ cap := by rw [hn']; exact hl.le
  have hc2 : cap ≤ 9223372036854775807 := hl.max
  have hrow : 0 < n → ∃ b off, a = some ⟨b, off, none⟩ ∧ RowC w b off 3 n (testC l) := fun h => by rw [hn'] at h ⊢; exact hl.row h (by omega)
  have hcell : ∀ i, testC l i 0 = .int .i64 (d i) := fun i => by rw [hd]; rfl
  rw [← hd, ← hn'] at *
  simp only [← hn']
  have HR := Lib.hid hrow; have HC := Lib.hid hcell
  clear hl hd hn' hrow hcell
  rcases Nat.eq_zero_or_pos n with h0 | h0
  · subst h0
    clear HR
    go_enter Try.func108, Try.ntmps108
    go_wp2_with (fail)
    refine wp_loop_rounds 1 ?_
    rw [rounds_succ]
    go_wp2_with (fail)
    go_ret
    exact ⟨⟨_, rfl, own_nil _ _ _ _ _⟩, by repeat' (first | exact Below.refl _ _ | assumption | refine below_drewN ?_ _ | refine Below.drew ?_ | refine Below.alloc ?_ (by first | assumption | omega | (simp <;> omega)) _ | refine Below.setCell ?_ (by first | assumption | omega | (simp <;> omega)) _ | refine Ext2.on (by assumption) ?_)⟩
  obtain ⟨b, off, rfl, hr⟩ := HR.out h0
  have HR := Lib.hid hr; clear hr
  go_enter Try.func108, Try.ntmps108
  go_wp2_with (fail)
  go_loopw [3, 4] (fun v i wr => ∃ k : Nat, i = .int .i64 (k : Int) ∧ k ≤ n ∧ Below w.heap.size w wr ∧ OwnR wr w.heap.size 3 1 v k (natC (insSort d k))) (fun _ i _ => n - (intOf i).toNat)
  case atStart => exact ⟨0, rfl, by omega, by repeat' (first | exact Below.refl _ _ | assumption | refine below_drewN ?_ _ | refine Below.drew ?_ | refine Below.alloc ?_ (by first | assumption | omega | (simp <;> omega)) _ | refine Below.setCell ?_ (by first | assumption | omega | (simp <;> omega)) _ | refine Ext2.on (by assumption) ?_), own_nil _ _ _ _ _⟩
  case round =>
    obtain ⟨k, rfl, hk, hB, hO⟩ := hrel
    have HO := Lib.hid hO; clear hO
    by_cases hlt : k < n
    · have hlt' : (k : Int) < (n : Int) := by omega
      go_wp2_with (at_builtin; refine app_one [.int .i64 (k : Int)] elInt rfl _ _ rfl w.heap.size rfl (HO.out.below (below_alloc' _ _)) wr.heap.size 1 rfl (blk_new _ _) (by simp [Value.oneCell']) (by omega) (by have := hB.size; simp; omega) ?_; intro v' w1 hO1 hg1)
      have hB1 := below_app hB HO.out hB.size hg1
      have hz1 := hg1.size; rw [World.size_alloc] at hz1
      rcases hO1.forms with ⟨_, h⟩ | ⟨g, cp, rfl, hbg, hcp1, hcp2, -, -, -⟩
      · omega
      have hO2 : OwnR w1 w.heap.size 3 1 (.slice (some ⟨g, 0, none⟩) (k + 1) cp) (k + 1) (natC (insAt (insSort d k) k k)) := hO1.congr fun i j hi hj => by
        have hk' : k ≤ (insSort d k).length := by rw [insSort_len]; omega
        replace hj : j < 1 := by simpa using hj
        rcases Nat.lt_or_ge i k with h | h
        · rw [upd_lt h]; simp only [natC]; rw [insAt_lt hk' h]
        · obtain rfl : i = k := by omega
          rw [upd_at]; simp only [natC]; rw [insAt_at hk']
          obtain rfl : j = 0 := by omega
          rfl
      have HO2 := Lib.hid hO2
      clear hO1 hO2 hg1
      obtain ⟨wo, hwo⟩ : ∃ wo, wo = wr := ⟨_, rfl⟩
      go_loopw [5] (fun v wi => ∃ m : Nat, v = .int .i64 (m : Int) ∧ m ≤ k ∧ Below w.heap.size w wi ∧ OwnR wi w.heap.size 3 1 (.slice (some ⟨g, 0, none⟩) (k + 1) cp) (k + 1) (natC (insAt (insSort d k) m k)) ∧ Hid (∀ j, m ≤ j → j < k → d k < d ((insSort d k).getD j 0))) (fun v _ => (intOf v).toNat)
      case atStart => exact ⟨k, rfl, by omega, hB1, HO2.out, Lib.hid fun j h1 h2 => by omega⟩
      case round =>
        obtain ⟨m, rfl, hm, hBi, hOi, HS⟩ := hrel
        have HOi := Lib.hid hOi
        rcases hOi.forms with ⟨_, h⟩ | ⟨g', cp', he, -, -, -, hr, hfz, -⟩
        · omega
        obtain ⟨rfl, rfl⟩ : g = g' ∧ cp = cp' := by simpa using he
        clear he hOi
        by_cases hm0 : 0 < m
        · have e0 := hr.one (i := m) (by omega)
          have e1 := hr.one (i := m - 1) (by omega)
          rw [Nat.zero_add] at e0 e1
          simp only [natC] at e0 e1
          have hk' : m ≤ (insSort d k).length := by rw [insSort_len]; omega
          rw [insAt_at hk'] at e0
          rw [insAt_lt hk' (by omega)] at e1
          obtain ⟨y, hy⟩ : ∃ y, y = (insSort d k).getD (m - 1) 0 := ⟨_, rfl⟩
          rw [← hy] at e1
          have hyn : y < k := by rw [hy]; exact insSort_lt (by omega)
          have t0 := ((HR.out.below hBi).three (i := k) (by omega)).1
          have t1 := ((HR.out.below hBi).three (i := y) (by omega)).1
          rw [HC.out] at t0 t1
          have HY := Lib.hid hy
          clear hy hk'
          have pw1 : IntKind.i64.wrap ((m : Int) - 1) = (m : Int) - 1 := IntWalk.i64_in _ (by omega)
          have pw2 : (1 : Int) ≤ (m : Int) := by omega
          have pw3 : ((m : Int) - 1).toNat = m - 1 := by omega
          have pz0 : (0 : Int) < (m : Int) := by omega
          have pz1 : (m : Int) < ((k + 1 : Nat) : Int) := by omega
          have pz2 : (m : Int) - 1 < ((k + 1 : Nat) : Int) := by omega
          have pz3 : (0 : Int) ≤ (k : Int) := by omega
          have pz4 : (0 : Int) ≤ (y : Int) := by omega
          have pz5 : (y : Int) < (n : Int) := by omega
          by_cases hday : d k < d y
          · go_wp2_with (fail)
            go_quiet (fail)
            go_wp2_with (fail)
            go_region
            all_goals go_wp2_with (fail)
            go_roundw
            case rel =>
              obtain ⟨m, rfl⟩ : ∃ m', m = m' + 1 := ⟨m - 1, by omega⟩
              have hk' : m + 1 ≤ (insSort d k).length := by rw [insSort_len]; omega
              rw [Nat.add_sub_cancel] at HY ⊢
              have h1 := HOi.out.set (i := m + 1) (j := 0) (by omega) (by omega) (.int .i64 (y : Int))
              rw [Nat.mul_one, Nat.add_zero] at h1
              have h2 := h1.set (i := m) (j := 0) (by omega) (by omega) (.int .i64 (k : Int))
              rw [Nat.mul_one, Nat.add_zero] at h2
              refine ⟨m, by go_num, by omega, below_set (below_set (below_drewN hBi _) hbg) hbg, ?_, Lib.hid fun j h3 h4 => ?_⟩
              · refine OwnR.congr (w := ((_ : World).setCell _ _).setCell _ _) h2 fun i j hi hj => ?_
                obtain rfl : j = 0 := by omega
                simp only [and_true, natC]
                rw [← swap_cells hk' i, ← HY.out]
                split
                · rfl
                · split <;> rfl
              · rcases Nat.lt_or_ge m j with h5 | h5
                · exact HS.out j (by omega) h4
                · obtain rfl : j = m := by omega
                  rw [← HY.out]; exact hday
            case measure => simp [intOf]; omega
          · have hf : ins d (insSort d k) k = insAt (insSort d k) m k := by
              rw [ins, insSort_len, slide_eq (m := m) (.inr (by rw [← HY.out]; exact hday)) hm HS.out]
            have HF := Lib.hid hf; clear hf
            have hday' : d y ≤ d k := by omega
            go_wp2_with (fail)
            go_quiet (fail)
            go_wp2_with (fail)
            go_roundw
            case rel => exact ⟨k + 1, by go_num, by omega, below_drewN hBi _, by rw [insSort, HF.out]; exact HOi.out⟩
            case measure => simp [intOf]; omega
        · obtain rfl : m = 0 := by omega
          have hf : ins d (insSort d k) k = insAt (insSort d k) 0 k := by
            rw [ins, insSort_len, slide_eq (m := 0) (.inl rfl) hm HS.out]
          have HF := Lib.hid hf; clear hf
          go_wp2_with (fail)
          go_quiet (fail)
          go_wp2_with (fail)
          go_roundw
          case rel => exact ⟨k + 1, by go_num, by omega, below_drewN hBi _, by rw [insSort, HF.out]; exact HOi.out⟩
          case measure => simp [intOf]; omega
    · obtain rfl : k = n := by omega
      go_wp2_with (fail)
      go_ret
      exact ⟨⟨_, rfl, HO.out⟩, hB⟩
end Go.Proofs.Ytfjbgcaogffiaaa
namespace Go.Proofs.Ytfjbgcaogffiaaa
open Go.RowKit D
set_option linter.unusedVariables false
set_option linter.unusedSimpArgs false
attribute [local go_sem high] run_minI run_maxI
attribute [local go_sem] upon2 cls_cell cls_frozen forall_const exists_eq_left'
def keepLo (R : Rule) (p : Int) (k : Nat) : Int := if p ≤ 0 ∨ k = 0 then 0 else R.gr (min p k - 1).toNat
def keepHi (R : Rule) (q : Int) (k : Nat) : Int := if q < k then R.gr q.toNat - 1 else 1000000
theorem keepLo_up {R : Rule} {p : Int} {k : Nat} (h : (k : Int) + 1 ≤ p) : keepLo R p (k + 1) = R.gr k := by
  rw [keepLo, if_neg (by omega)]; congr 1; omega
theorem keepLo_same {R : Rule} {p : Int} {k : Nat} (h : p < (k : Int) + 1) : keepLo R p (k + 1) = keepLo R p k := by
  rw [keepLo, keepLo]
  by_cases h1 : p ≤ 0
  · rw [if_pos (.inl h1), if_pos (.inl h1)]
  · rw [if_neg (by omega), if_neg (by omega)]; congr 1; omega
theorem gr_up {R : Rule} (hR : RuleOk R) : ∀ {i j : Nat}, i ≤ j → j < 3 → R.gr i ≤ R.gr j := by
  intro i j hi hj
  have h1 := hR.g1; have h2 := hR.g2
  rcases (by omega : j = 0 ∨ j = 1 ∨ j = 2) with rfl | rfl | rfl
  · obtain rfl : i = 0 := by omega
    exact Int.le_refl _
  · rcases (by omega : i = 0 ∨ i = 1) with rfl | rfl <;> simp only [gr0, gr1] <;> omega
  · rcases (by omega : i = 0 ∨ i = 1 ∨ i = 2) with rfl | rfl | rfl <;> simp only [gr0, gr1, gr2] <;> omega
theorem gr_rng {R : Rule} (hR : RuleOk R) {i : Nat} (hi : i < 3) : 1 ≤ R.gr i ∧ R.gr i ≤ 1000000 := by
  have h0 := hR.g0; have h1 := hR.g1; have h2 := hR.g2
  rcases (by omega : i = 0 ∨ i = 1 ∨ i = 2) with rfl | rfl | rfl <;> simp only [gr0, gr1, gr2] <;> omega
theorem keepHi_up {R : Rule} (hR : RuleOk R) {q : Int} {k : Nat} (h0 : 0 ≤ q) (hk : k < 3) (h : q < (k : Int) + 1) : keepHi R q (k + 1) = min (keepHi R q k) (R.gr k - 1) := by
  rw [keepHi, if_pos (by omega), keepHi]
  have hg := gr_up hR (i := q.toNat) (j := k) (by omega) hk
  have hr := gr_rng hR hk
  by_cases h1 : q < k
  · rw [if_pos h1]; omega
  · rw [if_neg h1, show q.toNat = k by omega]; omega
theorem keepHi_same {R : Rule} {q : Int} {k : Nat} (h : ¬ q < (k : Int) + 1) : keepHi R q (k + 1) = keepHi R q k := by
  rw [keepHi, if_neg (by omega), keepHi, if_neg (by omega)]
theorem keep_eq {R : Rule} {x : Test} : (⟨keepLo R (x.grade - x.err) 3, keepHi R (x.grade + x.err) 3⟩ : Span) = keep R x ∨ ¬ (x.grade - x.err ≤ 3) := by
  by_cases hp : x.grade - x.err ≤ 3
  · left
    rw [keep, keepLo, keepHi]
    congr 1
    · by_cases h : x.grade - x.err ≤ 0
      · rw [if_pos (.inl h), if_pos h]
      · rw [if_neg (by omega), if_neg h]; congr 1; omega
    · by_cases h : 3 ≤ x.grade + x.err
      · rw [if_neg (by omega), if_pos h]
      · rw [if_pos (by omega), if_neg h]
  · exact .inr hp
set_option maxRecDepth 100000 in
set_option maxHeartbeats 3200000 in
theorem keepR_any {R : Rule} {hh hv : Sl} {x : Test} {w : World} (hx : TestOk x) (hR : RuleOk R) :
    Calls Try.prog 91 #[.agg #[.slice hh.a R.heat.length hh.cap, .slice hv.a R.wet.length hv.cap, .int .i64 R.own, .int .i64 R.feed, .int .i64 R.g0, .int .i64 R.g1, .int .i64 R.g2, .int .i64 R.lost], .agg #[.int .i64 x.day, .int .i64 x.grade, .int .i64 x.err]] w fun e w' => e = .returned (.agg #[.int .i64 (keep R x).lo, .int .i64 (keep R x).hi]) ∧ Below w.heap.size w w' := by
  obtain ⟨⟨a0, a1⟩, ⟨e0, e1⟩⟩ := hx
  have hE := (keep_eq (R := R) (x := x)).resolve_right (by omega)
  have HE := Lib.hid hE; have HR := Lib.hid hR
  clear hE hR
  go_enter Try.func91, Try.ntmps91
  go_wp2_with (fail)
  go_loopw [6] (fun v wr => ∃ k : Nat, v = .int .i64 (k : Int) ∧ k ≤ 3 ∧ Below w.heap.size w wr ∧ wr.heap[w.heap.size]? = some (Obj.cells #[.slice hh.a R.heat.length hh.cap, .slice hv.a R.wet.length hv.cap, .int .i64 R.own, .int .i64 R.feed, .int .i64 R.g0, .int .i64 R.g1, .int .i64 R.g2, .int .i64 R.lost] 25) ∧ wr.heap[w.heap.size + 1]? = some (Obj.cells #[.int .i64 x.day, .int .i64 x.grade, .int .i64 x.err] 51) ∧
      wr.heap[w.heap.size + 1 + 1]? = some (Obj.cells #[.int .i64 0, .int .i64 0] 28) ∧ wr.heap[w.heap.size + 1 + 1 + 1]? = some (Obj.cells #[.int .i64 (keepLo R (x.grade - x.err) k), .int .i64 (keepHi R (x.grade + x.err) k)] 28)) (fun v _ => 3 - (intOf v).toNat)
  case atStart =>
    refine ⟨0, rfl, by omega, by repeat' (first | exact Below.refl _ _ | assumption | refine below_drewN ?_ _ | refine Below.drew ?_ | refine Below.alloc ?_ (by first | assumption | omega | (simp <;> omega)) _ | refine Below.setCell ?_ (by first | assumption | omega | (simp <;> omega)) _ | refine Ext2.on (by assumption) ?_), ?_, ?_, ?_, ?_⟩
    · repeat' (first | (with_reducible assumption) | (with_reducible refine blk_set_ne ?_ ?_) | (with_reducible exact blk_new _ _) | (with_reducible refine blk_new' _ _ (by first | (with_reducible rfl) | (simp; done) | (simp <;> omega))) | (with_reducible refine blk_alloc ?_ _) | (with_reducible refine blk_drew ?_) | (with_reducible refine blk_drewN ?_ _) | (with_reducible refine Ext2.blk (by assumption) ?_) | omega | (simp <;> omega) | exact blk_set (by assumption) _ _)
    · repeat' (first | (with_reducible assumption) | (with_reducible refine blk_set_ne ?_ ?_) | (with_reducible exact blk_new _ _) | (with_reducible refine blk_new' _ _ (by first | (with_reducible rfl) | (simp; done) | (simp <;> omega))) | (with_reducible refine blk_alloc ?_ _) | (with_reducible refine blk_drew ?_) | (with_reducible refine blk_drewN ?_ _) | (with_reducible refine Ext2.blk (by assumption) ?_) | omega | (simp <;> omega) | exact blk_set (by assumption) _ _)
    · repeat' (first | (with_reducible assumption) | (with_reducible refine blk_set_ne ?_ ?_) | (with_reducible exact blk_new _ _) | (with_reducible refine blk_new' _ _ (by first | (with_reducible rfl) | (simp; done) | (simp <;> omega))) | (with_reducible refine blk_alloc ?_ _) | (with_reducible refine blk_drew ?_) | (with_reducible refine blk_drewN ?_ _) | (with_reducible refine Ext2.blk (by assumption) ?_) | omega | (simp <;> omega) | exact blk_set (by assumption) _ _)
    · have e1 : keepLo R (x.grade - x.err) 0 = 0 := by rw [keepLo, if_pos (.inr rfl)]
      have e2 : keepHi R (x.grade + x.err) 0 = 1000000 := by rw [keepHi, if_neg (by omega)]
      rw [e1, e2]; repeat' (first | (with_reducible assumption) | (with_reducible refine blk_set_ne ?_ ?_) | (with_reducible exact blk_new _ _) | (with_reducible refine blk_new' _ _ (by first | (with_reducible rfl) | (simp; done) | (simp <;> omega))) | (with_reducible refine blk_alloc ?_ _) | (with_reducible refine blk_drew ?_) | (with_reducible refine blk_drewN ?_ _) | (with_reducible refine Ext2.blk (by assumption) ?_) | omega | (simp <;> omega) | exact blk_set (by assumption) _ _)
  case round =>
    obtain ⟨k, rfl, hk, hB, b0, b1, b2, b3⟩ := hrel
    have hz0 := blk_lt b3
    by_cases hlt : k < 3
    · have hg := gr_rng HR.out hlt
      have hgr : wr.cell? ⟨w.heap.size, 4 + k, none⟩ = some (.int .i64 (R.gr k)) := by
        rw [cell_blk b0]; rcases (by omega : k = 0 ∨ k = 1 ∨ k = 2) with rfl | rfl | rfl <;> rfl
      obtain ⟨lo, hlo⟩ : ∃ lo, lo = keepLo R (x.grade - x.err) k := ⟨_, rfl⟩
      obtain ⟨hi, hhi⟩ : ∃ hi, hi = keepHi R (x.grade + x.err) k := ⟨_, rfl⟩
      rw [← hlo, ← hhi] at b3
      have q1c := cell_blk b1
      have q1f := frz_blk b1
      have q3c := cell_blk b3
      have q3f := frz_blk b3
      obtain ⟨z, hz⟩ : ∃ z, z = R.gr k := ⟨_, rfl⟩
      rw [← hz] at hg hgr
      have j0 : (0 : Int) ≤ (k : Int) := by omega
      have j1 : (k : Int) < 3 := by omega
      by_cases hA : (k : Int) + 1 ≤ x.grade - x.err
      · have hB2 : ¬ x.grade + x.err < (k : Int) + 1 := by omega
        have hl := keepLo_up (R := R) hA; have hh2 := keepHi_same (R := R) hB2
        rw [← hz] at hl; rw [← hhi] at hh2
        have HL := Lib.hid hl; have HH := Lib.hid hh2
        clear hl hh2 hlo hhi hz
        have hB3 : (k : Int) + 1 ≤ x.grade + x.err := by omega
        go_wp2_with (fail)
        go_roundw
        case rel =>
          refine ⟨k + 1, by go_num, by omega, below_set hB (by omega), ?_, ?_, ?_, ?_⟩
          · repeat' (first | (with_reducible assumption) | (with_reducible refine blk_set_ne ?_ ?_) | (with_reducible exact blk_new _ _) | (with_reducible refine blk_new' _ _ (by first | (with_reducible rfl) | (simp; done) | (simp <;> omega))) | (with_reducible refine blk_alloc ?_ _) | (with_reducible refine blk_drew ?_) | (with_reducible refine blk_drewN ?_ _) | (with_reducible refine Ext2.blk (by assumption) ?_) | omega | (simp <;> omega) | exact blk_set (by assumption) _ _)
          · repeat' (first | (with_reducible assumption) | (with_reducible refine blk_set_ne ?_ ?_) | (with_reducible exact blk_new _ _) | (with_reducible refine blk_new' _ _ (by first | (with_reducible rfl) | (simp; done) | (simp <;> omega))) | (with_reducible refine blk_alloc ?_ _) | (with_reducible refine blk_drew ?_) | (with_reducible refine blk_drewN ?_ _) | (with_reducible refine Ext2.blk (by assumption) ?_) | omega | (simp <;> omega) | exact blk_set (by assumption) _ _)
          · repeat' (first | (with_reducible assumption) | (with_reducible refine blk_set_ne ?_ ?_) | (with_reducible exact blk_new _ _) | (with_reducible refine blk_new' _ _ (by first | (with_reducible rfl) | (simp; done) | (simp <;> omega))) | (with_reducible refine blk_alloc ?_ _) | (with_reducible refine blk_drew ?_) | (with_reducible refine blk_drewN ?_ _) | (with_reducible refine Ext2.blk (by assumption) ?_) | omega | (simp <;> omega) | exact blk_set (by assumption) _ _)
          · rw [HL.out, HH.out]; exact blk_set b3 _ _
        case measure => simp [intOf]; omega
      · have hA' : x.grade - x.err < (k : Int) + 1 := by omega
        have hl := keepLo_same (R := R) hA'
        rw [← hlo] at hl
        have HL := Lib.hid hl; clear hl
        by_cases hB2 : x.grade + x.err < (k : Int) + 1
        · have hh2 := keepHi_up HR.out (q := x.grade + x.err) (by omega) hlt hB2
          rw [← hz, ← hhi] at hh2
          have HH := Lib.hid hh2
          clear hh2 hlo hhi hz
          have u1 : IntKind.i64.wrap (z - 1) = z - 1 := IntWalk.i64_in _ (by omega)
          go_wp2_with (fail)
          have hxc : ∀ y : Cls (Ext2 wr), y.1.cell? ⟨w.heap.size, 4 + k, none⟩ = some (.int .i64 z) := fun y => by rw [cls_cell, hgr]; rfl
          refine region_take 9 (by kernel_rfl) (by kernel_rfl) (by intro c a d v w h; cases d <;> exact h) ?_
          simp only [List.take_succ_cons, List.take_zero, List.drop_succ_cons, List.drop_zero]
          repeat (refine wpQ2_step (fun K hK => ?_); go_simp; first | (refine hK _ ?_; clear hK K) | (apply Exists.intro; refine ⟨fun x => ?_, hK _ ?_⟩; (fail); clear hK K))
          refine wpQ2_nil ?_
          intro w1 hg1
          have k0 := hg1.blk b0; have k1 := hg1.blk b1; have k2 := hg1.blk b2; have k3 := hg1.blk b3
          have hB1 := hg1.on hB
          have hz1 := hg1.size
          clear q1c q1f q3c q3f hgr hxc
          have q3c := cell_blk k3
          have q3f := frz_blk k3
          go_wp2_with (fail)
          go_roundw
          case rel =>
            refine ⟨k + 1, by go_num, by omega, below_set hB1 (by omega), ?_, ?_, ?_, ?_⟩
            · repeat' (first | (with_reducible assumption) | (with_reducible refine blk_set_ne ?_ ?_) | (with_reducible exact blk_new _ _) | (with_reducible refine blk_new' _ _ (by first | (with_reducible rfl) | (simp; done) | (simp <;> omega))) | (with_reducible refine blk_alloc ?_ _) | (with_reducible refine blk_drew ?_) | (with_reducible refine blk_drewN ?_ _) | (with_reducible refine Ext2.blk (by assumption) ?_) | omega | (simp <;> omega) | exact blk_set (by assumption) _ _)
            · repeat' (first | (with_reducible assumption) | (with_reducible refine blk_set_ne ?_ ?_) | (with_reducible exact blk_new _ _) | (with_reducible refine blk_new' _ _ (by first | (with_reducible rfl) | (simp; done) | (simp <;> omega))) | (with_reducible refine blk_alloc ?_ _) | (with_reducible refine blk_drew ?_) | (with_reducible refine blk_drewN ?_ _) | (with_reducible refine Ext2.blk (by assumption) ?_) | omega | (simp <;> omega) | exact blk_set (by assumption) _ _)
            · repeat' (first | (with_reducible assumption) | (with_reducible refine blk_set_ne ?_ ?_) | (with_reducible exact blk_new _ _) | (with_reducible refine blk_new' _ _ (by first | (with_reducible rfl) | (simp; done) | (simp <;> omega))) | (with_reducible refine blk_alloc ?_ _) | (with_reducible refine blk_drew ?_) | (with_reducible refine blk_drewN ?_ _) | (with_reducible refine Ext2.blk (by assumption) ?_) | omega | (simp <;> omega) | exact blk_set (by assumption) _ _)
            · rw [HL.out, HH.out]; exact blk_set k3 _ _
          case measure => simp [intOf]; omega
        · have hh2 := keepHi_same (R := R) hB2
          rw [← hhi] at hh2
          have HH := Lib.hid hh2
          clear hh2 hlo hhi hz
          have hB3 : (k : Int) + 1 ≤ x.grade + x.err := by omega
          go_wp2_with (fail)
          go_roundw
          case rel => exact ⟨k + 1, by go_num, by omega, hB, b0, b1, b2, by rw [HL.out, HH.out]; exact b3⟩
          case measure => simp [intOf]; omega
    · obtain rfl : k = 3 := by omega
      rw [show keepLo R (x.grade - x.err) 3 = (keep R x).lo from congrArg Span.lo HE.out, show keepHi R (x.grade + x.err) 3 = (keep R x).hi from congrArg Span.hi HE.out] at b3
      have q2c := cell_blk b2
      have q2f := frz_blk b2
      have q3c := cell_blk b3
      have q3f := frz_blk b3
      go_wp2_with (fail)
      refine bodyPost_ret (v := .agg #[.int .i64 (keep R x).lo, .int .i64 (keep R x).hi]) ?_ rfl ⟨?_, by repeat' (first | exact Below.refl _ _ | assumption | refine below_drewN ?_ _ | refine Below.drew ?_ | refine Below.alloc ?_ (by first | assumption | omega | (simp <;> omega)) _ | refine Below.setCell ?_ (by first | assumption | omega | (simp <;> omega)) _ | refine Ext2.on (by assumption) ?_)⟩
      · simp [results, Try.results91, go_sem, q2c, q2f]
      rfl
end Go.Proofs.Ytfjbgcaogffiaaa
namespace Go.Proofs.Ytfjbgcaogffiaaa
open Go.RowKit D
set_option linter.unusedVariables false
set_option linter.unusedSimpArgs false
attribute [local go_sem high] run_minI run_maxI
attribute [local go_sem] upon2 cls_cell cls_frozen forall_const exists_eq_left'
theorem elStrike : Elem Try.prog 33 65 (.agg #[.int .i64 0, .int .i64 0]) 2 16 := ⟨by kernel_rfl, by kernel_rfl, rfl, by omega, by omega⟩
theorem own_ne {w : World} {base base' : Nat} {e e' : TypeId} {sz sz' : Nat} {v v' : Value} {n n' : Nat} {c c' : Nat → Nat → Value} (h : OwnR w base e sz v n c) (h' : OwnR w base' e' sz' v' n' c') (he : e ≠ e') : v.ownBlock = none ∨ v.ownBlock ≠ v'.ownBlock := by
  rcases h.forms with ⟨rfl, _⟩ | ⟨g, cap, rfl, _, _, _, _, _, cur, hg⟩
  · exact .inl rfl
  · right
    rcases h'.forms with ⟨rfl, _⟩ | ⟨g', cap', rfl, _, _, _, _, _, cur', hg'⟩
    · intro h; cases h
    · intro h
      have e1 : g = g' := by simpa [Value.ownBlock] using h
      subst e1
      rw [hg] at hg'
      exact he (by simpa using (Obj.cells.inj (Option.some.inj hg')).2.1)
theorem app_keeps {W w1 : World} {base : Nat} {e : TypeId} {sz : Nat} {v : Value} {n : Nat} {c : Nat → Nat → Value} (hO : OwnR W base e sz v n c) (hg : W.grownBy w1 v.ownBlock) {b : Nat} {x : Obj} (h : W.heap[b]? = some x) (hb : b < base) : w1.heap[b]? = some x :=
  (hg.block b (blk_lt h) (fun he => by have := own_block hO b he.symm; omega)).trans h
theorem app_other {W w1 : World} {base base' : Nat} {e e' : TypeId} {sz sz' : Nat} {v v' : Value} {n n' : Nat} {c c' : Nat → Nat → Value} (hO : OwnR W base e sz v n c) (hO' : OwnR W base' e' sz' v' n' c') (he : e' ≠ e) (hg : W.grownBy w1 v.ownBlock) : OwnR w1 base' e' sz' v' n' c' :=
  hO'.kept hg (own_ne hO' hO he)
theorem app_below {B : Nat} {w W w1 : World} {base : Nat} {e : TypeId} {sz : Nat} {v : Value} {n : Nat} {c : Nat → Nat → Value} (hB : Below B w W) (hO : OwnR W base e sz v n c) (hb : B ≤ base) (hle : B ≤ W.heap.size) (hg : W.grownBy w1 v.ownBlock) : Below B w w1 :=
  hB.grown hg hle (fun k hk => Nat.le_trans hb (own_block hO k hk))
theorem days_of {T : Task} (hk : TaskOk T) : Days T := fun j hj => by
  have := hk.tests j hj
  simp only [dayD']; omega
theorem keep_lev {R : Rule} (hR : RuleOk R) {x : Test} (hx : TestOk x) : LevOk (keep R x) ∧ (keep R x).lo ≤ (keep R x).hi := by
  obtain ⟨⟨a0, a1⟩, ⟨b0, b1⟩⟩ := hx
  have g : ∀ i, i < 3 → 1 ≤ R.gr i ∧ R.gr i ≤ 1000000 := fun i hi => gr_rng hR hi
  rw [keep, LevOk]
  simp only
  by_cases h1 : x.grade - x.err ≤ 0
  · rw [if_pos h1]
    by_cases h2 : 3 ≤ x.grade + x.err
    · rw [if_pos h2]; omega
    · rw [if_neg h2]; have := g (x.grade + x.err).toNat (by omega); omega
  · rw [if_neg h1]
    have g1 := g (x.grade - x.err - 1).toNat (by omega)
    by_cases h2 : 3 ≤ x.grade + x.err
    · rw [if_pos h2]; omega
    · rw [if_neg h2]
      have g2 := g (x.grade + x.err).toNat (by omega)
      have h3 : R.gr (x.grade - x.err - 1).toNat < R.gr (x.grade + x.err).toNat := by
        have hR1 := hR.g1; have hR2 := hR.g2
        obtain ⟨i, hi⟩ : ∃ i, i = (x.grade - x.err - 1).toNat := ⟨_, rfl⟩
        obtain ⟨j, hj⟩ : ∃ j, j = (x.grade + x.err).toNat := ⟨_, rfl⟩
        rw [← hi, ← hj]
        rcases (by omega : (i = 0 ∧ j = 1) ∨ (i = 0 ∧ j = 2) ∨ (i = 1 ∧ j = 2)) with ⟨h, h'⟩ | ⟨h, h'⟩ | ⟨h, h'⟩ <;> rw [h, h'] <;> simp only [gr0, gr1, gr2] <;> omega
      omega
/-- The reference's state keeps to the levels. -/
theorem rnow_lev {T : Task} (hk : TaskOk T) : ∀ {n : Nat}, n ≤ T.tests.length → LevOk (rfold T n).now
  | 0, _ => ⟨hk.start.1, hk.start.2.1⟩
  | n + 1, hn => by
    have ih := rnow_lev hk (n := n) (by omega)
    have hl := order_len T
    have hm := (mo_days (days_of hk) (order_lt (n := n) (by omega))).1
    have ha := (rinv (T := T) (n := n) (by omega)).at_le (days_of hk) (by omega)
    have hon : LevOk (on T.rule (forces T) (rfold T n).now (rfold T n).at_ (mo T ((orderT T).getD n 0))) := onF_lev hk ih _ (by omega)
    rw [rfold_succ T (by omega), rstep]
    have hkp := (keep_lev hk.rule (hk.tests _ (order_lt (n := n) (by omega))).1)
    split
    · exact hon
    · obtain ⟨⟨a, b⟩, c, d⟩ := hon
      obtain ⟨⟨⟨a', b'⟩, c', d'⟩, _⟩ := hkp
      simp only [LevOk, both, kp]
      omega
end Go.Proofs.Ytfjbgcaogffiaaa
