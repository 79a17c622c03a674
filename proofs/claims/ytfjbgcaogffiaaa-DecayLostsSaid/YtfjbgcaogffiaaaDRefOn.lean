/-
  The reference's on: the levels on a morning that follow from those on an earlier one.
-/
import Derived.Test.YtfjbgcaogffiaaaDHeap
import Derived.Test.YtfjbgcaogffiaaaDRefC
import Derived.Test.YtfjbgcaogffiaaaDRef4
import Derived.Test.YtfjbgcaogffiaaaDOk
namespace Go.Proofs.Ytfjbgcaogffiaaa
open Go.RowKit D
set_option linter.unusedVariables false
set_option linter.unusedSimpArgs false
attribute [local go_sem high] run_minI run_maxI
attribute [local go_sem] upon2 cls_cell cls_frozen forall_const exists_eq_left'
theorem force_at {T : Task} {i : Nat} (h : i < T.days.length) : spanD (forces T) i = strength T.rule (dayD T.days i) := by
  simp [spanD, forces, dayD, List.getD_eq_getElem?_getD, h]
def LevOk (n : Span) : Prop := (0 ≤ n.lo ∧ n.lo ≤ 1000000) ∧ (0 ≤ n.hi ∧ n.hi ≤ 1000000)
theorem least_rng {R : Rule} {s : Span} (h : GrowOk R s) {n : Int} (n0 : 0 ≤ n) (n1 : n ≤ 1000000) : n ≤ least R s n ∧ least R s n ≤ 1000000 := by
  have hb := (grow_bounds h n0 n1).2.1.1
  have := Int.ediv_nonneg hb (show (0 : Int) ≤ 1000000000 by omega)
  rw [least]; omega
theorem most_rng {R : Rule} {s : Span} (h : GrowOk R s) {n : Int} (n0 : 0 ≤ n) (n1 : n ≤ 1000000) : n ≤ most R s n ∧ most R s n ≤ 1000000 := by
  have hb := (grow_bounds h n0 n1).2.2.1
  have := Int.ediv_nonneg (a := (R.own * 1000000 + n * R.feed) * s.hi + 999999999) (by omega) (show (0 : Int) ≤ 1000000000 by omega)
  rw [most]; omega
theorem grow_lev {R : Rule} {s : Span} (h : GrowOk R s) {n : Span} (hn : LevOk n) : LevOk (grow R s n) := by
  have h1 := least_rng h hn.1.1 hn.1.2
  have h2 := most_rng h hn.2.1 hn.2.2
  obtain ⟨⟨a, b⟩, c, d⟩ := hn
  refine ⟨⟨?_, h1.2⟩, ?_, h2.2⟩ <;> simp only [grow] <;> omega
theorem growOk_at {T : Task} (hk : TaskOk T) {i : Nat} (h : i < T.days.length) : GrowOk T.rule (spanD (forces T) i) := by
  rw [force_at h]; exact grow_ok hk.rule (hk.days i h)
theorem onF_lev {T : Task} (hk : TaskOk T) {n : Span} (hn : LevOk n) {i : Nat} : ∀ (k : Nat), i + k ≤ T.days.length → LevOk (onF T.rule (forces T) n i k)
  | 0, _ => hn
  | k + 1, h => grow_lev (growOk_at hk (by omega)) (onF_lev hk hn k (by omega))
set_option maxRecDepth 100000 in
set_option maxHeartbeats 3200000 in
theorem onR_any {T : Task} {s : TSl} {n : Span} {i j : Nat} {w : World} (hT : TaskAt w T s) (hk : TaskOk T) (hn : LevOk n) (hij : i ≤ j) (hj : j ≤ T.days.length) :
    Calls Try.prog 89 #[.agg #[.slice s.h.a T.rule.heat.length s.h.cap, .slice s.w.a T.rule.wet.length s.w.cap, .int .i64 T.rule.own, .int .i64 T.rule.feed, .int .i64 T.rule.g0, .int .i64 T.rule.g1, .int .i64 T.rule.g2, .int .i64 T.rule.lost, .int .i64 T.first, .slice s.d.a T.days.length s.d.cap, .int .i64 T.start.lo, .int .i64 T.start.hi, .slice s.t.a T.tests.length s.t.cap], .agg #[.int .i64 n.lo, .int .i64 n.hi], .int .i64 (i : Int), .int .i64 (j : Int)] w fun e w' => e = .returned (.agg #[.int .i64 (on T.rule (forces T) n i j).lo, .int .i64 (on T.rule (forces T) n i j).hi]) ∧ Below w.heap.size w w' := by
  have hd := hk.nd
  obtain ⟨sh, sw, ⟨da, dc⟩, st_⟩ := s
  have hrow : i < j → ∃ b off, da = some ⟨b, off, none⟩ ∧ RowC w b off 4 T.days.length (dayC T.days) := fun h => hT.days.row (by omega) (by omega)
  have hcap : T.days.length ≤ dc ∧ dc ≤ 9223372036854775807 := ⟨hT.days.le, hT.days.max⟩
  obtain ⟨hcap1, hcap2⟩ := hcap
  have HT := Lib.hid hT; have HK := Lib.hid hk; have HN := Lib.hid hn; have HR := Lib.hid hrow
  clear hT hk hn hrow
  rcases Nat.lt_or_ge i j with hij2 | hij2
  case inr =>
    obtain rfl : i = j := by omega
    clear HR HT
    go_enter Try.func89, Try.ntmps89
    go_wp2_with (fail)
    go_loopw [9] (fun v wr => v = .int .i64 (i : Int) ∧ Below w.heap.size w wr ∧ wr.heap[w.heap.size + 1]? = some (Obj.cells #[.int .i64 n.lo, .int .i64 n.hi] 28) ∧ wr.heap[w.heap.size + 1 + 1]? = some (Obj.cells #[.int .i64 0, .int .i64 0] 28)) (fun _ _ => 0)
    case atStart =>
      refine ⟨rfl, by repeat' (first | exact Below.refl _ _ | assumption | refine below_drewN ?_ _ | refine Below.drew ?_ | refine Below.alloc ?_ (by first | assumption | omega | (simp <;> omega)) _ | refine Below.setCell ?_ (by first | assumption | omega | (simp <;> omega)) _ | refine Ext2.on (by assumption) ?_), ?_, ?_⟩
      · repeat' (first | (with_reducible assumption) | (with_reducible refine blk_set_ne ?_ ?_) | (with_reducible exact blk_new _ _) | (with_reducible refine blk_new' _ _ (by first | (with_reducible rfl) | (simp; done) | (simp <;> omega))) | (with_reducible refine blk_alloc ?_ _) | (with_reducible refine blk_drew ?_) | (with_reducible refine blk_drewN ?_ _) | (with_reducible refine Ext2.blk (by assumption) ?_) | omega | (simp <;> omega) | exact blk_set (by assumption) _ _)
      · repeat' (first | (with_reducible assumption) | (with_reducible refine blk_set_ne ?_ ?_) | (with_reducible exact blk_new _ _) | (with_reducible refine blk_new' _ _ (by first | (with_reducible rfl) | (simp; done) | (simp <;> omega))) | (with_reducible refine blk_alloc ?_ _) | (with_reducible refine blk_drew ?_) | (with_reducible refine blk_drewN ?_ _) | (with_reducible refine Ext2.blk (by assumption) ?_) | omega | (simp <;> omega) | exact blk_set (by assumption) _ _)
    case round =>
      obtain ⟨rfl, hB, b1, b2⟩ := hrel
      have hz0 := blk_lt b2
      have q1c := cell_blk b1
      have q1f := frz_blk b1
      have q2c := cell_blk b2
      have q2f := frz_blk b2
      go_wp2_with (fail)
      refine bodyPost_ret (v := .agg #[.int .i64 n.lo, .int .i64 n.hi]) ?_ rfl ⟨?_, by repeat' (first | exact Below.refl _ _ | assumption | refine below_drewN ?_ _ | refine Below.drew ?_ | refine Below.alloc ?_ (by first | assumption | omega | (simp <;> omega)) _ | refine Below.setCell ?_ (by first | assumption | omega | (simp <;> omega)) _ | refine Ext2.on (by assumption) ?_)⟩
      · simp [results, Try.results89, go_sem, q2c, q2f]
      rw [on, Nat.sub_self]; rfl
  obtain ⟨db, doff, rfl, hrow⟩ := HR.out hij2
  have HR := Lib.hid hrow; clear hrow
  go_enter Try.func89, Try.ntmps89
  go_wp2_with (fail)
  go_loopw [9] (fun v wr => ∃ k : Nat, v = .int .i64 (k : Int) ∧ i ≤ k ∧ k ≤ j ∧ Below w.heap.size w wr ∧ wr.heap[w.heap.size]? = some (Obj.cells #[.slice (TSl.mk sh sw ⟨some ⟨db, doff, none⟩, dc⟩ st_).h.a T.rule.heat.length (TSl.mk sh sw ⟨some ⟨db, doff, none⟩, dc⟩ st_).h.cap, .slice (TSl.mk sh sw ⟨some ⟨db, doff, none⟩, dc⟩ st_).w.a T.rule.wet.length (TSl.mk sh sw ⟨some ⟨db, doff, none⟩, dc⟩ st_).w.cap, .int .i64 T.rule.own, .int .i64 T.rule.feed, .int .i64 T.rule.g0, .int .i64 T.rule.g1, .int .i64 T.rule.g2, .int .i64 T.rule.lost, .int .i64 T.first, .slice (TSl.mk sh sw ⟨some ⟨db, doff, none⟩, dc⟩ st_).d.a T.days.length (TSl.mk sh sw ⟨some ⟨db, doff, none⟩, dc⟩ st_).d.cap, .int .i64 T.start.lo, .int .i64 T.start.hi, .slice (TSl.mk sh sw ⟨some ⟨db, doff, none⟩, dc⟩ st_).t.a T.tests.length (TSl.mk sh sw ⟨some ⟨db, doff, none⟩, dc⟩ st_).t.cap] 31) ∧
      wr.heap[w.heap.size + 1]? = some (Obj.cells #[.int .i64 (onF T.rule (forces T) n i (k - i)).lo, .int .i64 (onF T.rule (forces T) n i (k - i)).hi] 28) ∧ wr.heap[w.heap.size + 1 + 1]? = some (Obj.cells #[.int .i64 0, .int .i64 0] 28)) (fun v _ => j - (intOf v).toNat)
  case atStart =>
    refine ⟨i, rfl, by omega, by omega, by repeat' (first | exact Below.refl _ _ | assumption | refine below_drewN ?_ _ | refine Below.drew ?_ | refine Below.alloc ?_ (by first | assumption | omega | (simp <;> omega)) _ | refine Below.setCell ?_ (by first | assumption | omega | (simp <;> omega)) _ | refine Ext2.on (by assumption) ?_), ?_, ?_, ?_⟩
    · repeat' (first | (with_reducible assumption) | (with_reducible refine blk_set_ne ?_ ?_) | (with_reducible exact blk_new _ _) | (with_reducible refine blk_new' _ _ (by first | (with_reducible rfl) | (simp; done) | (simp <;> omega))) | (with_reducible refine blk_alloc ?_ _) | (with_reducible refine blk_drew ?_) | (with_reducible refine blk_drewN ?_ _) | (with_reducible refine Ext2.blk (by assumption) ?_) | omega | (simp <;> omega) | exact blk_set (by assumption) _ _)
    · rw [Nat.sub_self]; simp only [onF]; repeat' (first | (with_reducible assumption) | (with_reducible refine blk_set_ne ?_ ?_) | (with_reducible exact blk_new _ _) | (with_reducible refine blk_new' _ _ (by first | (with_reducible rfl) | (simp; done) | (simp <;> omega))) | (with_reducible refine blk_alloc ?_ _) | (with_reducible refine blk_drew ?_) | (with_reducible refine blk_drewN ?_ _) | (with_reducible refine Ext2.blk (by assumption) ?_) | omega | (simp <;> omega) | exact blk_set (by assumption) _ _)
    · repeat' (first | (with_reducible assumption) | (with_reducible refine blk_set_ne ?_ ?_) | (with_reducible exact blk_new _ _) | (with_reducible refine blk_new' _ _ (by first | (with_reducible rfl) | (simp; done) | (simp <;> omega))) | (with_reducible refine blk_alloc ?_ _) | (with_reducible refine blk_drew ?_) | (with_reducible refine blk_drewN ?_ _) | (with_reducible refine Ext2.blk (by assumption) ?_) | omega | (simp <;> omega) | exact blk_set (by assumption) _ _)
  case round =>
    obtain ⟨k, rfl, hik, hkj, hB, b0, b1, b2⟩ := hrel
    have hz0 := blk_lt b2
    have q0c := cell_blk b0
    have q0f := frz_blk b0
    have q1c := cell_blk b1
    have q1f := frz_blk b1
    have q2c := cell_blk b2
    have q2f := frz_blk b2
    by_cases hlt : k < j
    · obtain ⟨n', hn'⟩ : ∃ n', n' = onF T.rule (forces T) n i (k - i) := ⟨_, rfl⟩
      have hl' : LevOk n' := by rw [hn']; exact onF_lev HK.out HN.out (k - i) (by omega)
      have hstep : onF T.rule (forces T) n i (k + 1 - i) = grow T.rule (strength T.rule (dayD T.days k)) n' := by
        rw [show k + 1 - i = (k - i) + 1 by omega, onF, hn', show i + (k - i) = k by omega, force_at (by omega)]
      rw [← hn'] at b1 q1c
      have hg := growOk_at HK.out (i := k) (by omega)
      rw [force_at (by omega)] at hg
      have hdo := HK.out.days k (by omega)
      obtain ⟨d, hd'⟩ : ∃ d, d = dayD T.days k := ⟨_, rfl⟩
      obtain ⟨c0, c1, c2, c3⟩ := (HR.out.below hB).four (i := k) (by omega)
      simp only [dayC] at c0 c1 c2 c3
      rw [← hd'] at hstep hg hdo c0 c1 c2 c3
      obtain ⟨st, hst⟩ : ∃ st, st = strength T.rule d := ⟨_, rfl⟩
      rw [← hst] at hstep hg
      have HS := Lib.hid hstep; have HG := Lib.hid hg; have HD := Lib.hid hdo; have HL := Lib.hid hl'; have HST := Lib.hid hst
      clear hstep hg hdo hl' hn' hst hd'
      have j0 : (0 : Int) ≤ (k : Int) := by omega
      have j1 : (k : Int) < (T.days.length : Int) := by omega
      have hlt' : (k : Int) < (j : Int) := by omega
      go_wp2_with (fail)
      refine region_skip 9 8 _ 10 (Obj.cells #[.int .i64 0, .int .i64 0] 28) rfl rfl rfl (fun ρ W => by kernel_rfl) (by kernel_rfl) (by kernel_rfl) (by intro c a d v w h; cases d <;> exact h) ?_
      simp only [List.take_succ_cons, List.take_zero, List.drop_succ_cons, List.drop_zero, List.cons_append, List.nil_append, Nat.reduceSub, Nat.reduceAdd]
      have HX : Hid (∀ W, Ext2 wr W → Calls Try.prog 66 #[.agg #[.slice sh.a T.rule.heat.length sh.cap, .slice sw.a T.rule.wet.length sw.cap, .int .i64 T.rule.own, .int .i64 T.rule.feed, .int .i64 T.rule.g0, .int .i64 T.rule.g1, .int .i64 T.rule.g2, .int .i64 T.rule.lost], .agg #[.int .i64 d.tlo, .int .i64 d.thi, .int .i64 d.dlo, .int .i64 d.dhi]] W fun e w' => e = .returned (.agg #[.int .i64 st.lo, .int .i64 st.hi]) ∧ Below W.heap.size W w') := Lib.hid fun W hW => by rw [HST.out]; exact strengthR_any ((HT.out.rule.below hB).below hW) HK.out.rule HD.out
      have C1 := Lib.hid (fun x : Cls (Ext2 wr) => HX.out x.1 x.2)
      repeat (refine wpQ2_step (fun K hK => ?_); go_simp; first | (refine hK _ ?_; clear hK K) | (apply Exists.intro; refine ⟨fun x => ?_, hK _ ?_⟩; (first | (with_reducible exact C1.out x)); clear hK K))
      refine wpQ2_nil ?_
      intro b3 w1 hb3 hg1 nb
      have k0 := hg1.blk b0; have k1 := hg1.blk b1; have k2 := hg1.blk b2
      clear q0c q0f q1c q1f q2c q2f c0 c1 c2 c3
      have q0c := cell_blk k0
      have q0f := frz_blk k0
      have q1c := cell_blk k1
      have q1f := frz_blk k1
      have q3c := cell_blk nb
      have q3f := frz_blk nb
      have hB1 := hg1.on hB
      have hz1 := hg1.size
      have n31 : ¬ b3 = w.heap.size := by omega
      have n32 : ¬ b3 = w.heap.size + 1 := by omega
      have n33 : ¬ b3 = w.heap.size + 1 + 1 := by omega
      go_wp2_with (fail)
      refine wp_name ?_
      intro w2 h2
      have m0 : w2.heap[w.heap.size]? = some (Obj.cells #[.slice (TSl.mk sh sw ⟨some ⟨db, doff, none⟩, dc⟩ st_).h.a T.rule.heat.length (TSl.mk sh sw ⟨some ⟨db, doff, none⟩, dc⟩ st_).h.cap, .slice (TSl.mk sh sw ⟨some ⟨db, doff, none⟩, dc⟩ st_).w.a T.rule.wet.length (TSl.mk sh sw ⟨some ⟨db, doff, none⟩, dc⟩ st_).w.cap, .int .i64 T.rule.own, .int .i64 T.rule.feed, .int .i64 T.rule.g0, .int .i64 T.rule.g1, .int .i64 T.rule.g2, .int .i64 T.rule.lost, .int .i64 T.first, .slice (TSl.mk sh sw ⟨some ⟨db, doff, none⟩, dc⟩ st_).d.a T.days.length (TSl.mk sh sw ⟨some ⟨db, doff, none⟩, dc⟩ st_).d.cap, .int .i64 T.start.lo, .int .i64 T.start.hi, .slice (TSl.mk sh sw ⟨some ⟨db, doff, none⟩, dc⟩ st_).t.a T.tests.length (TSl.mk sh sw ⟨some ⟨db, doff, none⟩, dc⟩ st_).t.cap] 31) := by rw [h2]; repeat' (first | (with_reducible assumption) | (with_reducible refine blk_set_ne ?_ ?_) | (with_reducible exact blk_new _ _) | (with_reducible refine blk_new' _ _ (by first | (with_reducible rfl) | (simp; done) | (simp <;> omega))) | (with_reducible refine blk_alloc ?_ _) | (with_reducible refine blk_drew ?_) | (with_reducible refine blk_drewN ?_ _) | (with_reducible refine Ext2.blk (by assumption) ?_) | omega | (simp <;> omega) | exact blk_set (by assumption) _ _)
      have m1 : w2.heap[w.heap.size + 1]? = some (Obj.cells #[.int .i64 n'.lo, .int .i64 n'.hi] 28) := by rw [h2]; repeat' (first | (with_reducible assumption) | (with_reducible refine blk_set_ne ?_ ?_) | (with_reducible exact blk_new _ _) | (with_reducible refine blk_new' _ _ (by first | (with_reducible rfl) | (simp; done) | (simp <;> omega))) | (with_reducible refine blk_alloc ?_ _) | (with_reducible refine blk_drew ?_) | (with_reducible refine blk_drewN ?_ _) | (with_reducible refine Ext2.blk (by assumption) ?_) | omega | (simp <;> omega) | exact blk_set (by assumption) _ _)
      have m2 : w2.heap[w.heap.size + 1 + 1]? = some (Obj.cells #[.int .i64 0, .int .i64 0] 28) := by rw [h2]; repeat' (first | (with_reducible assumption) | (with_reducible refine blk_set_ne ?_ ?_) | (with_reducible exact blk_new _ _) | (with_reducible refine blk_new' _ _ (by first | (with_reducible rfl) | (simp; done) | (simp <;> omega))) | (with_reducible refine blk_alloc ?_ _) | (with_reducible refine blk_drew ?_) | (with_reducible refine blk_drewN ?_ _) | (with_reducible refine Ext2.blk (by assumption) ?_) | omega | (simp <;> omega) | exact blk_set (by assumption) _ _)
      have m3 : w2.heap[b3]? = some (Obj.cells #[.int .i64 st.lo, .int .i64 st.hi] 28) := by rw [h2]; exact blk_set (blk_set nb _ _) _ _
      have hB2 : Below w.heap.size w w2 := by rw [h2]; exact below_set (below_set hB1 (by omega)) (by omega)
      clear h2 q0c q0f q1c q1f q3c q3f hg1 k0 k1 k2 nb hB1 b0 b1 b2 hB
      have q0c := cell_blk m0
      have q0f := frz_blk m0
      have q1c := cell_blk m1
      have q1f := frz_blk m1
      have q3c := cell_blk m3
      have q3f := frz_blk m3
      have HX1 : Hid (∀ W, Calls Try.prog 57 #[.agg #[.slice sh.a T.rule.heat.length sh.cap, .slice sw.a T.rule.wet.length sw.cap, .int .i64 T.rule.own, .int .i64 T.rule.feed, .int .i64 T.rule.g0, .int .i64 T.rule.g1, .int .i64 T.rule.g2, .int .i64 T.rule.lost], .agg #[.int .i64 st.lo, .int .i64 st.hi], .int .i64 n'.lo] W fun e w' => e = .returned (.int .i64 (least T.rule st n'.lo)) ∧ Below W.heap.size W w') := Lib.hid fun W => least_any HG.out HL.out.1.1 HL.out.1.2 W
      have HX2 : Hid (∀ W, Calls Try.prog 58 #[.agg #[.slice sh.a T.rule.heat.length sh.cap, .slice sw.a T.rule.wet.length sw.cap, .int .i64 T.rule.own, .int .i64 T.rule.feed, .int .i64 T.rule.g0, .int .i64 T.rule.g1, .int .i64 T.rule.g2, .int .i64 T.rule.lost], .agg #[.int .i64 st.lo, .int .i64 st.hi], .int .i64 n'.hi] W fun e w' => e = .returned (.int .i64 (most T.rule st n'.hi)) ∧ Below W.heap.size W w') := Lib.hid fun W => most_any HG.out HL.out.2.1 HL.out.2.2 W
      refine region_take 13 (by kernel_rfl) (by kernel_rfl) (by intro c a d v w h; cases d <;> exact h) ?_
      simp only [List.take_succ_cons, List.take_zero, List.drop_succ_cons, List.drop_zero]
      repeat (refine wpQ2_step (fun K hK => ?_); go_simp; first | (refine hK _ ?_; clear hK K) | (apply Exists.intro; refine ⟨fun x => ?_, hK _ ?_⟩; (first | (with_reducible exact HX1.out x.1) | (with_reducible exact HX2.out x.1)); clear hK K))
      refine wpQ2_nil ?_
      intro w3 hg3
      have k0 := hg3.blk m0; have k1 := hg3.blk m1; have k2 := hg3.blk m2
      have hB3 := hg3.on hB2
      clear q0c q0f q1c q1f q3c q3f m0 m1 m2 m3 hB2 hg3
      have q1c := cell_blk k1
      have q1f := frz_blk k1
      go_wp2_with (fail)
      go_roundw
      case rel =>
        refine ⟨k + 1, by go_num, by omega, by omega, below_set (below_set hB3 (by omega)) (by omega), ?_, ?_, ?_⟩
        · repeat' (first | (with_reducible assumption) | (with_reducible refine blk_set_ne ?_ ?_) | (with_reducible exact blk_new _ _) | (with_reducible refine blk_new' _ _ (by first | (with_reducible rfl) | (simp; done) | (simp <;> omega))) | (with_reducible refine blk_alloc ?_ _) | (with_reducible refine blk_drew ?_) | (with_reducible refine blk_drewN ?_ _) | (with_reducible refine Ext2.blk (by assumption) ?_) | omega | (simp <;> omega) | exact blk_set (by assumption) _ _)
        · rw [HS.out]; exact blk_set (blk_set k1 _ _) _ _
        · repeat' (first | (with_reducible assumption) | (with_reducible refine blk_set_ne ?_ ?_) | (with_reducible exact blk_new _ _) | (with_reducible refine blk_new' _ _ (by first | (with_reducible rfl) | (simp; done) | (simp <;> omega))) | (with_reducible refine blk_alloc ?_ _) | (with_reducible refine blk_drew ?_) | (with_reducible refine blk_drewN ?_ _) | (with_reducible refine Ext2.blk (by assumption) ?_) | omega | (simp <;> omega) | exact blk_set (by assumption) _ _)
      case measure => simp [intOf]; omega
    · obtain rfl : k = j := by omega
      go_wp2_with (fail)
      refine bodyPost_ret (v := .agg #[.int .i64 (onF T.rule (forces T) n i (k - i)).lo, .int .i64 (onF T.rule (forces T) n i (k - i)).hi]) ?_ rfl ⟨?_, by repeat' (first | exact Below.refl _ _ | assumption | refine below_drewN ?_ _ | refine Below.drew ?_ | refine Below.alloc ?_ (by first | assumption | omega | (simp <;> omega)) _ | refine Below.setCell ?_ (by first | assumption | omega | (simp <;> omega)) _ | refine Ext2.on (by assumption) ?_)⟩
      · simp [results, Try.results89, go_sem, q2c, q2f]
      rfl
end Go.Proofs.Ytfjbgcaogffiaaa
