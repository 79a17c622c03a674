/-
  decay.mornings: the maker of the iterator.
  decay.mornings: the iterator.
  The closures of known's search.
  decay.after: the levels on a morning that follow from those on an earlier one.
  slices.Backward: its iterators.
  slices.Backward: its iterators.
-/
import Derived.Test.YtfjbgcaogffiaaaDHeap
import Derived.Test.YtfjbgcaogffiaaaDIter
import Derived.Test.YtfjbgcaogffiaaaDOpen
namespace Go.Proofs.Ytfjbgcaogffiaaa
open Go.RowKit D
set_option linter.unusedVariables false
set_option linter.unusedSimpArgs false
attribute [local go_sem high] run_minI run_maxI
/-- The boxes of the iterator: its reel, the caller's span, from, until. -/
def mornW (w : World) (px pn : Option Addr) (i j : Int) : World := (((w.alloc (.cells #[.pointer px] 88)).alloc (.cells #[.pointer pn] 126)).alloc (.cells #[.int .i64 i] 3)).alloc (.cells #[.int .i64 j] 3)
def mornF (n : Nat) : Value := .func (.func 105) #[] #[.pointer (some ⟨n + 1 + 1, 0, none⟩), .pointer (some ⟨n + 1 + 1 + 1, 0, none⟩), .pointer (some ⟨n, 0, none⟩), .pointer (some ⟨n + 1, 0, none⟩)]
theorem mornings_any (px pn : Option Addr) (i j : Int) (w : World) : Calls Try.prog 79 #[.pointer px, .pointer pn, .int .i64 i, .int .i64 j] w fun e w' => e = .returned (mornF w.heap.size) ∧ w' = mornW w px pn i j := by
  go_enter Try.func79, Try.ntmps79
  go_wp2
  go_ret
  exact ⟨rfl, rfl⟩
theorem mornW_blk (w : World) (px pn : Option Addr) (i j : Int) :
    Below w.heap.size w (mornW w px pn i j) ∧ (mornW w px pn i j).heap.size = w.heap.size + 1 + 1 + 1 + 1 ∧ (mornW w px pn i j).heap[w.heap.size]? = some (.cells #[.pointer px] 88) ∧ (mornW w px pn i j).heap[w.heap.size + 1]? = some (.cells #[.pointer pn] 126) ∧
    (mornW w px pn i j).heap[w.heap.size + 1 + 1]? = some (.cells #[.int .i64 i] 3) ∧ (mornW w px pn i j).heap[w.heap.size + 1 + 1 + 1]? = some (.cells #[.int .i64 j] 3) := by
  unfold mornW
  refine ⟨by repeat' (first | exact Below.refl _ _ | assumption | refine below_drewN ?_ _ | refine Below.drew ?_ | refine Below.alloc ?_ (by first | assumption | omega | (simp <;> omega)) _ | refine Below.setCell ?_ (by first | assumption | omega | (simp <;> omega)) _), by simp, ?_, ?_, ?_, ?_⟩
  · repeat' (first | (with_reducible assumption) | (with_reducible refine blk_set_ne ?_ ?_) | (with_reducible exact blk_new _ _) | (with_reducible refine blk_new' _ _ (by first | (with_reducible rfl) | (simp; done) | (simp <;> omega))) | (with_reducible refine blk_alloc ?_ _) | (with_reducible refine blk_drew ?_) | (with_reducible refine blk_drewN ?_ _) | (with_reducible refine Ext2.blk (by assumption) ?_) | omega | (simp <;> omega) | exact blk_set (by assumption) _ _)
  · repeat' (first | (with_reducible assumption) | (with_reducible refine blk_set_ne ?_ ?_) | (with_reducible exact blk_new _ _) | (with_reducible refine blk_new' _ _ (by first | (with_reducible rfl) | (simp; done) | (simp <;> omega))) | (with_reducible refine blk_alloc ?_ _) | (with_reducible refine blk_drew ?_) | (with_reducible refine blk_drewN ?_ _) | (with_reducible refine Ext2.blk (by assumption) ?_) | omega | (simp <;> omega) | exact blk_set (by assumption) _ _)
  · repeat' (first | (with_reducible assumption) | (with_reducible refine blk_set_ne ?_ ?_) | (with_reducible exact blk_new _ _) | (with_reducible refine blk_new' _ _ (by first | (with_reducible rfl) | (simp; done) | (simp <;> omega))) | (with_reducible refine blk_alloc ?_ _) | (with_reducible refine blk_drew ?_) | (with_reducible refine blk_drewN ?_ _) | (with_reducible refine Ext2.blk (by assumption) ?_) | omega | (simp <;> omega) | exact blk_set (by assumption) _ _)
  · repeat' (first | (with_reducible assumption) | (with_reducible refine blk_set_ne ?_ ?_) | (with_reducible exact blk_new _ _) | (with_reducible refine blk_new' _ _ (by first | (with_reducible rfl) | (simp; done) | (simp <;> omega))) | (with_reducible refine blk_alloc ?_ _) | (with_reducible refine blk_drew ?_) | (with_reducible refine blk_drewN ?_ _) | (with_reducible refine Ext2.blk (by assumption) ?_) | omega | (simp <;> omega) | exact blk_set (by assumption) _ _)
end Go.Proofs.Ytfjbgcaogffiaaa
namespace Go.Proofs.Ytfjbgcaogffiaaa
open Go.RowKit D
set_option linter.unusedVariables false
set_option linter.unusedSimpArgs false
attribute [local go_sem high] run_minI run_maxI
attribute [local go_sem] upon2 cls_cell cls_frozen forall_const exists_eq_left'
attribute [local go_sem] FirstUpon Oper.semAt_some
theorem field_span0 (a b : Int) (w : World) : Sem.run Try.prog (Instr.field 28 (.agg #[.int .i64 a, .int .i64 b]) 0) w = .ok (.int .i64 a) w := by kernel_rfl
theorem field_span1 (a b : Int) (w : World) : Sem.run Try.prog (Instr.field 28 (.agg #[.int .i64 a, .int .i64 b]) 1) w = .ok (.int .i64 b) w := by kernel_rfl
attribute [local go_sem] field_span0 field_span1
/-- The boxes of the iterator. -/
structure MornAt (W : World) (nb B Bn : Nat) (i j : Int) : Prop where
  x : W.heap[nb]? = some (.cells #[.pointer (some ⟨B, 0, none⟩)] 88 (0, 0))
  n : W.heap[nb + 1]? = some (.cells #[.pointer (some ⟨Bn, 0, none⟩)] 126 (0, 0))
  i : W.heap[nb + 1 + 1]? = some (.cells #[.int .i64 i] 3 (0, 0))
  j : W.heap[nb + 1 + 1 + 1]? = some (.cells #[.int .i64 j] 3 (0, 0))
structure MornPre (T : Task) (s : TSl) (f : Sl) (nb B Bn : Nat) (i j : Int) (b : Span) (W : World) : Prop where
  box : MornAt W nb B Bn i j
  reel : W.heap[B]? = some (reelO T s f T.days.length)
  force : RowS W f 2 T.days.length (spC (spanD (forces T)))
  now : W.heap[Bn]? = some (Obj.cells #[.int .i64 b.lo, .int .i64 b.hi] 28)
def mornStep (T : Task) (Bn i : Nat) (b : Nat → Span) (k : Nat) (W1 W2 : World) : Prop :=
  ∃ W', Ext2 W1 W' ∧ W2 = (W'.setCell ⟨Bn, 0, none⟩ (.int .i64 (grow T.rule (spanD (forces T) (i + k)) (b k)).lo)).setCell ⟨Bn, 1, none⟩ (.int .i64 (grow T.rule (spanD (forces T) (i + k)) (b k)).hi)
def mornLb (nb : Nat) : Array Value := #[.pointer (some ⟨nb + 1 + 1, 0, none⟩), .pointer (some ⟨nb + 1 + 1 + 1, 0, none⟩), .pointer (some ⟨nb, 0, none⟩), .pointer (some ⟨nb + 1, 0, none⟩)]
set_option maxRecDepth 100000 in
set_option maxHeartbeats 2000000 in
theorem mornIter_in (F : Fence) (hF : F = Fence.wide) (hro : F.round = none) {T : Task} {s : TSl} {f : Sl} {nb B Bn i j : Nat} (hk : TaskOk T) (hij : i ≤ j) (hj : j ≤ T.days.length) {b : Nat → Span} (hb : ∀ k, i + k < j → LevOk (b k))
    (l : Nat) (I M X : Nat → World → Prop) (W : World) (hp0 : MornAt W nb B Bn i j)
    (hY : ∀ k W1, k < j - i + 1 → I k W1 → YieldAt F 0 Try.prog l #[.int .i64 ((i + k : Nat) : Int)] W1 fun e W' => (e = .returned (.bool true) ∧ M k W') ∨ (e = .returned (.bool false) ∧ X k W'))
    (hPre : ∀ k W1, k < j - i + 1 → M k W1 → MornPre T s f nb B Bn i j (b k) W1) (hStep : ∀ k W1 W2, k + 1 < j - i + 1 → M k W1 → mornStep T Bn i b k W1 W2 → I (k + 1) W2) (h0 : I 0 W) :
    CallsIn F 1 Try.prog 105 (#[.func (.yield l) #[] #[]] ++ mornLb nb) W fun e W' => (∃ v, e = .returned v) ∧ ((j - i + 1 = 0 ∧ I 0 W') ∨ (∃ k, k + 1 = j - i + 1 ∧ M k W') ∨ ∃ k, k < j - i + 1 ∧ X k W') := by
  have HY := Lib.hid hY; have HP := Lib.hid hPre; have HS := Lib.hid hStep; have H0 := Lib.hid h0; have HK := Lib.hid hk; have HB := Lib.hid hb; have HF := Lib.hid hF
  clear hY hPre hStep h0 hk hb
  have hd := HK.out.nd
  have c1 := hp0.i
  have qic := cell_blk c1
  have qif := frz_blk c1
  refine callsIn_of_wp Try.func105 rfl (by rw [hF]; trivial) ?_ hro
  clear hF
  unfold mornLb
  simp only [Try.ntmps105, List.size_toArray, List.length_cons, List.length_nil, Nat.reduceAdd, Nat.reduceSub, Array.replicate_succ, Array.replicate_zero, List.push_toArray, List.append_toArray, List.nil_append, List.cons_append]
  gi_wp2
  clear qic qif c1
  gi_loopw [6] (fun v wr => ∃ m : Nat, v = .int .i64 (m : Int) ∧ i ≤ m ∧ m ≤ j ∧ I (m - i) wr) (fun v _ => j + 1 - (intOf v).toNat)
  case atStart => exact ⟨i, rfl, Nat.le_refl _, hij, by rw [Nat.sub_self]; exact H0.out⟩
  case round =>
    obtain ⟨m, rfl, him, hmj, hi⟩ := hrel
    have hk : m - i < j - i + 1 := by omega
    obtain ⟨fn, tmps, assign, body, hy, hR⟩ := HY.out (m - i) wr hk hi
    rw [show i + (m - i) = m by omega] at hy
    have HR := Lib.hid hR; clear hR
    gi_wp2
    refine HR.out.mono ?_
    rintro e W3 (⟨rfl, hM⟩ | ⟨rfl, hX⟩)
    · have hp := HP.out (m - i) W3 hk hM
      have HM := Lib.hid hM
      clear hM hi
      obtain ⟨⟨c3, c4, -, c2⟩, c6, hfr, c5⟩ := hp
      have qjc := cell_blk c2
      have qjf := frz_blk c2
      clear hy
      rcases Nat.lt_or_ge m j with hlt | hge
      · have hlt' : (m : Int) < (j : Int) := by omega
        have hi0 : (0 : Int) ≤ (m : Int) := by omega
        have hm1 : (m : Int) < (T.days.length : Int) := by omega
        obtain ⟨fb, fo, hfa, hfr'⟩ := hfr.row (by omega) (by omega)
        obtain ⟨fa, fc⟩ := f
        obtain rfl : fa = some ⟨fb, fo, none⟩ := hfa
        obtain ⟨f0, f1⟩ := hfr'.two (i := m) (by omega)
        simp only [spC] at f0 f1
        have hfc1 := hfr.le
        have hfc2 := hfr.max
        dsimp only at hfc1 hfc2
        have hg := growOk_at HK.out (i := m) (by omega)
        have hst : mornStep T Bn i b (m - i) = fun W1 W2 => ∃ W', Ext2 W1 W' ∧ W2 = (W'.setCell ⟨Bn, 0, none⟩ (.int .i64 (grow T.rule (spanD (forces T) m) (b (m - i))).lo)).setCell ⟨Bn, 1, none⟩ (.int .i64 (grow T.rule (spanD (forces T) m) (b (m - i))).hi) := by
          funext W1 W2; unfold mornStep; rw [show i + (m - i) = m by omega]
        have hlev := HB.out (m - i) (by omega)
        obtain ⟨n, hn⟩ : ∃ n, n = b (m - i) := ⟨_, rfl⟩
        obtain ⟨st, hst'⟩ : ∃ st, st = spanD (forces T) m := ⟨_, rfl⟩
        rw [← hn] at c5 hst hlev
        rw [← hst'] at f0 f1 hg hst
        have HST := Lib.hid hst
        have HX1 : Hid (∀ W, Calls Try.prog 65 #[.agg #[.slice s.h.a T.rule.heat.length s.h.cap, .slice s.w.a T.rule.wet.length s.w.cap, .int .i64 T.rule.own, .int .i64 T.rule.feed, .int .i64 T.rule.g0, .int .i64 T.rule.g1, .int .i64 T.rule.g2, .int .i64 T.rule.lost], .agg #[.int .i64 st.lo, .int .i64 st.hi], .int .i64 n.lo] W fun e w' => e = .returned (.agg #[.int .i64 (least T.rule st n.lo), .int .i64 (most T.rule st n.lo)]) ∧ Below W.heap.size W w') := Lib.hid fun W => gains_any hg hlev.1.1 hlev.1.2 W
        have HX2 : Hid (∀ W, Calls Try.prog 65 #[.agg #[.slice s.h.a T.rule.heat.length s.h.cap, .slice s.w.a T.rule.wet.length s.w.cap, .int .i64 T.rule.own, .int .i64 T.rule.feed, .int .i64 T.rule.g0, .int .i64 T.rule.g1, .int .i64 T.rule.g2, .int .i64 T.rule.lost], .agg #[.int .i64 st.lo, .int .i64 st.hi], .int .i64 n.hi] W fun e w' => e = .returned (.agg #[.int .i64 (least T.rule st n.hi), .int .i64 (most T.rule st n.hi)]) ∧ Below W.heap.size W w') := Lib.hid fun W => gains_any hg hlev.2.1 hlev.2.2 W
        clear hg hst hlev hn hst' hfr hfr'
        have C6 := Lib.hid c6
        unfold reelO at c6
        have qxc := cell_blk c3
        have qxf := frz_blk c3
        have qnc := cell_blk c4
        have qnf := frz_blk c4
        have qbc := cell_blk c5
        have qbf := frz_blk c5
        have qrc := cell_blk c6
        have qrf := frz_blk c6
        gi_wp2
        rw [HF.out]
        refine wpIn_wide.2 ?_
        refine region_ev [] [0, 1, 2, 3, 4, 5, 6, 7, 8, 9, 10, 11, 12, 13, 14, 15, 16, 17, 18, 19, 20, 21, 22, 23, 24, 25, 26, 27, 28, 29, 30, 31, 32, 33, 34, 35, 36] [] [37] (by kernel_rfl) (by kernel_rfl) (by intro c a d v w h; cases d <;> exact h) ?_
        simp only [picks, List.drop_succ_cons, List.drop_zero]
        repeat (refine wpQ0_step (fun K hK => ?_); go_simp; (refine hK _ ?_; clear hK K))
        refine wpQ0_nil ?_
        repeat (refine wpQ2_step (fun K hK => ?_); go_simp; first | (refine hK _ ?_; clear hK K) | (apply Exists.intro; refine ⟨fun x => ?_, hK _ ?_⟩; (first | (with_reducible exact HX1.out x.1) | (with_reducible exact HX2.out x.1)); clear hK K))
        refine wpQ2_nil ?_
        refine Events.none_ fun w4 hg4 => ?_
        simp only [picks, List.drop_succ_cons, List.drop_zero]
        have d5 := hg4.blk c5
        clear qxc qxf qnc qnf qbc qbf qrc qrf qjc qjf f0 f1
        have qbc := cell_blk d5
        have qbf := frz_blk d5
        go_wp2_with (fail)
        gi_wp2
        go_roundw
        case rel =>
          refine ⟨m + 1, by go_num, by omega, by omega, ?_⟩
          rw [show m + 1 - i = m - i + 1 by omega]
          exact HS.out (m - i) W3 _ (by omega) HM.out (by rw [HST.out]; exact ⟨w4, hg4, rfl⟩)
        case measure => simp [intOf]; omega
      · have hge' : ¬ (m : Int) < (j : Int) := by omega
        gi_wp2
        go_end0
        exact ⟨⟨_, rfl⟩, .inr (.inl ⟨m - i, by omega, HM.out⟩)⟩
    · gi_wp2
      go_end0
      exact ⟨⟨_, rfl⟩, .inr (.inr ⟨m - i, hk, hX⟩)⟩
theorem mornIter {T : Task} {s : TSl} {f : Sl} {nb B Bn i j : Nat} (hk : TaskOk T) (hij : i ≤ j) (hj : j ≤ T.days.length) {b : Nat → Span} (hb : ∀ k, i + k < j → LevOk (b k)) :
    IterR Try.prog 105 (mornLb nb) (j - i + 1) (fun k => #[.int .i64 ((i + k : Nat) : Int)]) (mornStep T Bn i b) (fun k W => MornPre T s f nb B Bn i j (b k) W) (fun W => MornAt W nb B Bn i j) :=
  fun l I M X W hp0 hY hPre hStep h0 => callsIn_wide.2 (callsIn_wide.1 (mornIter_in Fence.wide rfl rfl hk hij hj hb l I M X W hp0 hY hPre hStep h0))
end Go.Proofs.Ytfjbgcaogffiaaa
namespace Go.Proofs.Ytfjbgcaogffiaaa
open Go.RowKit D
set_option linter.unusedVariables false
set_option linter.unusedSimpArgs false
attribute [local go_sem high] run_minI run_maxI
attribute [local go_sem] upon2 cls_cell cls_frozen forall_const exists_eq_left'
attribute [local go_sem] FirstUpon field_span0 field_span1
structure KnAt (W : World) (T : Task) (s : TSl) (f : Sl) (bx B bs ba g off bb : Nat) (st b : Span) (alo : Int) : Prop where
  x : W.heap[bx]? = some (.cells #[.pointer (some ⟨B, 0, none⟩)] 88 (0, 0))
  r : W.heap[B]? = some (reelO T s f T.days.length)
  s : W.heap[bs]? = some (Obj.cells #[.int .i64 st.lo, .int .i64 st.hi] 28)
  a : W.heap[ba]? = some (.cells #[.pointer (some ⟨g, off, none⟩)] 126 (0, 0))
  b : W.heap[bb]? = some (Obj.cells #[.int .i64 b.lo, .int .i64 b.hi] 28)
  c : W.cell? ⟨g, off, none⟩ = some (.int .i64 alo)
theorem KnAt.ext {W W' : World} {T : Task} {s : TSl} {f : Sl} {bx B bs ba g off bb : Nat} {st b : Span} {alo : Int} (h : KnAt W T s f bx B bs ba g off bb st b alo) (hg : Ext2 W W') : KnAt W' T s f bx B bs ba g off bb st b alo :=
  ⟨hg.blk h.x, hg.blk h.r, hg.blk h.s, hg.blk h.a, hg.blk h.b, (Below.cell hg (cell_lt h.c)).trans h.c⟩
set_option maxRecDepth 100000 in
set_option maxHeartbeats 2000000 in
theorem known2_any {T : Task} {s : TSl} {f : Sl} {bx B bs ba g off bb : Nat} {st b : Span} {alo : Int} {k : Nat} {W : World} (h : KnAt W T s f bx B bs ba g off bb st b alo) (hg : GrowOk T.rule st) (h0 : 0 ≤ alo) (h1 : alo + k ≤ 1000000) :
    Calls Try.prog 86 (#[.int .i64 (k : Int)] ++ #[.pointer (some ⟨bx, 0, none⟩), .pointer (some ⟨bs, 0, none⟩), .pointer (some ⟨ba, 0, none⟩), .pointer (some ⟨bb, 0, none⟩)]) W fun e w' => e = .returned (.bool (decide (b.lo ≤ most T.rule st (alo + k)))) ∧ Below W.heap.size W w' := by
  have w1 : IntKind.i64.wrap (alo + (k : Int)) = alo + (k : Int) := IntWalk.i64_in _ (by omega)
  have HX : Hid (∀ W, Calls Try.prog 65 #[.agg #[.slice s.h.a T.rule.heat.length s.h.cap, .slice s.w.a T.rule.wet.length s.w.cap, .int .i64 T.rule.own, .int .i64 T.rule.feed, .int .i64 T.rule.g0, .int .i64 T.rule.g1, .int .i64 T.rule.g2, .int .i64 T.rule.lost], .agg #[.int .i64 st.lo, .int .i64 st.hi], .int .i64 (alo + k)] W fun e w' => e = .returned (.agg #[.int .i64 (least T.rule st (alo + k)), .int .i64 (most T.rule st (alo + k))]) ∧ Below W.heap.size W w') := Lib.hid fun W => gains_any hg (by omega) h1 W
  obtain ⟨c1, c2, c3, c4, c5, c6⟩ := h
  unfold reelO at c2
  clear hg h1
  have q1c := cell_blk c1
  have q1f := frz_blk c1
  have q2c := cell_blk c2
  have q2f := frz_blk c2
  have q3c := cell_blk c3
  have q3f := frz_blk c3
  have q4c := cell_blk c4
  have q4f := frz_blk c4
  have q5c := cell_blk c5
  have q5f := frz_blk c5
  go_enter Try.func86, Try.ntmps86
  go_wp2_with (fail)
  refine region_ev [] [0, 1, 2, 3, 4, 5, 6, 7, 8, 9, 10, 11, 12, 13, 14, 15, 16] [] [] (by kernel_rfl) (by kernel_rfl) (by intro c a d v w h; cases d <;> exact h) ?_
  simp only [picks, List.drop_succ_cons, List.drop_zero]
  repeat (refine wpQ0_step (fun K hK => ?_); go_simp; (refine hK _ ?_; clear hK K))
  refine wpQ0_nil ?_
  repeat (refine wpQ2_step (fun K hK => ?_); go_simp; first | (refine hK _ ?_; clear hK K) | (apply Exists.intro; refine ⟨fun x => ?_, hK _ ?_⟩; (first | (with_reducible exact HX.out x.1)); clear hK K))
  refine wpQ2_nil ?_
  refine Events.none_ fun w2 hg2 => ?_
  simp only [picks, List.drop_succ_cons, List.drop_zero]
  go_wp2_with (fail)
  go_ret
  exact ⟨ret_bool (by simp), hg2⟩
set_option maxRecDepth 100000 in
set_option maxHeartbeats 2000000 in
theorem known3_any {T : Task} {s : TSl} {f : Sl} {bx B bs ba g off bb : Nat} {st b : Span} {alo : Int} {k : Nat} {W : World} (h : KnAt W T s f bx B bs ba g off bb st b alo) (hg : GrowOk T.rule st) (h0 : 0 ≤ alo) (h1 : alo + k ≤ 1000000) :
    Calls Try.prog 87 (#[.int .i64 (k : Int)] ++ #[.pointer (some ⟨bx, 0, none⟩), .pointer (some ⟨bs, 0, none⟩), .pointer (some ⟨ba, 0, none⟩), .pointer (some ⟨bb, 0, none⟩)]) W fun e w' => e = .returned (.bool (decide (b.hi < least T.rule st (alo + k)))) ∧ Below W.heap.size W w' := by
  have w1 : IntKind.i64.wrap (alo + (k : Int)) = alo + (k : Int) := IntWalk.i64_in _ (by omega)
  have HX : Hid (∀ W, Calls Try.prog 65 #[.agg #[.slice s.h.a T.rule.heat.length s.h.cap, .slice s.w.a T.rule.wet.length s.w.cap, .int .i64 T.rule.own, .int .i64 T.rule.feed, .int .i64 T.rule.g0, .int .i64 T.rule.g1, .int .i64 T.rule.g2, .int .i64 T.rule.lost], .agg #[.int .i64 st.lo, .int .i64 st.hi], .int .i64 (alo + k)] W fun e w' => e = .returned (.agg #[.int .i64 (least T.rule st (alo + k)), .int .i64 (most T.rule st (alo + k))]) ∧ Below W.heap.size W w') := Lib.hid fun W => gains_any hg (by omega) h1 W
  obtain ⟨c1, c2, c3, c4, c5, c6⟩ := h
  unfold reelO at c2
  clear hg h1
  have q1c := cell_blk c1
  have q1f := frz_blk c1
  have q2c := cell_blk c2
  have q2f := frz_blk c2
  have q3c := cell_blk c3
  have q3f := frz_blk c3
  have q4c := cell_blk c4
  have q4f := frz_blk c4
  have q5c := cell_blk c5
  have q5f := frz_blk c5
  go_enter Try.func87, Try.ntmps87
  go_wp2_with (fail)
  refine region_ev [] [0, 1, 2, 3, 4, 5, 6, 7, 8, 9, 10, 11, 12, 13, 14, 15, 16] [] [] (by kernel_rfl) (by kernel_rfl) (by intro c a d v w h; cases d <;> exact h) ?_
  simp only [picks, List.drop_succ_cons, List.drop_zero]
  repeat (refine wpQ0_step (fun K hK => ?_); go_simp; (refine hK _ ?_; clear hK K))
  refine wpQ0_nil ?_
  repeat (refine wpQ2_step (fun K hK => ?_); go_simp; first | (refine hK _ ?_; clear hK K) | (apply Exists.intro; refine ⟨fun x => ?_, hK _ ?_⟩; (first | (with_reducible exact HX.out x.1)); clear hK K))
  refine wpQ2_nil ?_
  refine Events.none_ fun w2 hg2 => ?_
  simp only [picks, List.drop_succ_cons, List.drop_zero]
  go_wp2_with (fail)
  go_ret
  exact ⟨ret_bool (by simp), hg2⟩
end Go.Proofs.Ytfjbgcaogffiaaa
namespace Go.Proofs.Ytfjbgcaogffiaaa
open Go.RowKit D
set_option linter.unusedVariables false
set_option linter.unusedSimpArgs false
attribute [local go_sem high] run_minI run_maxI
attribute [local go_sem] upon2 cls_cell cls_frozen forall_const exists_eq_left'
attribute [local go_sem] FirstUpon Oper.semAt_some
theorem mornAt_of {w : World} {B Bn : Nat} {i j : Int} : MornAt (mornW w (some ⟨B, 0, none⟩) (some ⟨Bn, 0, none⟩) i j) w.heap.size B Bn i j := by
  obtain ⟨_, _, h1, h2, h3, h4⟩ := mornW_blk w (some ⟨B, 0, none⟩) (some ⟨Bn, 0, none⟩) i j
  exact ⟨h1, h2, h3, h4⟩
theorem MornAt.below {W W' : World} {nb B Bn : Nat} {i j : Int} (h : MornAt W nb B Bn i j) (hb : Below (nb + 1 + 1 + 1 + 1) W W') : MornAt W' nb B Bn i j :=
  ⟨below_blk hb h.x (by omega), below_blk hb h.n (by omega), below_blk hb h.i (by omega), below_blk hb h.j (by omega)⟩
theorem MornAt.ext {W W' : World} {nb B Bn : Nat} {i j : Int} (h : MornAt W nb B Bn i j) (hb : Ext2 W W') : MornAt W' nb B Bn i j := ⟨hb.blk h.x, hb.blk h.n, hb.blk h.i, hb.blk h.j⟩
theorem MornAt.set {W : World} {nb B Bn g o : Nat} {i j : Int} {v : Value} (h : MornAt W nb B Bn i j) (hg : g < nb ∨ nb + 1 + 1 + 1 < g) : MornAt (W.setCell ⟨g, o, none⟩ v) nb B Bn i j :=
  ⟨blk_set_ne h.x (by omega), blk_set_ne h.n (by omega), blk_set_ne h.i (by omega), blk_set_ne h.j (by omega)⟩
theorem MornAt.kept {C : Nat} {W W' : World} {row : Option Nat} (hg : W.grownBy W' row) (hr : ∀ r, row = some r → C ≤ r ∧ ∃ o : Obj, W.heap[r]? = some o ∧ o.isCells = false) {nb B Bn : Nat} {i j : Int} (h : MornAt W nb B Bn i j) : MornAt W' nb B Bn i j :=
  ⟨kept_blk hg hr h.x, kept_blk hg hr h.n, kept_blk hg hr h.i, kept_blk hg hr h.j⟩
theorem blk_put {W : World} {b d : Nat} {x o : Obj} (h : W.heap[b]? = some x) (hne : b ≠ d) : (W.putObj d o).heap[b]? = some x := (World.putObj_heap_other hne).trans h
theorem below_put {B d : Nat} {w W : World} {o : Obj} (h : Below B w W) (hB : B ≤ d) : Below B w (W.putObj d o) :=
  ⟨h.os, h.tape, h.output, Nat.le_trans h.size (grownBy_putObj' W d o).size, fun k hk => (World.putObj_heap_other (by omega)).trans (h.block k hk)⟩
theorem leaves_nil {fn : Func} {tmps : Array Value} {R : Ending → World → Prop} {w : World} {v : Value} (h : (results fn tmps).run Try.prog w = .ok v w) (hr : R (.returned v) w) : LeavesInM Fence.wide 0 Try.prog fn tmps R [] .returning w := ⟨v, h, hr⟩
set_option maxRecDepth 100000 in
set_option maxHeartbeats 2000000 in
theorem after_any {T : Task} {s : TSl} {f : Sl} {B i j : Nat} {n : Span} {w : World} (hk : TaskOk T) (hn : LevOk n) (hij : i ≤ j) (hj : j ≤ T.days.length) (hB : w.heap[B]? = some (reelO T s f T.days.length)) (hf : RowS w f 2 T.days.length (spC (spanD (forces T)))) :
    Calls Try.prog 83 #[.pointer (some ⟨B, 0, none⟩), .agg #[.int .i64 n.lo, .int .i64 n.hi], .int .i64 (i : Int), .int .i64 (j : Int)] w fun e w' => e = .returned (.agg #[.int .i64 (on T.rule (forces T) n i j).lo, .int .i64 (on T.rule (forces T) n i j).hi]) ∧ Below w.heap.size w w' := by
  have HK := Lib.hid hk; have HN := Lib.hid hn; have HB := Lib.hid hB; have HF := Lib.hid hf
  have hBl := blk_lt hB
  clear hk hn hB hf
  refine calls_of_wp_marks Try.func83 rfl ?_
  simp only [Try.ntmps83, List.size_toArray, List.length_cons, List.length_nil, Nat.reduceAdd, Nat.reduceSub, Array.replicate_succ, Array.replicate_zero, List.push_toArray, List.append_toArray, List.nil_append, List.cons_append]
  go_wp2_with (fail)
  refine (mornings_any _ _ _ _ _).mono ?_
  rintro e w1 ⟨rfl, hw1⟩
  have hm := mornW_blk ((w.alloc (Obj.cells #[.int .i64 n.lo, .int .i64 n.hi] 28)).alloc (Obj.cells #[.int .i64 0, .int .i64 0] 28)) (some ⟨B, 0, none⟩) (some ⟨w.heap.size, 0, none⟩) (i : Int) (j : Int)
  rw [← hw1] at hm
  obtain ⟨hb1, hs1, -⟩ := hm
  have hat : MornAt w1 (w.heap.size + 1 + 1) B w.heap.size i j := by rw [hw1]; have := @mornAt_of ((w.alloc (Obj.cells #[.int .i64 n.lo, .int .i64 n.hi] 28)).alloc (Obj.cells #[.int .i64 0, .int .i64 0] 28)) B w.heap.size i j; simpa using this
  have b0 : w1.heap[w.heap.size]? = some (Obj.cells #[.int .i64 n.lo, .int .i64 n.hi] 28) := below_blk hb1 (by repeat' (first | (with_reducible assumption) | (with_reducible refine blk_set_ne ?_ ?_) | (with_reducible exact blk_new _ _) | (with_reducible refine blk_new' _ _ (by first | (with_reducible rfl) | (simp; done) | (simp <;> omega))) | (with_reducible refine blk_alloc ?_ _) | (with_reducible refine blk_drew ?_) | (with_reducible refine blk_drewN ?_ _) | (with_reducible refine Ext2.blk (by assumption) ?_) | omega | (simp <;> omega) | exact blk_set (by assumption) _ _)) (by simp; omega)
  have b1 : w1.heap[w.heap.size + 1]? = some (Obj.cells #[.int .i64 0, .int .i64 0] 28) := below_blk hb1 (by repeat' (first | (with_reducible assumption) | (with_reducible refine blk_set_ne ?_ ?_) | (with_reducible exact blk_new _ _) | (with_reducible refine blk_new' _ _ (by first | (with_reducible rfl) | (simp; done) | (simp <;> omega))) | (with_reducible refine blk_alloc ?_ _) | (with_reducible refine blk_drew ?_) | (with_reducible refine blk_drewN ?_ _) | (with_reducible refine Ext2.blk (by assumption) ?_) | omega | (simp <;> omega) | exact blk_set (by assumption) _ _)) (by simp)
  have hB1 : Below w.heap.size w w1 := Below.trans (by repeat' (first | exact Below.refl _ _ | assumption | refine below_drewN ?_ _ | refine Below.drew ?_ | refine Below.alloc ?_ (by first | assumption | omega | (simp <;> omega)) _ | refine Below.setCell ?_ (by first | assumption | omega | (simp <;> omega)) _ | refine Ext2.on (by assumption) ?_)) (hb1.mono (by simp; omega))
  simp only [World.size_alloc] at hs1
  clear hw1 hb1
  unfold mornF
  simp only [World.size_alloc]
  go_wp2_with (fail)
  refine rf_out (gf := 105) (lb := mornLb (w.heap.size + 1 + 1)) rfl (enters_of Try.func105 (by kernel_rfl) rfl) (mornIter (T := T) (s := s) (f := f) (nb := w.heap.size + 1 + 1) (B := B) (Bn := w.heap.size) HK.out hij hj (b := fun k => onF T.rule (forces T) n i k) (fun k h => onF_lev HK.out HN.out k (by omega))) (fun _ => rfl)
    (fun k W => Below w.heap.size w W ∧ MornAt W (w.heap.size + 1 + 1) B w.heap.size i j ∧ W.heap[w.heap.size]? = some (Obj.cells #[.int .i64 (onF T.rule (forces T) n i k).lo, .int .i64 (onF T.rule (forces T) n i k).hi] 28) ∧ W.heap[w.heap.size + 1]? = some (Obj.cells #[.int .i64 0, .int .i64 0] 28))
    (fun k W => Below w.heap.size w W ∧ MornAt W (w.heap.size + 1 + 1) B w.heap.size i j ∧ W.heap[w.heap.size]? = some (Obj.cells #[.int .i64 (onF T.rule (forces T) n i k).lo, .int .i64 (onF T.rule (forces T) n i k).hi] 28) ∧ W.heap[w.heap.size + 1]? = some (Obj.cells #[.int .i64 0, .int .i64 0] 28))
    (fun k _ W => Below w.heap.size w W ∧ MornAt W (w.heap.size + 1 + 1) B w.heap.size i j ∧ W.heap[w.heap.size]? = some (Obj.cells #[.int .i64 (onF T.rule (forces T) n i k).lo, .int .i64 (onF T.rule (forces T) n i k).hi] 28) ∧ W.heap[w.heap.size + 1]? = some (Obj.cells #[.int .i64 0, .int .i64 0] 28))
    (fun _ _ _ => False) ⟨?k, ?k, fun _ => ?k, fun _ _ _ _ _ h _ _ => h⟩ (fun W hW => hat.ext hW) ⟨hB1, hat, b0, b1⟩
    (fun k W _ hm => ⟨hm.2.1, below_blk hm.1 HB.out hBl, HF.out.below hm.1, hm.2.2.1⟩)
    (fun k W1 W2 _ hm hs => ?step) ?assign ?body ?done (fun _ _ _ _ _ _ h _ => h.elim)
  case k => exact fun k W W' row hs hg hr => ⟨kept_below hg hr hs.1 (Nat.le_refl _) (by omega), hs.2.1.kept hg hr, kept_blk hg hr hs.2.2.1, kept_blk hg hr hs.2.2.2⟩
  case step =>
    obtain ⟨W', hx, rfl⟩ := hs
    refine ⟨(keeps_below hx).trans ((KeepsOthers.setCell _ _ _).trans (KeepsOthers.setCell _ _ _)), below_set (below_set (hx.on hm.1) (by omega)) (by omega), ((hm.2.1.ext hx).set (by omega)).set (by omega), Eq.trans (blk_set (blk_set (hx.blk hm.2.2.1) _ _) _ _) rfl, ?_⟩
    exact blk_set_ne (blk_set_ne (hx.blk hm.2.2.2) (by omega)) (by omega)
  case assign =>
    intro l k W hk hi
    gi_wp2
    exact ⟨KeepsOthers.refl _, hi⟩
  case body =>
    intro l k a' W hl hr hk hi
    gi_wp2
    exact ⟨KeepsOthers.refl _, hi⟩
  case done =>
    rintro d W hd hfin hD
    rcases hfin with ⟨h, _⟩ | ⟨k, hk, h1, h2, h3, h4⟩
    · omega
    obtain rfl : k = j - i := by omega
    have HD := Lib.hid hD
    have hd1 : d < W.heap.size := blk_lt hD
    have hd2 : ¬ d = w.heap.size + 1 := by omega
    have q0c := cell_blk h3
    have q0f := frz_blk h3
    have q1c := cell_blk h4
    have q1f := frz_blk h4
    go_wp2_with (fail)
    have r1 : ((W.setCell ⟨w.heap.size + 1, 0, none⟩ (.int .i64 (onF T.rule (forces T) n i (j - i)).lo)).setCell ⟨w.heap.size + 1, 1, none⟩ (.int .i64 (onF T.rule (forces T) n i (j - i)).hi)).heap[w.heap.size + 1]? = some (Obj.cells #[.int .i64 (onF T.rule (forces T) n i (j - i)).lo, .int .i64 (onF T.rule (forces T) n i (j - i)).hi] 28) := Eq.trans (blk_set (blk_set h4 _ _) _ _) rfl
    have rB : Below w.heap.size w ((W.setCell ⟨w.heap.size + 1, 0, none⟩ (.int .i64 (onF T.rule (forces T) n i (j - i)).lo)).setCell ⟨w.heap.size + 1, 1, none⟩ (.int .i64 (onF T.rule (forces T) n i (j - i)).hi)) := below_set (below_set h1 (by omega)) (by omega)
    refine ⟨by simp, .inl ⟨_, _, rfl, run_takeDeferred (blk_set_ne (blk_set_ne HD.out (by omega)) (by omega)), ?_⟩⟩
    have r2 := blk_put (d := d) (o := .deferred none) r1 (by omega)
    have rB2 := below_put (d := d) (o := .deferred none) rB (by omega)
    refine leaves_nil (v := .agg #[.int .i64 (onF T.rule (forces T) n i (j - i)).lo, .int .i64 (onF T.rule (forces T) n i (j - i)).hi]) ?_ ⟨rfl, rB2⟩
    have zc := cell_blk r2
    have zf := frz_blk r2
    simp [results, Try.results83, go_sem, zc]
end Go.Proofs.Ytfjbgcaogffiaaa
namespace Go.Proofs.Ytfjbgcaogffiaaa
open Go.RowKit D
set_option linter.unusedVariables false
set_option linter.unusedSimpArgs false
attribute [local go_sem high] run_minI run_maxI
attribute [local go_sem] upon2 cls_cell cls_frozen forall_const exists_eq_left'
attribute [local go_sem] FirstUpon Oper.semAt_some
theorem backI_any (a : Option Addr) (n cap : Nat) (w : World) : Calls Try.prog 82 #[.slice a n cap] w fun e w' => e = .returned (.func (.func 106) #[] #[.pointer (some ⟨w.heap.size, 0, none⟩)]) ∧ w' = w.alloc (.cells #[.slice a n cap] 44 (0, 0)) := by
  go_enter Try.func82, Try.ntmps82
  go_wp2
  go_ret
  exact ⟨rfl, rfl⟩
structure BackIAt (W : World) (bb : Nat) (s : Sl) (n : Nat) (c : Nat → Nat → Value) : Prop where
  box : W.heap[bb]? = some (.cells #[.slice s.a n s.cap] 44 (0, 0))
  row : RowS W s 1 n c
set_option maxRecDepth 100000 in
set_option maxHeartbeats 2000000 in
theorem backIIter_in (F : Fence) (hF : F = Fence.wide) (hro : F.round = none) {bb n : Nat} {s : Sl} {L : List Nat} (hn : n ≤ 1000000)
    (l : Nat) (I M X : Nat → World → Prop) (W : World) (hp0 : BackIAt W bb s n (natC L))
    (hY : ∀ k W1, k < n → I k W1 → YieldAt F 0 Try.prog l #[.int .i64 ((n - 1 - k : Nat) : Int), .int .i64 ((L.getD (n - 1 - k) 0 : Nat) : Int)] W1 fun e W' => (e = .returned (.bool true) ∧ M k W') ∨ (e = .returned (.bool false) ∧ X k W'))
    (hPre : ∀ k W1, k < n → M k W1 → BackIAt W1 bb s n (natC L)) (hStep : ∀ k W1 W2, k + 1 < n → M k W1 → W2 = W1 → I (k + 1) W2) (h0 : I 0 W) :
    CallsIn F 1 Try.prog 106 (#[.func (.yield l) #[] #[]] ++ #[.pointer (some ⟨bb, 0, none⟩)]) W fun e W' => (∃ v, e = .returned v) ∧ ((n = 0 ∧ I 0 W') ∨ (∃ k, k + 1 = n ∧ M k W') ∨ ∃ k, k < n ∧ X k W') := by
  have HY := Lib.hid hY; have HP := Lib.hid hPre; have HS := Lib.hid hStep; have H0 := Lib.hid h0; have HP0 := Lib.hid hp0
  clear hY hPre hStep h0
  have c1 := hp0.box
  have qic := cell_blk c1
  have qif := frz_blk c1
  have w1 : IntKind.i64.wrap ((n : Int) - 1) = (n : Int) - 1 := IntWalk.i64_in _ (by omega)
  refine callsIn_of_wp Try.func106 rfl (by rw [hF]; trivial) ?_ hro
  clear hF hp0
  simp only [Try.ntmps106, List.size_toArray, List.length_cons, List.length_nil, Nat.reduceAdd, Nat.reduceSub, Array.replicate_succ, Array.replicate_zero, List.push_toArray, List.append_toArray, List.nil_append, List.cons_append]
  gi_wp2
  clear qic qif c1
  gi_loopw [3] (fun v wr => ∃ m : Nat, v = .int .i64 ((m : Int) - 1) ∧ m ≤ n ∧ (0 < m → I (n - m) wr ∧ BackIAt wr bb s n (natC L)) ∧ (m = 0 → (n = 0 ∧ I 0 wr) ∨ (∃ k, k + 1 = n ∧ M k wr) ∨ ∃ k, k < n ∧ X k wr)) (fun v _ => (intOf v + 1).toNat)
  case atStart => exact ⟨n, rfl, Nat.le_refl _, fun _ => ⟨by rw [Nat.sub_self]; exact H0.out, HP0.out⟩, fun h => .inl ⟨h, H0.out⟩⟩
  case round =>
    obtain ⟨m, rfl, hm, ha, hb⟩ := hrel
    rcases Nat.eq_zero_or_pos m with h | h
    · subst h
      have HB := Lib.hid (hb rfl); clear ha hb
      gi_wp2
      go_end0
      exact ⟨⟨_, rfl⟩, HB.out⟩
    · obtain ⟨m, rfl⟩ : ∃ m', m = m' + 1 := ⟨m - 1, by omega⟩
      obtain ⟨hi, hat⟩ := ha h
      clear ha hb
      have hk : n - (m + 1) < n := by omega
      obtain ⟨fn, tmps, assign, body, hy, hR⟩ := HY.out (n - (m + 1)) wr hk hi
      rw [show n - 1 - (n - (m + 1)) = m by omega] at hy
      have HR := Lib.hid hR; clear hR hi
      obtain ⟨c1, hrow⟩ := hat
      obtain ⟨fb, fo, hfa, hr⟩ := hrow.row (by omega) (by omega)
      obtain ⟨sa, sc⟩ := s
      obtain rfl : sa = some ⟨fb, fo, none⟩ := hfa
      have f0 := hr.one (i := m) (by omega)
      simp only [natC] at f0
      obtain ⟨y, hy0⟩ : ∃ y, y = L.getD m 0 := ⟨_, rfl⟩
      rw [← hy0] at f0 hy
      clear hy0
      have hc1 := hrow.le
      have hc2 := hrow.max
      dsimp only at hc1 hc2
      have e1 : ((m + 1 : Nat) : Int) - 1 = (m : Int) := by omega
      have j0 : (0 : Int) ≤ (m : Int) := by omega
      have j1 : (m : Int) < (n : Int) := by omega
      have w2 : IntKind.i64.wrap ((m : Int) - 1) = (m : Int) - 1 := IntWalk.i64_in _ (by omega)
      rw [e1]
      clear hrow hr
      have q1c := cell_blk c1
      have q1f := frz_blk c1
      gi_wp2
      refine HR.out.mono ?_
      rintro e W3 (⟨rfl, hM⟩ | ⟨rfl, hX⟩)
      · have HM := Lib.hid hM; clear hM hy
        gi_wp2
        go_roundw
        case rel =>
          refine ⟨m, by go_num, by omega, fun h0 => ?_, fun h0 => .inr (.inl ⟨n - (m + 1), by omega, HM.out⟩)⟩
          have h2 := HS.out (n - (m + 1)) W3 W3 (by omega) HM.out rfl
          rw [show n - (m + 1) + 1 = n - m by omega] at h2
          exact ⟨h2, HP.out _ W3 hk HM.out⟩
        case measure => simp [intOf] <;> omega
      · gi_wp2
        refine bodyPost_ret (results_none rfl _ _ _) rfl ?_
        exact ⟨⟨_, rfl⟩, .inr (.inr ⟨n - (m + 1), hk, hX⟩)⟩
theorem backIIter {bb n : Nat} {s : Sl} {L : List Nat} (hn : n ≤ 1000000) :
    IterR Try.prog 106 #[.pointer (some ⟨bb, 0, none⟩)] n (fun k => #[.int .i64 ((n - 1 - k : Nat) : Int), .int .i64 ((L.getD (n - 1 - k) 0 : Nat) : Int)]) (fun _ W1 W2 => W2 = W1) (fun _ W => BackIAt W bb s n (natC L)) (fun W => BackIAt W bb s n (natC L)) :=
  fun l I M X W hp0 hY hPre hStep h0 => callsIn_wide.2 (callsIn_wide.1 (backIIter_in Fence.wide rfl rfl hn l I M X W hp0 hY hPre hStep h0))
end Go.Proofs.Ytfjbgcaogffiaaa
namespace Go.Proofs.Ytfjbgcaogffiaaa
open Go.RowKit D
set_option linter.unusedVariables false
set_option linter.unusedSimpArgs false
attribute [local go_sem high] run_minI run_maxI
attribute [local go_sem] upon2 cls_cell cls_frozen forall_const exists_eq_left'
attribute [local go_sem] FirstUpon Oper.semAt_some
theorem backS_any (a : Option Addr) (n cap : Nat) (w : World) : Calls Try.prog 84 #[.slice a n cap] w fun e w' => e = .returned (.func (.func 107) #[] #[.pointer (some ⟨w.heap.size, 0, none⟩)]) ∧ w' = w.alloc (.cells #[.slice a n cap] 32 (0, 0)) := by
  go_enter Try.func84, Try.ntmps84
  go_wp2
  go_ret
  exact ⟨rfl, rfl⟩
structure BackSAt (W : World) (bb : Nat) (s : Sl) (n : Nat) (c : Nat → Nat → Value) : Prop where
  box : W.heap[bb]? = some (.cells #[.slice s.a n s.cap] 32 (0, 0))
  row : RowS W s 2 n c
set_option maxRecDepth 100000 in
set_option maxHeartbeats 2000000 in
theorem backSIter_in (F : Fence) (hF : F = Fence.wide) (hro : F.round = none) {bb n : Nat} {s : Sl} {fs : Nat → Span} (hn : n ≤ 1000000)
    (l : Nat) (I M X : Nat → World → Prop) (W : World) (hp0 : BackSAt W bb s n (spC fs))
    (hY : ∀ k W1, k < n → I k W1 → YieldAt F 0 Try.prog l #[.int .i64 ((n - 1 - k : Nat) : Int), .agg #[.int .i64 (fs (n - 1 - k)).lo, .int .i64 (fs (n - 1 - k)).hi]] W1 fun e W' => (e = .returned (.bool true) ∧ M k W') ∨ (e = .returned (.bool false) ∧ X k W'))
    (hPre : ∀ k W1, k < n → M k W1 → BackSAt W1 bb s n (spC fs)) (hStep : ∀ k W1 W2, k + 1 < n → M k W1 → W2 = W1 → I (k + 1) W2) (h0 : I 0 W) :
    CallsIn F 1 Try.prog 107 (#[.func (.yield l) #[] #[]] ++ #[.pointer (some ⟨bb, 0, none⟩)]) W fun e W' => (∃ v, e = .returned v) ∧ ((n = 0 ∧ I 0 W') ∨ (∃ k, k + 1 = n ∧ M k W') ∨ ∃ k, k < n ∧ X k W') := by
  have HY := Lib.hid hY; have HP := Lib.hid hPre; have HS := Lib.hid hStep; have H0 := Lib.hid h0; have HP0 := Lib.hid hp0
  clear hY hPre hStep h0
  have c1 := hp0.box
  have qic := cell_blk c1
  have qif := frz_blk c1
  have w1 : IntKind.i64.wrap ((n : Int) - 1) = (n : Int) - 1 := IntWalk.i64_in _ (by omega)
  refine callsIn_of_wp Try.func107 rfl (by rw [hF]; trivial) ?_ hro
  clear hF hp0
  simp only [Try.ntmps107, List.size_toArray, List.length_cons, List.length_nil, Nat.reduceAdd, Nat.reduceSub, Array.replicate_succ, Array.replicate_zero, List.push_toArray, List.append_toArray, List.nil_append, List.cons_append]
  gi_wp2
  clear qic qif c1
  gi_loopw [3] (fun v wr => ∃ m : Nat, v = .int .i64 ((m : Int) - 1) ∧ m ≤ n ∧ (0 < m → I (n - m) wr ∧ BackSAt wr bb s n (spC fs)) ∧ (m = 0 → (n = 0 ∧ I 0 wr) ∨ (∃ k, k + 1 = n ∧ M k wr) ∨ ∃ k, k < n ∧ X k wr)) (fun v _ => (intOf v + 1).toNat)
  case atStart => exact ⟨n, rfl, Nat.le_refl _, fun _ => ⟨by rw [Nat.sub_self]; exact H0.out, HP0.out⟩, fun h => .inl ⟨h, H0.out⟩⟩
  case round =>
    obtain ⟨m, rfl, hm, ha, hb⟩ := hrel
    rcases Nat.eq_zero_or_pos m with h | h
    · subst h
      have HB := Lib.hid (hb rfl); clear ha hb
      gi_wp2
      go_end0
      exact ⟨⟨_, rfl⟩, HB.out⟩
    · obtain ⟨m, rfl⟩ : ∃ m', m = m' + 1 := ⟨m - 1, by omega⟩
      obtain ⟨hi, hat⟩ := ha h
      clear ha hb
      have hk : n - (m + 1) < n := by omega
      obtain ⟨fn, tmps, assign, body, hy, hR⟩ := HY.out (n - (m + 1)) wr hk hi
      rw [show n - 1 - (n - (m + 1)) = m by omega] at hy
      have HR := Lib.hid hR; clear hR hi
      obtain ⟨c1, hrow⟩ := hat
      obtain ⟨fb, fo, hfa, hr⟩ := hrow.row (by omega) (by omega)
      obtain ⟨sa, sc⟩ := s
      obtain rfl : sa = some ⟨fb, fo, none⟩ := hfa
      obtain ⟨f0, f1⟩ := hr.two (i := m) (by omega)
      simp only [spC] at f0 f1
      have hc1 := hrow.le
      have hc2 := hrow.max
      dsimp only at hc1 hc2
      have e1 : ((m + 1 : Nat) : Int) - 1 = (m : Int) := by omega
      have j0 : (0 : Int) ≤ (m : Int) := by omega
      have j1 : (m : Int) < (n : Int) := by omega
      have w2 : IntKind.i64.wrap ((m : Int) - 1) = (m : Int) - 1 := IntWalk.i64_in _ (by omega)
      rw [e1]
      clear hrow hr
      have q1c := cell_blk c1
      have q1f := frz_blk c1
      gi_wp2
      refine HR.out.mono ?_
      rintro e W3 (⟨rfl, hM⟩ | ⟨rfl, hX⟩)
      · have HM := Lib.hid hM; clear hM hy
        gi_wp2
        go_roundw
        case rel =>
          refine ⟨m, by go_num, by omega, fun h0 => ?_, fun h0 => .inr (.inl ⟨n - (m + 1), by omega, HM.out⟩)⟩
          have h2 := HS.out (n - (m + 1)) W3 W3 (by omega) HM.out rfl
          rw [show n - (m + 1) + 1 = n - m by omega] at h2
          exact ⟨h2, HP.out _ W3 hk HM.out⟩
        case measure => simp [intOf] <;> omega
      · gi_wp2
        refine bodyPost_ret (results_none rfl _ _ _) rfl ?_
        exact ⟨⟨_, rfl⟩, .inr (.inr ⟨n - (m + 1), hk, hX⟩)⟩
theorem backSIter {bb n : Nat} {s : Sl} {fs : Nat → Span} (hn : n ≤ 1000000) :
    IterR Try.prog 107 #[.pointer (some ⟨bb, 0, none⟩)] n (fun k => #[.int .i64 ((n - 1 - k : Nat) : Int), .agg #[.int .i64 (fs (n - 1 - k)).lo, .int .i64 (fs (n - 1 - k)).hi]]) (fun _ W1 W2 => W2 = W1) (fun _ W => BackSAt W bb s n (spC fs)) (fun W => BackSAt W bb s n (spC fs)) :=
  fun l I M X W hp0 hY hPre hStep h0 => callsIn_wide.2 (callsIn_wide.1 (backSIter_in Fence.wide rfl rfl hn l I M X W hp0 hY hPre hStep h0))
end Go.Proofs.Ytfjbgcaogffiaaa
