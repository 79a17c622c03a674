/-
  The law DecayCooler, walked.
-/
import Derived.Test.YtfjbgcaogffiaaaDLow
namespace Go.Proofs.Ytfjbgcaogffiaaa
open Go.RowKit D
set_option linter.unusedVariables false
set_option linter.unusedSimpArgs false
attribute [local go_sem high] run_minI run_maxI
attribute [local go_sem] upon2 cls_cell cls_frozen forall_const exists_eq_left'
attribute [local go_sem] FirstUpon at2_cell at2_cell'
set_option maxRecDepth 100000 in
set_option maxHeartbeats 2000000 in
theorem cooler_no {T : Task} {s : TSl} {m n : Nat → Int} {w : World} (hT : TaskAt w T s) (h0 : (D.checkTask (bareT T)).2.2 ≠ 0) : Calls Try.prog 7 #[.agg #[.slice s.h.a T.rule.heat.length s.h.cap, .slice s.w.a T.rule.wet.length s.w.cap, .int .i64 T.rule.own, .int .i64 T.rule.feed, .int .i64 T.rule.g0, .int .i64 T.rule.g1, .int .i64 T.rule.g2, .int .i64 T.rule.lost, .int .i64 T.first, .slice s.d.a T.days.length s.d.cap, .int .i64 T.start.lo, .int .i64 T.start.hi, .slice s.t.a T.tests.length s.t.cap], .agg #[.int .u8 (m 0), .int .u8 (m 1)], .agg #[.int .u8 (n 0), .int .u8 (n 1), .int .u8 (n 2)]] w fun e w' => e = .returned (.bool true) ∧ Below w.heap.size w w' := by
  obtain ⟨p1, p2, p3, hp⟩ : ∃ a b c, D.checkTask (bareT T) = (a, b, c) := ⟨_, _, _, rfl⟩
  have hp3 : (D.checkTask (bareT T)).2.2 = p3 := by rw [hp]
  obtain ⟨L, hL⟩ : ∃ L, L = lostOut (bareT T) := ⟨_, rfl⟩
  have HP : Hid (∀ W, Below w.heap.size w W → Calls Try.prog 17 #[.agg #[.slice s.h.a T.rule.heat.length s.h.cap, .slice s.w.a T.rule.wet.length s.w.cap, .int .i64 T.rule.own, .int .i64 T.rule.feed, .int .i64 T.rule.g0, .int .i64 T.rule.g1, .int .i64 T.rule.g2, .int .i64 T.rule.lost, .int .i64 T.first, (.slice s.d.a T.days.length s.d.cap), .int .i64 T.start.lo, .int .i64 T.start.hi, (.slice none 0 0)]] W fun e w' => (∃ s1 s2 : Sl, e = .returned (.tuple #[.slice s1.a 0 s1.cap, .slice s2.a 0 s2.cap, .int .i64 p3])) ∧ Below W.heap.size W w') := Lib.hid fun W hW => by
    have h := levels_no (bare_at (hT.below hW)) h0; rw [hp3] at h; exact h
  have HL : Hid (∀ W, Below w.heap.size w W → Calls Try.prog 31 #[.agg #[.slice s.h.a T.rule.heat.length s.h.cap, .slice s.w.a T.rule.wet.length s.w.cap, .int .i64 T.rule.own, .int .i64 T.rule.feed, .int .i64 T.rule.g0, .int .i64 T.rule.g1, .int .i64 T.rule.g2, .int .i64 T.rule.lost, .int .i64 T.first, (.slice s.d.a T.days.length s.d.cap), .int .i64 T.start.lo, .int .i64 T.start.hi, (.slice none 0 0)]] W fun e w' => e = .returned (.tuple #[.agg #[.int .i64 L.lo, .int .i64 L.hi], .int .i64 p3]) ∧ Below W.heap.size W w') := Lib.hid fun W hW => by
    have h := lostP_any (bare_at (hT.below hW)); rw [hp3, ← hL] at h; exact h
  have HC : Hid (∀ W, Below w.heap.size w W → Calls Try.prog 22 #[.agg #[.slice s.h.a T.rule.heat.length s.h.cap, .slice s.w.a T.rule.wet.length s.w.cap, .int .i64 T.rule.own, .int .i64 T.rule.feed, .int .i64 T.rule.g0, .int .i64 T.rule.g1, .int .i64 T.rule.g2, .int .i64 T.rule.lost, .int .i64 T.first, (.slice s.d.a T.days.length s.d.cap), .int .i64 T.start.lo, .int .i64 T.start.hi, (.slice none 0 0)]] W fun e w' => e = .returned (.tuple #[.int .i64 p1, .int .i64 p2, .int .i64 p3]) ∧ Below W.heap.size W w') := Lib.hid fun W hW => by
    have h := checkTaskR_any (bare_at (hT.below hW)); rw [hp] at h; exact h
  have HA : Hid (∀ W, Calls Try.prog 21 #[] W fun e w' => e = .returned (.bool true) ∧ Below W.heap.size W w') := Lib.hid fun W => awake_any W
  rw [hp3] at h0
  have hne2 : (p3 != 0) = true := by simp [h0]
  have heq : (p3 == p3) = true := by simp
  clear hT hp hp3 hL
  go_enter Try.func7, Try.ntmps7
  go_wp2_with (fail)
  refine calls_name ?_
  intro w1 h1
  have x0 : w1.heap[w.heap.size]? = some (Obj.cells #[.slice s.h.a T.rule.heat.length s.h.cap, .slice s.w.a T.rule.wet.length s.w.cap, .int .i64 T.rule.own, .int .i64 T.rule.feed, .int .i64 T.rule.g0, .int .i64 T.rule.g1, .int .i64 T.rule.g2, .int .i64 T.rule.lost, .int .i64 T.first, (.slice s.d.a T.days.length s.d.cap), .int .i64 T.start.lo, .int .i64 T.start.hi, (.slice none 0 0)] 31) := by rw [h1]; repeat' (first | (with_reducible assumption) | (with_reducible refine blk_set_ne ?_ ?_) | (with_reducible exact blk_new _ _) | (with_reducible refine blk_new' _ _ (by first | (with_reducible rfl) | (simp; done) | (simp <;> omega))) | (with_reducible refine blk_alloc ?_ _) | (with_reducible refine blk_drew ?_) | (with_reducible refine blk_drewN ?_ _) | (with_reducible refine Ext2.blk (by assumption) ?_) | omega | (simp <;> omega) | exact blk_set (by assumption) _ _)
  have hB1 : Below w.heap.size w w1 := by rw [h1]; repeat' (first | exact Below.refl _ _ | assumption | refine below_drewN ?_ _ | refine Below.drew ?_ | refine Below.alloc ?_ (by first | assumption | omega | (simp <;> omega)) _ | refine Below.setCell ?_ (by first | assumption | omega | (simp <;> omega)) _ | refine Ext2.on (by assumption) ?_)
  clear h1
  (with_reducible refine (HP.out _ hB1).mono ?_)
  rintro e w2 ⟨⟨s1, s2, rfl⟩, hb2⟩
  have hB2 := below_ext hB1 hb2
  have x0 := Ext2.blk hb2 x0
  clear hb2
  have q0c := cell_blk x0
  have q0f := frz_blk x0
  go_wp2_with (fail)
  (with_reducible refine (HL.out _ hB2).mono ?_)
  rintro e w3 ⟨rfl, hb3⟩
  have hB3 := below_ext hB2 hb3
  have x0 := Ext2.blk hb3 x0
  clear q0c q0f hb3
  have q0c := cell_blk x0
  have q0f := frz_blk x0
  have j0 := blk_lt x0
  have j1 : ¬ w.heap.size = w3.heap.size := by omega
  go_wp2_with (fail)
  refine calls_name ?_
  intro w4 h4
  have hE4 : Ext2 w3 w4 := by rw [h4]; exact below_alloc' _ _
  have hB4 := below_ext hB3 hE4
  clear h4 q0c q0f x0
  (with_reducible refine (HC.out _ hB4).mono ?_)
  rintro e w5 ⟨rfl, hb5⟩
  have hB5 := below_ext hB4 hb5
  go_wp2_with (fail)
  (with_reducible refine (HA.out _).mono ?_)
  rintro e w6 ⟨rfl, hb6⟩
  have hB6 := below_ext hB5 hb6
  go_wp2_with (fail)
  go_ret
  exact ⟨rfl, hB6⟩
theorem dayC_up {L : List Day} {x : Day} {k p q : Nat} (hx : dayD L k = x) (hp : p < k + 1) (hq : q < 4) : upd (dayC L) k [.int .i64 x.tlo, .int .i64 x.thi, .int .i64 x.dlo, .int .i64 x.dhi] p q = dayC L p q := by
  by_cases h : p = k
  · subst h
    rw [upd_at]
    rcases (by omega : q = 0 ∨ q = 1 ∨ q = 2 ∨ q = 3) with rfl | rfl | rfl | rfl <;> simp only [dayC, hx] <;> rfl
  · rw [upd_lt (by omega)]
theorem elDayA : Elem Try.prog 26 48 (.agg #[.int .i64 0, .int .i64 0, .int .i64 0, .int .i64 0]) 4 32 := ⟨by kernel_rfl, by kernel_rfl, rfl, by omega, by omega⟩
set_option maxRecDepth 100000 in
set_option maxHeartbeats 2000000 in
theorem cooler_yes {T : Task} {s : TSl} {m n : Nat → Int} {w : World} (hT : TaskAt w T s) (hm : ∀ i, i < 2 → 0 ≤ m i ∧ m i ≤ 255) (hn : ∀ i, i < 3 → 0 ≤ n i ∧ n i ≤ 255) (h0 : (D.checkTask (bareT T)).2.2 = 0) : Calls Try.prog 7 #[.agg #[.slice s.h.a T.rule.heat.length s.h.cap, .slice s.w.a T.rule.wet.length s.w.cap, .int .i64 T.rule.own, .int .i64 T.rule.feed, .int .i64 T.rule.g0, .int .i64 T.rule.g1, .int .i64 T.rule.g2, .int .i64 T.rule.lost, .int .i64 T.first, .slice s.d.a T.days.length s.d.cap, .int .i64 T.start.lo, .int .i64 T.start.hi, .slice s.t.a T.tests.length s.t.cap], .agg #[.int .u8 (m 0), .int .u8 (m 1)], .agg #[.int .u8 (n 0), .int .u8 (n 1), .int .u8 (n 2)]] w fun e w' => e = .returned (.bool true) ∧ Below w.heap.size w w' := by
  have hk := (task_ok h0).1
  have HK := Lib.hid hk
  have HT := Lib.hid hT
  have HMM := Lib.hid hm
  have m0 := hm 0 (by omega); have m1 := hm 1 (by omega)
  have n0 := hn 0 (by omega); have n1 := hn 1 (by omega); have n2 := hn 2 (by omega)
  have HP : Hid (∀ W, Below w.heap.size w W → Calls Try.prog 17 #[.agg #[.slice s.h.a T.rule.heat.length s.h.cap, .slice s.w.a T.rule.wet.length s.w.cap, .int .i64 T.rule.own, .int .i64 T.rule.feed, .int .i64 T.rule.g0, .int .i64 T.rule.g1, .int .i64 T.rule.g2, .int .i64 T.rule.lost, .int .i64 T.first, (.slice s.d.a T.days.length s.d.cap), .int .i64 T.start.lo, .int .i64 T.start.hi, (.slice none 0 0)]] W fun e w' => (∃ s1 s2 : Sl, e = .returned (.tuple #[.slice s1.a (T.days.length + 1) s1.cap, .slice s2.a (struckT (bareT T)).length s2.cap, .int .i64 0]) ∧ RowS w' s1 2 (T.days.length + 1) (spC (lv (bareT T)))) ∧ Below W.heap.size W w') := Lib.hid fun W hW => by
    have h := levels_yes (bare_at (hT.below hW)) h0
    refine h.mono ?_
    rintro e w' ⟨⟨s1, s2, h1, h2, -⟩, h3⟩
    exact ⟨⟨s1, s2, h1, h2⟩, h3⟩
  obtain ⟨L, hL⟩ : ∃ L, L = lostT (bareT T) := ⟨_, rfl⟩
  have HL : Hid (∀ W, Below w.heap.size w W → Calls Try.prog 31 #[.agg #[.slice s.h.a T.rule.heat.length s.h.cap, .slice s.w.a T.rule.wet.length s.w.cap, .int .i64 T.rule.own, .int .i64 T.rule.feed, .int .i64 T.rule.g0, .int .i64 T.rule.g1, .int .i64 T.rule.g2, .int .i64 T.rule.lost, .int .i64 T.first, (.slice s.d.a T.days.length s.d.cap), .int .i64 T.start.lo, .int .i64 T.start.hi, (.slice none 0 0)]] W fun e w' => e = .returned (.tuple #[.agg #[.int .i64 L.lo, .int .i64 L.hi], .int .i64 0]) ∧ Below W.heap.size W w') := Lib.hid fun W hW => by
    have h := lost_yes (bare_at (hT.below hW)) h0; rw [← hL] at h; exact h
  have HC : Hid (∀ W, Below w.heap.size w W → Calls Try.prog 22 #[.agg #[.slice s.h.a T.rule.heat.length s.h.cap, .slice s.w.a T.rule.wet.length s.w.cap, .int .i64 T.rule.own, .int .i64 T.rule.feed, .int .i64 T.rule.g0, .int .i64 T.rule.g1, .int .i64 T.rule.g2, .int .i64 T.rule.lost, .int .i64 T.first, (.slice s.d.a T.days.length s.d.cap), .int .i64 T.start.lo, .int .i64 T.start.hi, (.slice none 0 0)]] W fun e w' => e = .returned (.tuple #[.int .i64 0, .int .i64 0, .int .i64 0]) ∧ Below W.heap.size W w') := Lib.hid fun W hW => by
    have h := check_yes (bare_at (hT.below hW)) h0; exact h
  have HA : Hid (∀ W, Calls Try.prog 21 #[] W fun e w' => e = .returned (.bool true) ∧ Below W.heap.size W w') := Lib.hid fun W => awake_any W
  have hnd : T.days.length ≤ 400 := hk.nd
  have hst : (0 ≤ T.start.lo ∧ T.start.lo ≤ 1000000) ∧ (0 ≤ T.start.hi ∧ T.start.hi ≤ 1000000) ∧ T.start.lo ≤ T.start.hi := hk.start
  have hro : 0 ≤ T.rule.own ∧ T.rule.own ≤ 100000 := hk.rule.own
  have hrf : 0 ≤ T.rule.feed ∧ T.rule.feed ≤ 999999 := hk.rule.feed
  have hdl := hT.days.le
  have hdm := hT.days.max
  have HLE := Lib.hid hL
  clear hT h0 hk hL hm hn
  go_enter Try.func7, Try.ntmps7
  go_wp2_with (fail)
  refine calls_name ?_
  intro w1 h1
  have x0 : w1.heap[w.heap.size]? = some (Obj.cells #[.slice s.h.a T.rule.heat.length s.h.cap, .slice s.w.a T.rule.wet.length s.w.cap, .int .i64 T.rule.own, .int .i64 T.rule.feed, .int .i64 T.rule.g0, .int .i64 T.rule.g1, .int .i64 T.rule.g2, .int .i64 T.rule.lost, .int .i64 T.first, (.slice s.d.a T.days.length s.d.cap), .int .i64 T.start.lo, .int .i64 T.start.hi, (.slice none 0 0)] 31) := by rw [h1]; repeat' (first | (with_reducible assumption) | (with_reducible refine blk_set_ne ?_ ?_) | (with_reducible exact blk_new _ _) | (with_reducible refine blk_new' _ _ (by first | (with_reducible rfl) | (simp; done) | (simp <;> omega))) | (with_reducible refine blk_alloc ?_ _) | (with_reducible refine blk_drew ?_) | (with_reducible refine blk_drewN ?_ _) | (with_reducible refine Ext2.blk (by assumption) ?_) | omega | (simp <;> omega) | exact blk_set (by assumption) _ _)
  have x4 : w1.heap[w.heap.size + 1]? = some (Obj.cells #[.int .u8 (m 0), .int .u8 (m 1)] 66) := by rw [h1]; repeat' (first | (with_reducible assumption) | (with_reducible refine blk_set_ne ?_ ?_) | (with_reducible exact blk_new _ _) | (with_reducible refine blk_new' _ _ (by first | (with_reducible rfl) | (simp; done) | (simp <;> omega))) | (with_reducible refine blk_alloc ?_ _) | (with_reducible refine blk_drew ?_) | (with_reducible refine blk_drewN ?_ _) | (with_reducible refine Ext2.blk (by assumption) ?_) | omega | (simp <;> omega) | exact blk_set (by assumption) _ _)
  have x5 : w1.heap[w.heap.size + 2]? = some (Obj.cells #[.int .u8 (n 0), .int .u8 (n 1), .int .u8 (n 2)] 67) := by rw [h1]; repeat' (first | (with_reducible assumption) | (with_reducible refine blk_set_ne ?_ ?_) | (with_reducible exact blk_new _ _) | (with_reducible refine blk_new' _ _ (by first | (with_reducible rfl) | (simp; done) | (simp <;> omega))) | (with_reducible refine blk_alloc ?_ _) | (with_reducible refine blk_drew ?_) | (with_reducible refine blk_drewN ?_ _) | (with_reducible refine Ext2.blk (by assumption) ?_) | omega | (simp <;> omega) | exact blk_set (by assumption) _ _)
  have hB1 : Below w.heap.size w w1 := by rw [h1]; repeat' (first | exact Below.refl _ _ | assumption | refine below_drewN ?_ _ | refine Below.drew ?_ | refine Below.alloc ?_ (by first | assumption | omega | (simp <;> omega)) _ | refine Below.setCell ?_ (by first | assumption | omega | (simp <;> omega)) _ | refine Ext2.on (by assumption) ?_)
  clear h1
  (with_reducible refine (HP.out _ hB1).mono ?_)
  rintro e w2 ⟨⟨⟨la, lc⟩, s2, rfl, hl⟩, hb2⟩
  have hB2 := below_ext hB1 hb2
  have x0 := Ext2.blk hb2 x0
  have x4 := Ext2.blk hb2 x4
  have x5 := Ext2.blk hb2 x5
  obtain ⟨lb, loff, hla, -⟩ := sp_two hl (i := 0) (by omega)
  dsimp only at hla
  subst hla
  have HLV := Lib.hid hl
  clear hb2 hl HP
  have q0c := cell_blk x0
  have q0f := frz_blk x0
  go_wp2_with (fail)
  (with_reducible refine (HL.out _ hB2).mono ?_)
  rintro e w3 ⟨rfl, hb3⟩
  have hB3 := below_ext hB2 hb3
  have x0 := Ext2.blk hb3 x0
  have x4 := Ext2.blk hb3 x4
  have x5 := Ext2.blk hb3 x5
  have HLV := Lib.hid (HLV.out.below hb3)
  clear q0c q0f hb3 HL
  have q0c := cell_blk x0
  have q0f := frz_blk x0
  have j0 := blk_lt x0
  have j1 : ¬ w.heap.size = w3.heap.size := by omega
  go_wp2_with (fail)
  refine calls_name ?_
  intro w4 h4
  have hE4 : Ext2 w3 w4 := by rw [h4]; exact below_alloc' _ _
  have x10 : w4.heap[w3.heap.size]? = some (Obj.cells #[.int .i64 L.lo, .int .i64 L.hi] 28) := by rw [h4]; exact blk_new _ _
  have hB4 := below_ext hB3 hE4
  obtain ⟨b10, hb10⟩ : ∃ b, b = w3.heap.size := ⟨_, rfl⟩
  rw [← hb10] at x10 ⊢
  have x0 := Ext2.blk hE4 x0
  have x4 := Ext2.blk hE4 x4
  have x5 := Ext2.blk hE4 x5
  have HLV := Lib.hid (HLV.out.below hE4)
  clear h4 q0c q0f hb10 hE4
  (with_reducible refine (HC.out _ hB4).mono ?_)
  rintro e w5 ⟨rfl, hb5⟩
  have hB5 := below_ext hB4 hb5
  have x0 := Ext2.blk hb5 x0
  have x4 := Ext2.blk hb5 x4
  have x5 := Ext2.blk hb5 x5
  have x10 := Ext2.blk hb5 x10
  have HLV := Lib.hid (HLV.out.below hb5)
  clear hb5 HC
  have q0c := cell_blk x0
  have q0f := frz_blk x0
  go_wp2_with (fail)
  refine wp_name ?_
  intro w6 h6
  have hE6 : Ext2 w5 w6 := by rw [h6]; repeat' (first | exact Below.refl _ _ | assumption | refine below_drewN ?_ _ | refine Below.drew ?_ | refine Below.alloc ?_ (by first | assumption | omega | (simp <;> omega)) _ | refine Below.setCell ?_ (by first | assumption | omega | (simp <;> omega)) _ | refine Ext2.on (by assumption) ?_)
  have x15 : w6.heap[w5.heap.size]? = some (Obj.cells #[.slice s.h.a T.rule.heat.length s.h.cap, .slice s.w.a T.rule.wet.length s.w.cap, .int .i64 T.rule.own, .int .i64 T.rule.feed, .int .i64 T.rule.g0, .int .i64 T.rule.g1, .int .i64 T.rule.g2, .int .i64 T.rule.lost, .int .i64 T.first, (.slice none 0 0), .int .i64 T.start.lo, .int .i64 T.start.hi, (.slice none 0 0)] 31) := by rw [h6]; repeat' (first | (with_reducible assumption) | (with_reducible refine blk_set_ne ?_ ?_) | (with_reducible exact blk_new _ _) | (with_reducible refine blk_new' _ _ (by first | (with_reducible rfl) | (simp; done) | (simp <;> omega))) | (with_reducible refine blk_alloc ?_ _) | (with_reducible refine blk_drew ?_) | (with_reducible refine blk_drewN ?_ _) | (with_reducible refine Ext2.blk (by assumption) ?_) | omega | (simp <;> omega) | exact blk_set (by assumption) _ _)
  have hz6 := blk_lt x15
  have HX0 := Lib.hid (Ext2.blk hE6 x0); have HX4 := Lib.hid (Ext2.blk hE6 x4); have HX5 := Lib.hid (Ext2.blk hE6 x5); have HX10 := Lib.hid (Ext2.blk hE6 x10); have HX15 := Lib.hid x15
  have k0 := blk_lt x0; have k4 := blk_lt x4; have k5 := blk_lt x5; have k10 := blk_lt x10
  have hB6 := below_ext hB5 hE6
  obtain ⟨b15, hb15⟩ : ∃ b, b = w5.heap.size := ⟨_, rfl⟩
  have HLB : Hid (∀ W, Below b15 w6 W → RowS W ⟨some ⟨lb, loff, none⟩, lc⟩ 2 (T.days.length + 1) (spC (lv (bareT T)))) := Lib.hid fun W hW => by
    rw [hb15] at hW
    exact HLV.out.below (Below.trans hE6 hW)
  rw [← hb15] at HX15 hz6 k0 k4 k5 k10 ⊢
  have hle15 : w.heap.size ≤ b15 := by omega
  clear h6 x0 x4 x5 x10 x15 q0c q0f hb15 hE6 HLV
  go_loopw [16] (fun i wr => ∃ (k : Nat) (v : Value), i = .int .i64 (k : Int) ∧ k ≤ T.days.length ∧ Below b15 w6 wr ∧ wr.heap[b15]? = some (Obj.cells #[.slice s.h.a T.rule.heat.length s.h.cap, .slice s.w.a T.rule.wet.length s.w.cap, .int .i64 T.rule.own, .int .i64 T.rule.feed, .int .i64 T.rule.g0, .int .i64 T.rule.g1, .int .i64 T.rule.g2, .int .i64 T.rule.lost, .int .i64 T.first, v, .int .i64 T.start.lo, .int .i64 T.start.hi, (.slice none 0 0)] 31) ∧ OwnR wr (b15 + 1) 48 4 v k (dayC (coolT T (m 0) (m 1) (n 0) (n 1) (n 2)).days)) (fun i _ => T.days.length - (intOf i).toNat)
  case atStart => exact ⟨0, _, rfl, by omega, Below.refl _ _, HX15.out, own_nil _ _ _ _ _⟩
  case round =>
    obtain ⟨k, v, rfl, hk, hE, y15, hO⟩ := hrel
    have hB : Below w.heap.size w wr := hB6.trans (hE.mono hle15)
    obtain ⟨⟨va, vc⟩, rfl, -⟩ := hO.sl
    dsimp only at hO y15
    have x0 := (hE.block w.heap.size k0).trans HX0.out
    have x4 := (hE.block (w.heap.size + 1) k4).trans HX4.out
    have hz9 := blk_lt y15
    have hszr : w6.heap.size ≤ wr.heap.size := hE.size
    by_cases hlt : k < T.days.length
    · go_light
      obtain ⟨db, doff, hda, hdr⟩ := (HT.out.days.below hB).row (by omega) (by omega)
      rw [hda] at x0
      obtain ⟨d0, d1, d2, d3⟩ := hdr.four (i := k) hlt
      simp only [dayC] at d0 d1 d2 d3
      obtain ⟨y, hx⟩ : ∃ y, y = dayD T.days k := ⟨_, rfl⟩
      have hok : DayOk y := by rw [hx]; exact HK.out.days k hlt
      obtain ⟨u, hu⟩ : ∃ u, u = lowDay y (m 0) (m 1) := ⟨_, rfl⟩
      have HUP : Hid (dayD (coolT T (m 0) (m 1) (n 0) (n 1) (n 2)).days k = u) := Lib.hid (by rw [cool_day hlt, hu, hx])
      have HLW : Hid (∀ W, Calls Try.prog 32 #[.agg #[.int .i64 y.tlo, .int .i64 y.thi, .int .i64 y.dlo, .int .i64 y.dhi], .agg #[.int .u8 (m 0), .int .u8 (m 1)]] W fun e w' => e = .returned (.agg #[.int .i64 u.tlo, .int .i64 u.thi, .int .i64 u.dlo, .int .i64 u.dhi]) ∧ Below W.heap.size W w') := Lib.hid fun W => by
        rw [hu]; exact lower_any hok HMM.out
      rw [← hx] at d0 d1 d2 d3
      have p0 : (0 : Int) ≤ (k : Int) := by omega
      have p1 : (k : Int) < (T.days.length : Int) := by omega
      have w2' : IntKind.i64.wrap ((k : Int) + 1) = (k : Int) + 1 := IntWalk.i64_in _ (by omega)
      have HO := Lib.hid hO; have HE := Lib.hid hE
      clear hx hu hO hdr hda hE hok
      have q0c := cell_blk x0
      have q0f := frz_blk x0
      have q4c := cell_blk x4
      have q4f := frz_blk x4
      have q15c := cell_blk y15
      have q15f := frz_blk y15
      go_wp2_with (fail)
      refine region_ev [] [0, 1, 2, 3, 4, 5, 6, 7, 8] [(9, 73, none)] [10, 11, 12] (by kernel_rfl) (by kernel_rfl) (by intro c a d v w h; cases d <;> exact h) ?_
      simp only [picks, List.drop_succ_cons, List.drop_zero]
      repeat (refine wpQ0_step (fun K hK => ?_); go_simp; (refine hK _ ?_; clear hK K))
      refine wpQ0_nil ?_
      repeat ((with_reducible refine wpQ2_step (fun K hK => ?_)); go_simp; first | ((with_reducible refine hK _ ?_); clear hK K) | (apply Exists.intro; refine ⟨fun x => ?_, hK _ ?_⟩; ((with_reducible exact HLW.out x.1)); clear hK K))
      refine wpQ2_nil ?_
      refine Events.lay1 (fun b => .slice (some ⟨b, 0, none⟩) 1 1) (.cells #[.int .i64 u.tlo, .int .i64 u.thi, .int .i64 u.dlo, .int .i64 u.dhi] 48 (0, 0)) ⟨_, rfl, rfl, rfl, fun W => by kernel_rfl⟩ fun bq wx hbq hgx nbq => ?_
      simp only [picks, List.drop_succ_cons, List.drop_zero]
      have hEx : Ext2 wr wx := hgx
      have hzx := hEx.size
      clear q0c q0f q4c q4f q15c q15f d0 d1 d2 d3
      go_wp2_with (at_builtin; refine app_one [.int .i64 u.tlo, .int .i64 u.thi, .int .i64 u.dlo, .int .i64 u.dhi] elDayA rfl _ _ rfl (b15 + 1) rfl (HO.out.below hEx) bq 1 rfl nbq (by simp [Value.oneCell']) (by omega) (by omega) ?_; intro v' w8 hO11 hg8; obtain ⟨⟨a', cp'⟩, rfl, -⟩ := hO11.sl; dsimp only at hO11; have u9 := app_keeps (HO.out.below hEx) hg8 (Ext2.blk hEx y15) (by omega); have u9c := cell_blk u9; have u9f := frz_blk u9)
      go_roundw
      case rel =>
        refine ⟨k + 1, .slice a' (k + 1) cp', by go_num, by omega, below_set (app_below (HE.out.trans (Below.mono hEx (by omega))) (HO.out.below hEx) (by omega) (by omega) hg8) (Nat.le_refl _), Eq.trans (blk_set u9 _ _) rfl, ?_⟩
        exact (hO11.above (Above.set (Above.refl _ _) (.inl (Nat.lt_succ_self _)))).congr fun i q hi hq => dayC_up HUP.out hi hq
      case measure => simp [intOf]; omega
    · obtain rfl : k = T.days.length := by omega
      have x5 := (hE.block (w.heap.size + 2) k5).trans HX5.out
      have x10 := (hE.block b10 k10).trans HX10.out
      obtain ⟨U, hU⟩ : ∃ U, U = coolT T (m 0) (m 1) (n 0) (n 1) (n 2) := ⟨_, rfl⟩
      have p1 : ¬ (T.days.length : Int) < (T.days.length : Int) := by omega
      have h1 := down255 (n := T.start.lo) (s := n 0) hst.1.1 n0.1 n0.2
      have h2 := down255 (n := T.rule.own) (s := n 1) hro.1 n1.1 n1.2
      have h3 := down255 (n := T.rule.feed) (s := n 2) hrf.1 n2.1 n2.2
      have t1 : T.start.lo.tdiv 255 = T.start.lo / 255 := Int.tdiv_eq_ediv_of_nonneg hst.1.1
      have t2 : T.rule.own.tdiv 255 = T.rule.own / 255 := Int.tdiv_eq_ediv_of_nonneg hro.1
      have t3 : T.rule.feed.tdiv 255 = T.rule.feed / 255 := Int.tdiv_eq_ediv_of_nonneg hrf.1
      have v1 : IntKind.i64.wrap (T.start.lo / 255) = T.start.lo / 255 := IntWalk.i64_in _ (by omega)
      have v2 : IntKind.i64.wrap (T.rule.own / 255) = T.rule.own / 255 := IntWalk.i64_in _ (by omega)
      have v3 : IntKind.i64.wrap (T.rule.feed / 255) = T.rule.feed / 255 := IntWalk.i64_in _ (by omega)
      have v4 : IntKind.i64.wrap (n 0) = n 0 := IntWalk.i64_in _ (by omega)
      have v5 : IntKind.i64.wrap (n 1) = n 1 := IntWalk.i64_in _ (by omega)
      have v6 : IntKind.i64.wrap (n 2) = n 2 := IntWalk.i64_in _ (by omega)
      have v7 : IntKind.i64.wrap (T.start.lo / 255 * n 0) = T.start.lo / 255 * n 0 := IntWalk.i64_in _ (by omega)
      have v8 : IntKind.i64.wrap (T.rule.own / 255 * n 1) = T.rule.own / 255 * n 1 := IntWalk.i64_in _ (by omega)
      have v9 : IntKind.i64.wrap (T.rule.feed / 255 * n 2) = T.rule.feed / 255 * n 2 := IntWalk.i64_in _ (by omega)
      have u1 : IntKind.i64.wrap (T.start.lo - T.start.lo / 255 * n 0) = U.start.lo := by rw [hU]; exact IntWalk.i64_in _ (by omega)
      have u2 : IntKind.i64.wrap (T.start.hi - T.start.lo / 255 * n 0) = U.start.hi := by rw [hU]; exact IntWalk.i64_in _ (by omega)
      have u3 : IntKind.i64.wrap (T.rule.own - T.rule.own / 255 * n 1) = U.rule.own := by rw [hU]; exact IntWalk.i64_in _ (by omega)
      have u4 : IntKind.i64.wrap (T.rule.feed - T.rule.feed / 255 * n 2) = U.rule.feed := by rw [hU]; exact IntWalk.i64_in _ (by omega)
      have HSP : Hid (∀ (p q : Int) W, Calls Try.prog 25 #[.int .i64 p, .int .i64 q] W fun e w' => e = .returned (.agg #[.int .i64 p, .int .i64 q]) ∧ Below W.heap.size W w') := Lib.hid fun p q W => span_any p q W
      have hUO : TaskOk U := by rw [hU]; exact cool_ok (T := bareT T) HK.out m0.1 m1.1 n0 n1 n2
      have hLow : Lower (bareT T) U := by rw [hU]; exact cool_lower (T := bareT T) HK.out rfl m0.1 m1.1 n0 n1 n2
      have hat : ∀ W, Below (b15 + 1) W W → RowS W ⟨va, vc⟩ 4 T.days.length (dayC U.days) → Below w.heap.size w W → TaskAt W U ⟨s.h, s.w, ⟨va, vc⟩, ⟨none, 0⟩⟩ := fun W _ hr hW => by
        have hTW := HT.out.below hW
        rw [hU] at hr ⊢
        refine ⟨⟨hTW.rule.heat, hTW.rule.wet⟩, ?_, ⟨Nat.le_refl _, by simp, fun i j hi _ => absurd hi (Nat.not_lt_zero i)⟩⟩
        show RowS W _ 4 (coolT T (m 0) (m 1) (n 0) (n 1) (n 2)).days.length _
        rw [cool_len]; exact hr
      have hlenU : U.days.length = T.days.length := by rw [hU]; exact cool_len _ _ _ _ _ _
      have e1 : U.rule.heat = T.rule.heat := by rw [hU]; rfl
      have e2 : U.rule.wet = T.rule.wet := by rw [hU]; rfl
      have e3 : U.rule.g0 = T.rule.g0 := by rw [hU]; rfl
      have e4 : U.rule.g1 = T.rule.g1 := by rw [hU]; rfl
      have e5 : U.rule.g2 = T.rule.g2 := by rw [hU]; rfl
      have e6 : U.rule.lost = T.rule.lost := by rw [hU]; rfl
      have e7 : U.first = T.first := by rw [hU]; rfl
      have e8 : U.tests = [] := by rw [hU]; rfl
      have hUL : ∀ W, TaskAt W U ⟨s.h, s.w, ⟨va, vc⟩, ⟨none, 0⟩⟩ → Calls Try.prog 17 #[.agg #[.slice s.h.a T.rule.heat.length s.h.cap, .slice s.w.a T.rule.wet.length s.w.cap, .int .i64 U.rule.own, .int .i64 U.rule.feed, .int .i64 T.rule.g0, .int .i64 T.rule.g1, .int .i64 T.rule.g2, .int .i64 T.rule.lost, .int .i64 T.first, .slice va T.days.length vc, .int .i64 U.start.lo, .int .i64 U.start.hi, .slice none 0 0]] W fun e w' => (∃ s1 s2 : Sl, e = .returned (.tuple #[.slice s1.a (T.days.length + 1) s1.cap, .slice s2.a (struckT U).length s2.cap, .int .i64 0]) ∧ RowS w' s1 2 (T.days.length + 1) (spC (lv U))) ∧ Below W.heap.size W w' := fun W h => by
        have h1 := levels_yes h (task_mk hUO)
        simp only [hlenU, e1, e2, e3, e4, e5, e6, e7, e8, List.length_nil] at h1
        refine h1.mono ?_
        rintro e w' ⟨⟨s1, s2, h1, h2, -⟩, h3⟩
        exact ⟨⟨s1, s2, h1, h2⟩, h3⟩
      obtain ⟨M, hM⟩ : ∃ M, M = lostT U := ⟨_, rfl⟩
      have hUM : ∀ W, TaskAt W U ⟨s.h, s.w, ⟨va, vc⟩, ⟨none, 0⟩⟩ → Calls Try.prog 31 #[.agg #[.slice s.h.a T.rule.heat.length s.h.cap, .slice s.w.a T.rule.wet.length s.w.cap, .int .i64 U.rule.own, .int .i64 U.rule.feed, .int .i64 T.rule.g0, .int .i64 T.rule.g1, .int .i64 T.rule.g2, .int .i64 T.rule.lost, .int .i64 T.first, .slice va T.days.length vc, .int .i64 U.start.lo, .int .i64 U.start.hi, .slice none 0 0]] W fun e w' => e = .returned (.tuple #[.agg #[.int .i64 M.lo, .int .i64 M.hi], .int .i64 0]) ∧ Below W.heap.size W w' := fun W h => by
        have h1 := lost_yes h (task_mk hUO)
        rw [← hM] at h1
        simp only [hlenU, e1, e2, e3, e4, e5, e6, e7, e8, List.length_nil] at h1
        exact h1
      have hlo := low_lost HK.out hUO hLow (by rw [hU]; rfl) (by rw [hU]; rfl)
      rw [← hM, ← HLE.out] at hlo
      have HAT := Lib.hid hat; have HUL := Lib.hid hUL; have HUM := Lib.hid hUM; have HLOW := Lib.hid (fun i (hi : i ≤ T.days.length) => low_lv HK.out hUO hLow hi)
      have HLO := Lib.hid hlo
      have HO' := Lib.hid (show OwnR wr (b15 + 1) 48 4 (.slice va T.days.length vc) T.days.length (dayC U.days) from by rw [hU]; exact hO)
      have HB := Lib.hid hB; have HE := Lib.hid hE
      have hn0 : ¬ w.heap.size = b15 := by omega
      have hn5 : ¬ w.heap.size + 2 = b15 := by omega
      clear hU hUO hLow hat hlenU hUL hM hUM hlo hO hE hlt hk h1 h2 h3 hB
      have q0c := cell_blk x0
      have q0f := frz_blk x0
      have q5c := cell_blk x5
      have q5f := frz_blk x5
      have q15c := cell_blk y15
      have q15f := frz_blk y15
      go_wp2_with (fail)
      (with_reducible refine (HSP.out _ _ _).mono ?_)
      rintro e w7 ⟨rfl, hb7⟩
      have hE7 : Ext2 wr w7 := hb7
      have x0 := Ext2.blk hE7 x0; have x5 := Ext2.blk hE7 x5; have x10 := Ext2.blk hE7 x10; have y15 := Ext2.blk hE7 y15
      clear q0c q0f q5c q5f q15c q15f hb7
      have q0c := cell_blk x0
      have q0f := frz_blk x0
      have q5c := cell_blk x5
      have q5f := frz_blk x5
      have q15c := cell_blk y15
      have q15f := frz_blk y15
      go_wp2_with (fail)
      refine wp_name ?_
      intro w8 h8
      have y15 : w8.heap[b15]? = some (Obj.cells #[.slice s.h.a T.rule.heat.length s.h.cap, .slice s.w.a T.rule.wet.length s.w.cap, .int .i64 (T.rule.own), .int .i64 (T.rule.feed), .int .i64 T.rule.g0, .int .i64 T.rule.g1, .int .i64 T.rule.g2, .int .i64 T.rule.lost, .int .i64 T.first, (.slice va T.days.length vc), .int .i64 (U.start.lo), .int .i64 (U.start.hi), .slice none 0 0] 31) := by rw [h8]; exact Eq.trans (blk_set (blk_set y15 _ _) _ _) rfl
      have hA8 : Above (b15 + 1) wr w8 := by rw [h8]; exact Above.set (Above.set ((Above.refl _ _).ext hE7) (.inl (Nat.lt_succ_self _))) (.inl (Nat.lt_succ_self _))
      have hB8 : Below w.heap.size w w8 := by rw [h8]; exact below_set (below_set (below_ext HB.out hE7) hle15) hle15
      have hL8 : Below b15 w6 w8 := by rw [h8]; exact below_set (below_set (HE.out.trans (Below.mono hE7 (by omega))) (Nat.le_refl _)) (Nat.le_refl _)
      have x0 : w8.heap[w.heap.size]? = some (Obj.cells #[.slice s.h.a T.rule.heat.length s.h.cap, .slice s.w.a T.rule.wet.length s.w.cap, .int .i64 T.rule.own, .int .i64 T.rule.feed, .int .i64 T.rule.g0, .int .i64 T.rule.g1, .int .i64 T.rule.g2, .int .i64 T.rule.lost, .int .i64 T.first, (.slice s.d.a T.days.length s.d.cap), .int .i64 T.start.lo, .int .i64 T.start.hi, (.slice none 0 0)] 31) := by rw [h8]; exact blk_set_ne (blk_set_ne x0 (by omega)) (by omega)
      have x5 : w8.heap[w.heap.size + 2]? = some (Obj.cells #[.int .u8 (n 0), .int .u8 (n 1), .int .u8 (n 2)] 67) := by rw [h8]; exact blk_set_ne (blk_set_ne x5 (by omega)) (by omega)
      have x10 : w8.heap[b10]? = some (Obj.cells #[.int .i64 L.lo, .int .i64 L.hi] 28) := by rw [h8]; exact blk_set_ne (blk_set_ne x10 (by omega)) (by omega)
      clear h8 q0c q0f q5c q5f q15c q15f hE7
      have q0c := cell_blk x0
      have q0f := frz_blk x0
      have q5c := cell_blk x5
      have q5f := frz_blk x5
      haveI hcls : Nonempty (Cls (At2 w.heap.size #[.slice s.h.a T.rule.heat.length s.h.cap, .slice s.w.a T.rule.wet.length s.w.cap, .int .i64 T.rule.own, .int .i64 T.rule.feed, .int .i64 T.rule.g0, .int .i64 T.rule.g1, .int .i64 T.rule.g2, .int .i64 T.rule.lost, .int .i64 T.first, (.slice s.d.a T.days.length s.d.cap), .int .i64 T.start.lo, .int .i64 T.start.hi, (.slice none 0 0)] 31 (w.heap.size + 2) #[.int .u8 (n 0), .int .u8 (n 1), .int .u8 (n 2)] 67)) := ⟨⟨w8, x0, x5⟩⟩
      refine region_evH (At2 w.heap.size #[.slice s.h.a T.rule.heat.length s.h.cap, .slice s.w.a T.rule.wet.length s.w.cap, .int .i64 T.rule.own, .int .i64 T.rule.feed, .int .i64 T.rule.g0, .int .i64 T.rule.g1, .int .i64 T.rule.g2, .int .i64 T.rule.lost, .int .i64 T.first, (.slice s.d.a T.days.length s.d.cap), .int .i64 T.start.lo, .int .i64 T.start.hi, (.slice none 0 0)] 31 (w.heap.size + 2) #[.int .u8 (n 0), .int .u8 (n 1), .int .u8 (n 2)] 67) [12, 13, 14, 15, 16, 17, 18, 19, 20, 21, 22, 23] [0, 1, 2, 3, 4, 5, 6, 7, 8, 9, 10, 11, 24, 25] [] [26, 27, 28, 29] (At2.ext x0 x5) (by kernel_rfl) (by kernel_rfl) (by intro c a d v w h; cases d <;> exact h) ?_
      simp only [picks, List.drop_succ_cons, List.drop_zero]
      repeat (refine wpQS_step (fun K hK => ?_); go_simp; (refine hK _ ?_; clear hK K))
      refine wpQS_nil ?_
      repeat ((with_reducible refine wpQ2_step (fun K hK => ?_)); go_simp; first | ((with_reducible refine hK _ ?_); clear hK K) | (apply Exists.intro; refine ⟨fun x => ?_, hK _ ?_⟩; (fail); clear hK K))
      refine wpQ2_nil ?_
      refine EventsH.none_ fun w9 hg9 => ?_
      simp only [picks, List.drop_succ_cons, List.drop_zero]
      have y15 := Ext2.blk hg9 y15; have x10 := Ext2.blk hg9 x10; have x0 := Ext2.blk hg9 x0; have x5 := Ext2.blk hg9 x5
      have hA9 := hA8.ext hg9
      have hB9 := below_ext hB8 hg9
      have hL9 : Below b15 w6 w9 := hL8.trans (Below.mono hg9 (by have := hA8.1; omega))
      clear q0c q0f q5c q5f hA8 hB8 hL8 hg9 hcls
      have q15c := cell_blk y15
      have q15f := frz_blk y15
      refine wpListH_cons ?_
      go_wp2_with (fail)
      refine ⟨⟨by repeat' (first | (with_reducible assumption) | (with_reducible refine blk_set_ne ?_ ?_) | (with_reducible exact blk_new _ _) | (with_reducible refine blk_new' _ _ (by first | (with_reducible rfl) | (simp; done) | (simp <;> omega))) | (with_reducible refine blk_alloc ?_ _) | (with_reducible refine blk_drew ?_) | (with_reducible refine blk_drewN ?_ _) | (with_reducible refine Ext2.blk (by assumption) ?_) | omega | (simp <;> omega) | exact blk_set (by assumption) _ _), by repeat' (first | (with_reducible assumption) | (with_reducible refine blk_set_ne ?_ ?_) | (with_reducible exact blk_new _ _) | (with_reducible refine blk_new' _ _ (by first | (with_reducible rfl) | (simp; done) | (simp <;> omega))) | (with_reducible refine blk_alloc ?_ _) | (with_reducible refine blk_drew ?_) | (with_reducible refine blk_drewN ?_ _) | (with_reducible refine Ext2.blk (by assumption) ?_) | omega | (simp <;> omega) | exact blk_set (by assumption) _ _)⟩, wpListH_cons ?_⟩
      go_wp2_with (fail)
      refine ⟨⟨by repeat' (first | (with_reducible assumption) | (with_reducible refine blk_set_ne ?_ ?_) | (with_reducible exact blk_new _ _) | (with_reducible refine blk_new' _ _ (by first | (with_reducible rfl) | (simp; done) | (simp <;> omega))) | (with_reducible refine blk_alloc ?_ _) | (with_reducible refine blk_drew ?_) | (with_reducible refine blk_drewN ?_ _) | (with_reducible refine Ext2.blk (by assumption) ?_) | omega | (simp <;> omega) | exact blk_set (by assumption) _ _), by repeat' (first | (with_reducible assumption) | (with_reducible refine blk_set_ne ?_ ?_) | (with_reducible exact blk_new _ _) | (with_reducible refine blk_new' _ _ (by first | (with_reducible rfl) | (simp; done) | (simp <;> omega))) | (with_reducible refine blk_alloc ?_ _) | (with_reducible refine blk_drew ?_) | (with_reducible refine blk_drewN ?_ _) | (with_reducible refine Ext2.blk (by assumption) ?_) | omega | (simp <;> omega) | exact blk_set (by assumption) _ _)⟩, wpListH_cons ?_⟩
      go_wp2_with (fail)
      refine ⟨⟨by repeat' (first | (with_reducible assumption) | (with_reducible refine blk_set_ne ?_ ?_) | (with_reducible exact blk_new _ _) | (with_reducible refine blk_new' _ _ (by first | (with_reducible rfl) | (simp; done) | (simp <;> omega))) | (with_reducible refine blk_alloc ?_ _) | (with_reducible refine blk_drew ?_) | (with_reducible refine blk_drewN ?_ _) | (with_reducible refine Ext2.blk (by assumption) ?_) | omega | (simp <;> omega) | exact blk_set (by assumption) _ _), by repeat' (first | (with_reducible assumption) | (with_reducible refine blk_set_ne ?_ ?_) | (with_reducible exact blk_new _ _) | (with_reducible refine blk_new' _ _ (by first | (with_reducible rfl) | (simp; done) | (simp <;> omega))) | (with_reducible refine blk_alloc ?_ _) | (with_reducible refine blk_drew ?_) | (with_reducible refine blk_drewN ?_ _) | (with_reducible refine Ext2.blk (by assumption) ?_) | omega | (simp <;> omega) | exact blk_set (by assumption) _ _)⟩, wpListH_cons ?_⟩
      go_wp2_with (fail)
      refine ⟨⟨by repeat' (first | (with_reducible assumption) | (with_reducible refine blk_set_ne ?_ ?_) | (with_reducible exact blk_new _ _) | (with_reducible refine blk_new' _ _ (by first | (with_reducible rfl) | (simp; done) | (simp <;> omega))) | (with_reducible refine blk_alloc ?_ _) | (with_reducible refine blk_drew ?_) | (with_reducible refine blk_drewN ?_ _) | (with_reducible refine Ext2.blk (by assumption) ?_) | omega | (simp <;> omega) | exact blk_set (by assumption) _ _), by repeat' (first | (with_reducible assumption) | (with_reducible refine blk_set_ne ?_ ?_) | (with_reducible exact blk_new _ _) | (with_reducible refine blk_new' _ _ (by first | (with_reducible rfl) | (simp; done) | (simp <;> omega))) | (with_reducible refine blk_alloc ?_ _) | (with_reducible refine blk_drew ?_) | (with_reducible refine blk_drewN ?_ _) | (with_reducible refine Ext2.blk (by assumption) ?_) | omega | (simp <;> omega) | exact blk_set (by assumption) _ _)⟩, wpListH_nil ?_⟩
      go_wp2_with (fail)
      refine calls_name ?_
      intro w10 h10
      have z15 : w10.heap[b15]? = some (Obj.cells #[.slice s.h.a T.rule.heat.length s.h.cap, .slice s.w.a T.rule.wet.length s.w.cap, .int .i64 (U.rule.own), .int .i64 (U.rule.feed), .int .i64 T.rule.g0, .int .i64 T.rule.g1, .int .i64 T.rule.g2, .int .i64 T.rule.lost, .int .i64 T.first, (.slice va T.days.length vc), .int .i64 (U.start.lo), .int .i64 (U.start.hi), .slice none 0 0] 31) := by rw [h10]; exact Eq.trans (blk_set (blk_set y15 _ _) _ _) rfl
      have hA10 : Above (b15 + 1) wr w10 := by rw [h10]; exact Above.set (Above.set hA9 (.inl (Nat.lt_succ_self _))) (.inl (Nat.lt_succ_self _))
      have hB10 : Below w.heap.size w w10 := by rw [h10]; exact below_set (below_set hB9 hle15) hle15
      have hL10 : Below b15 w6 w10 := by rw [h10]; exact below_set (below_set hL9 (Nat.le_refl _)) (Nat.le_refl _)
      have z10 : w10.heap[b10]? = some (Obj.cells #[.int .i64 L.lo, .int .i64 L.hi] 28) := by rw [h10]; exact blk_set_ne (blk_set_ne x10 (by omega)) (by omega)
      have hrow : RowS w10 ⟨va, vc⟩ 4 T.days.length (dayC U.days) := own_rowA (HO'.out.above hA10)
      have hat10 := HAT.out w10 (Below.refl _ _) hrow hB10
      have HUL10 := Lib.hid (HUL.out w10 hat10)
      have HV10 := Lib.hid (HLB.out w10 hL10)
      have HT10 := Lib.hid hat10
      clear h10 y15 x10 x0 x5 hA9 hB9 hL9 hA10 hL10 hrow hat10 q15c q15f
      (with_reducible refine HUL10.out.mono ?_)
      rintro e w11 ⟨⟨⟨ma, mc⟩, s3, rfl, hm⟩, hb11⟩
      have hE11 : Ext2 w10 w11 := hb11
      obtain ⟨mb, moff, hma, -⟩ := sp_two hm (i := 0) (by omega)
      dsimp only at hma
      subst hma
      have HM := Lib.hid hm
      have z15 := Ext2.blk hE11 z15; have z10 := Ext2.blk hE11 z10
      have HUM11 := Lib.hid (HUM.out w11 (HT10.out.below hE11))
      clear hm hb11
      have q15c := cell_blk z15
      have q15f := frz_blk z15
      go_wp2_with (fail)
      (with_reducible refine HUM11.out.mono ?_)
      rintro e w12 ⟨rfl, hb12⟩
      have hE12 : Ext2 w10 w12 := ext_trans hE11 hb12
      have z10 := Ext2.blk hb12 z10
      have HM := Lib.hid (HM.out.below hb12)
      clear hb12 hE11 q15c q15f z15
      have ne1 : ((T.days.length : Int) + 1 != (T.days.length : Int) + 1) = false := by simp
      go_wp2_with (fail)
      refine wp_name ?_
      intro w13 h13
      have hE13 : Ext2 w10 w13 := by rw [h13]; exact ext_trans hE12 (below_alloc' _ _)
      have hE1 : Ext2 w12 w13 := by rw [h13]; exact below_alloc' _ _
      have z19 : w13.heap[w12.heap.size]? = some (Obj.cells #[.int .i64 M.lo, .int .i64 M.hi] 28) := by rw [h13]; repeat' (first | (with_reducible assumption) | (with_reducible refine blk_set_ne ?_ ?_) | (with_reducible exact blk_new _ _) | (with_reducible refine blk_new' _ _ (by first | (with_reducible rfl) | (simp; done) | (simp <;> omega))) | (with_reducible refine blk_alloc ?_ _) | (with_reducible refine blk_drew ?_) | (with_reducible refine blk_drewN ?_ _) | (with_reducible refine Ext2.blk (by assumption) ?_) | omega | (simp <;> omega) | exact blk_set (by assumption) _ _)
      have z10 := Ext2.blk hE1 z10
      have HM := Lib.hid (HM.out.below hE1)
      have HV := Lib.hid (HV10.out.below hE13)
      have hB13 := below_ext hB10 hE13
      have HZ10 := Lib.hid z10; have HZ19 := Lib.hid z19
      clear h13 z10 z19 hE1 hE12 hE13
      obtain ⟨hlt1, hlt2⟩ := HLO.out
      have HL1 : Hid (∀ W, Calls Try.prog 33 #[.int .i64 M.lo, .int .i64 L.lo] W fun e w' => e = .returned (.bool true) ∧ Below W.heap.size W w') := Lib.hid fun W => by
        have h := later_any M.lo L.lo W; rw [hlt1] at h; exact h
      have HL2 : Hid (∀ W, Calls Try.prog 33 #[.int .i64 M.hi, .int .i64 L.hi] W fun e w' => e = .returned (.bool true) ∧ Below W.heap.size W w') := Lib.hid fun W => by
        have h := later_any M.hi L.hi W; rw [hlt2] at h; exact h
      clear hlt1 hlt2
      go_loopw [20] (fun i wr => ∃ n : Nat, i = .int .i64 (n : Int) ∧ n ≤ T.days.length + 1 ∧ Ext2 w13 wr) (fun i _ => T.days.length + 1 - (intOf i).toNat)
      case atStart => exact ⟨0, rfl, by omega, Below.refl _ _⟩
      case round =>
        obtain ⟨q, rfl, hq, hE⟩ := hrel
        have hEr : Ext2 w13 wr := hE
        clear hE
        by_cases hlt : q < T.days.length + 1
        · go_light
          obtain ⟨_, _, h1, a0, a1⟩ := sp_two (HV.out.below hEr) (i := q) (by omega)
          obtain ⟨rfl, rfl⟩ : lb = _ ∧ loff = _ := by simpa using h1
          obtain ⟨_, _, h2, b0, b1⟩ := sp_two (HM.out.below hEr) (i := q) (by omega)
          obtain ⟨rfl, rfl⟩ : mb = _ ∧ moff = _ := by simpa using h2
          have hsub := HLOW.out q (by omega)
          obtain ⟨a, ha⟩ : ∃ a, a = lv (bareT T) q := ⟨_, rfl⟩
          obtain ⟨b, hb⟩ : ∃ b, b = lv U q := ⟨_, rfl⟩
          rw [← ha] at a0 a1 hsub
          rw [← hb] at b0 b1 hsub
          obtain ⟨hsub1, hsub2⟩ := hsub
          have c0 : decide (a.lo < b.lo) = false := decide_eq_false (by omega)
          have c1 : decide (a.hi < b.hi) = false := decide_eq_false (by omega)
          have r0 : (0 : Int) ≤ (q : Int) := by omega
          have r2 : (q : Int) < (T.days.length : Int) + 1 := by omega
          have w3' : IntKind.i64.wrap ((q : Int) + 1) = (q : Int) + 1 := IntWalk.i64_in _ (by omega)
          clear h1 h2 ha hb hsub1 hsub2
          go_wp2_with (fail)
          refine region_ev [] [0, 1, 2, 3, 4, 5, 6, 7, 8, 9, 10, 11, 12, 13, 14, 15, 16, 17, 18, 19, 20, 21, 22, 23] [] [] (by kernel_rfl) (by kernel_rfl) (by intro c a d v w h; cases d <;> exact h) ?_
          simp only [picks, List.drop_succ_cons, List.drop_zero]
          repeat (refine wpQ0_step (fun K hK => ?_); go_simp; (refine hK _ ?_; clear hK K))
          refine wpQ0_nil ?_
          repeat ((with_reducible refine wpQ2_step (fun K hK => ?_)); go_simp; first | ((with_reducible refine hK _ ?_); clear hK K) | (apply Exists.intro; refine ⟨fun x => ?_, hK _ ?_⟩; (fail); clear hK K))
          refine wpQ2_nil ?_
          refine Events.none_ fun w14 hg14 => ?_
          simp only [picks, List.drop_succ_cons, List.drop_zero]
          have hE14 := ext_trans hEr hg14
          clear a0 a1 b0 b1
          go_wp2_with (fail)
          go_roundw
          case rel => exact ⟨q + 1, by go_num, by omega, hE14⟩
          case measure => simp [intOf]; omega
        · have r1 : ¬ ((q : Nat) : Int) < (T.days.length : Int) + 1 := by omega
          have hBr := below_ext hB13 hEr
          have z10 := Ext2.blk hEr HZ10.out
          have z19 := Ext2.blk hEr HZ19.out
          have q10c := cell_blk z10
          have q10f := frz_blk z10
          have q19c := cell_blk z19
          have q19f := frz_blk z19
          go_wp2_with (fail)
          (with_reducible refine (HL1.out _).mono ?_)
          rintro e w15 ⟨rfl, hb15'⟩
          have hB15 := below_ext hBr hb15'
          have z10 := Ext2.blk hb15' z10
          have z19 := Ext2.blk hb15' z19
          clear q10c q10f q19c q19f hb15'
          have q10c := cell_blk z10
          have q10f := frz_blk z10
          have q19c := cell_blk z19
          have q19f := frz_blk z19
          go_wp2_with (fail)
          (with_reducible refine (HL2.out _).mono ?_)
          rintro e w16 ⟨rfl, hb16⟩
          have hB16 := below_ext hB15 hb16
          clear q10c q10f q19c q19f
          go_wp2_with (fail)
          (with_reducible refine (HA.out _).mono ?_)
          rintro e w17 ⟨rfl, hb17⟩
          have hB17 := below_ext hB16 hb17
          go_wp2_with (fail)
          go_ret
          exact ⟨rfl, hB17⟩
theorem lawCooler_any {T : Task} {s : TSl} {m n : Nat → Int} {w : World} (hT : TaskAt w T s) (hm : ∀ i, i < 2 → 0 ≤ m i ∧ m i ≤ 255) (hn : ∀ i, i < 3 → 0 ≤ n i ∧ n i ≤ 255) : Calls Try.prog 7 #[.agg #[.slice s.h.a T.rule.heat.length s.h.cap, .slice s.w.a T.rule.wet.length s.w.cap, .int .i64 T.rule.own, .int .i64 T.rule.feed, .int .i64 T.rule.g0, .int .i64 T.rule.g1, .int .i64 T.rule.g2, .int .i64 T.rule.lost, .int .i64 T.first, .slice s.d.a T.days.length s.d.cap, .int .i64 T.start.lo, .int .i64 T.start.hi, .slice s.t.a T.tests.length s.t.cap], .agg #[.int .u8 (m 0), .int .u8 (m 1)], .agg #[.int .u8 (n 0), .int .u8 (n 1), .int .u8 (n 2)]] w fun e w' => e = .returned (.bool true) ∧ Below w.heap.size w w' := by
  by_cases h0 : (D.checkTask (bareT T)).2.2 = 0
  · exact cooler_yes hT hm hn h0
  · exact cooler_no hT h0
end Go.Proofs.Ytfjbgcaogffiaaa
