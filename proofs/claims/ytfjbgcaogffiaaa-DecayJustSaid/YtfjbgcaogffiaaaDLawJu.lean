/-
  The law DecayJust, walked.
-/
import Derived.Test.YtfjbgcaogffiaaaDWalkA
namespace Go.Proofs.Ytfjbgcaogffiaaa
open Go.RowKit D
set_option linter.unusedVariables false
set_option linter.unusedSimpArgs false
attribute [local go_sem high] run_minI run_maxI
attribute [local go_sem] upon2 cls_cell cls_frozen forall_const exists_eq_left'
attribute [local go_sem] FirstUpon
set_option maxRecDepth 100000 in
set_option maxHeartbeats 2000000 in
theorem just_no {T : Task} {s : TSl} {p : Int} {w : World} (hT : TaskAt w T s) (h0 : (D.checkTask T).2.2 ≠ 0) : Calls Try.prog 4 #[.agg #[.slice s.h.a T.rule.heat.length s.h.cap, .slice s.w.a T.rule.wet.length s.w.cap, .int .i64 T.rule.own, .int .i64 T.rule.feed, .int .i64 T.rule.g0, .int .i64 T.rule.g1, .int .i64 T.rule.g2, .int .i64 T.rule.lost, .int .i64 T.first, .slice s.d.a T.days.length s.d.cap, .int .i64 T.start.lo, .int .i64 T.start.hi, .slice s.t.a T.tests.length s.t.cap], .int .u8 p] w fun e w' => e = .returned (.bool true) ∧ Below w.heap.size w w' := by
  have HP : Hid (∀ W, Below w.heap.size w W → Calls Try.prog 17 #[.agg #[.slice s.h.a T.rule.heat.length s.h.cap, .slice s.w.a T.rule.wet.length s.w.cap, .int .i64 T.rule.own, .int .i64 T.rule.feed, .int .i64 T.rule.g0, .int .i64 T.rule.g1, .int .i64 T.rule.g2, .int .i64 T.rule.lost, .int .i64 T.first, .slice s.d.a T.days.length s.d.cap, .int .i64 T.start.lo, .int .i64 T.start.hi, .slice s.t.a T.tests.length s.t.cap]] W _) := Lib.hid fun W hW => levels_no (hT.below hW) h0
  obtain ⟨p1, p2, p3, hp⟩ : ∃ a b c, D.checkTask T = (a, b, c) := ⟨_, _, _, rfl⟩
  have HC : Hid (∀ W, Below w.heap.size w W → Calls Try.prog 22 #[.agg #[.slice s.h.a T.rule.heat.length s.h.cap, .slice s.w.a T.rule.wet.length s.w.cap, .int .i64 T.rule.own, .int .i64 T.rule.feed, .int .i64 T.rule.g0, .int .i64 T.rule.g1, .int .i64 T.rule.g2, .int .i64 T.rule.lost, .int .i64 T.first, .slice s.d.a T.days.length s.d.cap, .int .i64 T.start.lo, .int .i64 T.start.hi, .slice s.t.a T.tests.length s.t.cap]] W fun e w' => e = .returned (.tuple #[.int .i64 p1, .int .i64 p2, .int .i64 p3]) ∧ Below W.heap.size W w') := Lib.hid fun W hW => by
    have h := checkTaskR_any (hT.below hW); rw [hp] at h; exact h
  have hp3 : (D.checkTask T).2.2 = p3 := by rw [hp]
  rw [hp3] at HP h0
  have HA : Hid (∀ W, Calls Try.prog 21 #[] W fun e w' => e = .returned (.bool true) ∧ Below W.heap.size W w') := Lib.hid fun W => awake_any W
  have hne : (p3 == 0) = false := by simp [h0]
  have hne2 : (p3 != 0) = true := by simp [h0]
  have heq : (p3 == p3) = true := by simp
  clear hT hp hp3
  go_enter Try.func4, Try.ntmps4
  go_wp2_with (fail)
  (with_reducible refine (HP.out _ ?_).mono ?_)
  · repeat' (first | exact Below.refl _ _ | assumption | refine below_drewN ?_ _ | refine Below.drew ?_ | refine Below.alloc ?_ (by first | assumption | omega | (simp <;> omega)) _ | refine Below.setCell ?_ (by first | assumption | omega | (simp <;> omega)) _ | refine Ext2.on (by assumption) ?_)
  rintro e w1 ⟨⟨s1, s2, rfl⟩, hb1⟩
  have hB1 : Below w.heap.size w w1 := Below.trans (by repeat' (first | exact Below.refl _ _ | assumption | refine below_drewN ?_ _ | refine Below.drew ?_ | refine Below.alloc ?_ (by first | assumption | omega | (simp <;> omega)) _ | refine Below.setCell ?_ (by first | assumption | omega | (simp <;> omega)) _ | refine Ext2.on (by assumption) ?_)) (hb1.mono (by simp))
  have x0 : w1.heap[w.heap.size]? = some (Obj.cells #[.slice s.h.a T.rule.heat.length s.h.cap, .slice s.w.a T.rule.wet.length s.w.cap, .int .i64 T.rule.own, .int .i64 T.rule.feed, .int .i64 T.rule.g0, .int .i64 T.rule.g1, .int .i64 T.rule.g2, .int .i64 T.rule.lost, .int .i64 T.first, .slice s.d.a T.days.length s.d.cap, .int .i64 T.start.lo, .int .i64 T.start.hi, .slice s.t.a T.tests.length s.t.cap] 31) := below_blk hb1 (by repeat' (first | (with_reducible assumption) | (with_reducible refine blk_set_ne ?_ ?_) | (with_reducible exact blk_new _ _) | (with_reducible refine blk_new' _ _ (by first | (with_reducible rfl) | (simp; done) | (simp <;> omega))) | (with_reducible refine blk_alloc ?_ _) | (with_reducible refine blk_drew ?_) | (with_reducible refine blk_drewN ?_ _) | (with_reducible refine Ext2.blk (by assumption) ?_) | omega | (simp <;> omega) | exact blk_set (by assumption) _ _)) (by simp)
  clear hb1
  have q0c := cell_blk x0
  have q0f := frz_blk x0
  go_wp2_with (fail)
  (with_reducible refine (HC.out _ hB1).mono ?_)
  rintro e w2 ⟨rfl, hb2⟩
  have hB2 := below_ext hB1 hb2
  clear q0c q0f
  go_wp2_with (fail)
  (with_reducible refine (HA.out _).mono ?_)
  rintro e w3 ⟨rfl, hb3⟩
  have hB3 := below_ext hB2 hb3
  go_wp2_with (fail)
  go_ret
  exact ⟨rfl, hB3⟩
set_option maxRecDepth 100000 in
set_option maxHeartbeats 2000000 in
theorem just_yes {T : Task} {s : TSl} {p : Int} {w : World} (hT : TaskAt w T s) (h0 : (D.checkTask T).2.2 = 0) (hp0 : 0 ≤ p) (hp1 : p ≤ 255) : Calls Try.prog 4 #[.agg #[.slice s.h.a T.rule.heat.length s.h.cap, .slice s.w.a T.rule.wet.length s.w.cap, .int .i64 T.rule.own, .int .i64 T.rule.feed, .int .i64 T.rule.g0, .int .i64 T.rule.g1, .int .i64 T.rule.g2, .int .i64 T.rule.lost, .int .i64 T.first, .slice s.d.a T.days.length s.d.cap, .int .i64 T.start.lo, .int .i64 T.start.hi, .slice s.t.a T.tests.length s.t.cap], .int .u8 p] w fun e w' => e = .returned (.bool true) ∧ Below w.heap.size w w' := by
  have hk := (task_ok h0).1
  have HK := Lib.hid hk
  have HT := Lib.hid hT
  have HP : Hid (∀ W, Below w.heap.size w W → Calls Try.prog 17 #[.agg #[.slice s.h.a T.rule.heat.length s.h.cap, .slice s.w.a T.rule.wet.length s.w.cap, .int .i64 T.rule.own, .int .i64 T.rule.feed, .int .i64 T.rule.g0, .int .i64 T.rule.g1, .int .i64 T.rule.g2, .int .i64 T.rule.lost, .int .i64 T.first, .slice s.d.a T.days.length s.d.cap, .int .i64 T.start.lo, .int .i64 T.start.hi, .slice s.t.a T.tests.length s.t.cap]] W _) := Lib.hid fun W hW => levels_yes (hT.below hW) h0
  have HC : Hid (∀ W, Below w.heap.size w W → Calls Try.prog 22 #[.agg #[.slice s.h.a T.rule.heat.length s.h.cap, .slice s.w.a T.rule.wet.length s.w.cap, .int .i64 T.rule.own, .int .i64 T.rule.feed, .int .i64 T.rule.g0, .int .i64 T.rule.g1, .int .i64 T.rule.g2, .int .i64 T.rule.lost, .int .i64 T.first, .slice s.d.a T.days.length s.d.cap, .int .i64 T.start.lo, .int .i64 T.start.hi, .slice s.t.a T.tests.length s.t.cap]] W _) := Lib.hid fun W hW => check_yes (hT.below hW) h0
  have HA : Hid (∀ W, Calls Try.prog 21 #[] W fun e w' => e = .returned (.bool true) ∧ Below W.heap.size W w') := Lib.hid fun W => awake_any W
  have hnd := hk.nd
  have hnt := hk.nt
  have hfst := hk.first
  have hst := lv_start hk
  have HS0 := Lib.hid hst
  clear hT h0 hk hst
  go_enter Try.func4, Try.ntmps4
  go_wp2_with (fail)
  (with_reducible refine (HP.out _ ?_).mono ?_)
  · repeat' (first | exact Below.refl _ _ | assumption | refine below_drewN ?_ _ | refine Below.drew ?_ | refine Below.alloc ?_ (by first | assumption | omega | (simp <;> omega)) _ | refine Below.setCell ?_ (by first | assumption | omega | (simp <;> omega)) _ | refine Ext2.on (by assumption) ?_)
  rintro e w1 ⟨⟨s1, s2, rfl, hs1, hs2⟩, hb1⟩
  have hB1 : Below w.heap.size w w1 := Below.trans (by repeat' (first | exact Below.refl _ _ | assumption | refine below_drewN ?_ _ | refine Below.drew ?_ | refine Below.alloc ?_ (by first | assumption | omega | (simp <;> omega)) _ | refine Below.setCell ?_ (by first | assumption | omega | (simp <;> omega)) _ | refine Ext2.on (by assumption) ?_)) (hb1.mono (by simp))
  have x0 : w1.heap[w.heap.size]? = some (Obj.cells #[.slice s.h.a T.rule.heat.length s.h.cap, .slice s.w.a T.rule.wet.length s.w.cap, .int .i64 T.rule.own, .int .i64 T.rule.feed, .int .i64 T.rule.g0, .int .i64 T.rule.g1, .int .i64 T.rule.g2, .int .i64 T.rule.lost, .int .i64 T.first, .slice s.d.a T.days.length s.d.cap, .int .i64 T.start.lo, .int .i64 T.start.hi, .slice s.t.a T.tests.length s.t.cap] 31) := below_blk hb1 (by repeat' (first | (with_reducible assumption) | (with_reducible refine blk_set_ne ?_ ?_) | (with_reducible exact blk_new _ _) | (with_reducible refine blk_new' _ _ (by first | (with_reducible rfl) | (simp; done) | (simp <;> omega))) | (with_reducible refine blk_alloc ?_ _) | (with_reducible refine blk_drew ?_) | (with_reducible refine blk_drewN ?_ _) | (with_reducible refine Ext2.blk (by assumption) ?_) | omega | (simp <;> omega) | exact blk_set (by assumption) _ _)) (by simp)
  clear hb1
  have q0c := cell_blk x0
  have q0f := frz_blk x0
  go_wp2_with (fail)
  (with_reducible refine (HC.out _ hB1).mono ?_)
  rintro e w2 ⟨rfl, hb2⟩
  have hB2 := below_ext hB1 hb2
  have HX0 := Lib.hid (Ext2.blk hb2 x0)
  have HS1 := Lib.hid (hs1.below hb2)
  have HS2 := Lib.hid (hs2.below hb2)
  clear q0c q0f x0 hs1 hs2 hb2 hB1
  obtain ⟨l0, hl0⟩ : ∃ l, l = lv T 0 := ⟨_, rfl⟩
  have hst := HS0.out
  rw [← hl0] at hst
  obtain ⟨lb, loff, hla, lc0, lc1⟩ := sp_two HS1.out (i := 0) (by omega)
  rw [← hl0] at lc0 lc1
  have hl1 : (lv T 0) = l0 := hl0.symm
  clear hl0
  obtain ⟨⟨la, lcap⟩, hs1e⟩ : ∃ z : Sl, z = s1 := ⟨_, rfl⟩
  subst hs1e
  dsimp only at hla
  subst hla
  have ne1 : ((T.days.length : Int) + 1 != (T.days.length : Int) + 1) = false := by simp
  have w1' : IntKind.i64.wrap ((T.days.length : Int) + 1) = (T.days.length : Int) + 1 := IntWalk.i64_in _ (by omega)
  have g0 : decide (l0.lo < T.start.lo) = false := decide_eq_false (by omega)
  have g1 : decide (T.start.hi < l0.hi) = false := decide_eq_false (by omega)
  have i1 : (0 : Int) < (T.days.length : Int) + 1 := by omega
  have x0 := HX0.out
  simp only [Nat.zero_mul, Nat.add_zero] at lc0 lc1
  clear hst
  have q0c := cell_blk x0
  have q0f := frz_blk x0
  go_wp2_with (fail)
  refine region_ev [] [0, 1, 2, 3, 4, 5, 6, 7, 8, 9, 10, 11, 12, 13, 14, 15, 16, 17, 18, 19, 20, 21, 22, 23, 24, 25, 26] [] [] (by kernel_rfl) (by kernel_rfl) (by intro c a d v w h; cases d <;> exact h) ?_
  simp only [picks, List.drop_succ_cons, List.drop_zero]
  repeat (refine wpQ0_step (fun K hK => ?_); go_simp; (refine hK _ ?_; clear hK K))
  refine wpQ0_nil ?_
  repeat ((with_reducible refine wpQ2_step (fun K hK => ?_)); go_simp; first | ((with_reducible refine hK _ ?_); clear hK K) | (apply Exists.intro; refine ⟨fun x => ?_, hK _ ?_⟩; (fail); clear hK K))
  refine wpQ2_nil ?_
  refine Events.none_ fun w3 hg3 => ?_
  simp only [picks, List.drop_succ_cons, List.drop_zero]
  have hE3 : Ext2 w2 w3 := hg3
  have hB3 := below_ext hB2 hE3
  have HX0 := Lib.hid (Ext2.blk hE3 HX0.out)
  have HS1 := Lib.hid (HS1.out.below hE3)
  have HS2 := Lib.hid (HS2.out.below hE3)
  have HG : Hid (∀ W, Ext2 w3 W → ∀ (i : Nat) (a G : Span), growV T.rule (dayD T.days i) a = (G, 0) → Calls Try.prog 24 #[.agg #[.slice s.h.a T.rule.heat.length s.h.cap, .slice s.w.a T.rule.wet.length s.w.cap, .int .i64 T.rule.own, .int .i64 T.rule.feed, .int .i64 T.rule.g0, .int .i64 T.rule.g1, .int .i64 T.rule.g2, .int .i64 T.rule.lost], .agg #[.int .i64 (dayD T.days i).tlo, .int .i64 (dayD T.days i).thi, .int .i64 (dayD T.days i).dlo, .int .i64 (dayD T.days i).dhi], .agg #[.int .i64 a.lo, .int .i64 a.hi]] W fun e w' => e = .returned (.tuple #[.agg #[.int .i64 G.lo, .int .i64 G.hi], .int .i64 0]) ∧ Below W.heap.size W w') := Lib.hid fun W hW i a G hG => by
    have h := growRef_any (d := dayD T.days i) (n := a) (HT.out.rule.below (below_ext hB3 hW)); rw [hG] at h; exact h
  have HSP : Hid (∀ (a b : Int) W, Calls Try.prog 25 #[.int .i64 a, .int .i64 b] W fun e w' => e = .returned (.agg #[.int .i64 a, .int .i64 b]) ∧ Below W.heap.size W w') := Lib.hid fun a b W => span_any a b W
  clear x0 q0c q0f lc0 lc1 hg3 hE3 hB2 HP HC ne1 g0 g1 i1 hl1
  go_wp2_with (fail)
  go_loopw [11] (fun i wr => ∃ k : Nat, i = .int .i64 (k : Int) ∧ k ≤ T.days.length ∧ Ext2 w3 wr) (fun i _ => T.days.length - (intOf i).toNat)
  case atStart => exact ⟨0, rfl, by omega, Below.refl _ _⟩
  case round =>
    obtain ⟨k, rfl, hk, hE⟩ := hrel
    have hEr : Ext2 w3 wr := hE
    clear hE
    have x0 := Ext2.blk hEr HX0.out
    by_cases hlt : k < T.days.length
    · go_light
      obtain ⟨db, doff, hda, hdr⟩ := (HT.out.days.below (below_ext hB3 hEr)).row (by omega) (by omega)
      have HDA := Lib.hid hda; have HDR := Lib.hid hdr; clear hda hdr
      obtain ⟨lb', loff', hla, a0, a1⟩ := sp_two (HS1.out.below hEr) (i := k) (by omega)
      obtain ⟨rfl, rfl⟩ : lb = lb' ∧ loff = loff' := by simpa using hla
      obtain ⟨_, _, hla2, b0, b1⟩ := sp_two (HS1.out.below hEr) (i := k + 1) (by omega)
      obtain ⟨rfl, rfl⟩ : lb = _ ∧ loff = _ := by simpa using hla2
      obtain ⟨la_, hla_⟩ : ∃ a, a = lv T k := ⟨_, rfl⟩
      obtain ⟨lb_, hlb_⟩ : ∃ a, a = lv T (k + 1) := ⟨_, rfl⟩
      have hA := (lv_ok HK.out (i := k) (by omega)).1
      have hBb := (lv_ok HK.out (i := k + 1) (by omega)).1
      rw [← hla_] at a0 a1 hA
      rw [← hlb_] at b0 b1 hBb
      have HLA := Lib.hid hla_; have HLB := Lib.hid hlb_
      have p0 : (0 : Int) ≤ (k : Int) := by omega
      have p1 : (k : Int) < (T.days.length : Int) := by omega
      have p2 : (k : Int) < (T.days.length : Int) + 1 := by omega
      have p3 : (k : Int) + 1 < (T.days.length : Int) + 1 := by omega
      have p4 : (0 : Int) ≤ (k : Int) + 1 := by omega
      have p5 : ((k : Int) + 1).toNat = k + 1 := by omega
      have w2' : IntKind.i64.wrap ((k : Int) + 1) = (k : Int) + 1 := IntWalk.i64_in _ (by omega)
      have g2 : decide (la_.hi < la_.lo) = false := decide_eq_false (by have := hA.2; omega)
      have g3 : decide (lb_.hi < lb_.lo) = false := decide_eq_false (by have := hBb.2; omega)
      clear hla hla2 hla_ hlb_
      have q0c := cell_blk x0
      have q0f := frz_blk x0
      go_wp2_with (fail)
      refine region_ev [] [0, 1, 2, 3, 4, 5, 6, 7, 8] [(9, 12, some 11), (10, 13, some 12)] [] (by kernel_rfl) (by kernel_rfl) (by intro c a d v w h; cases d <;> exact h) ?_
      simp only [picks, List.drop_succ_cons, List.drop_zero]
      repeat (refine wpQ0_step (fun K hK => ?_); go_simp; (refine hK _ ?_; clear hK K))
      refine wpQ0_nil ?_
      repeat ((with_reducible refine wpQ2_step (fun K hK => ?_)); go_simp; first | ((with_reducible refine hK _ ?_); clear hK K) | (apply Exists.intro; refine ⟨fun x => ?_, hK _ ?_⟩; (fail); clear hK K))
      refine wpQ2_nil ?_
      refine Events.fill2 (fun b => .pointer (some ⟨b, 0, none⟩)) (Obj.cells #[.int .i64 0, .int .i64 0] 28) (Obj.cells #[.int .i64 la_.lo, .int .i64 la_.hi] 28) (fun b => .pointer (some ⟨b, 0, none⟩)) (Obj.cells #[.int .i64 0, .int .i64 0] 28) (Obj.cells #[.int .i64 lb_.lo, .int .i64 lb_.hi] 28) ⟨_, rfl, rfl, rfl, fun W => by kernel_rfl⟩ ⟨_, rfl, rfl, rfl, fun b W hb => ?_⟩ ⟨_, rfl, rfl, rfl, fun W => by kernel_rfl⟩ ⟨_, rfl, rfl, rfl, fun b W hb => ?_⟩ (by omega) fun b12 b13 w4 hb12 hb13 hneb12 hg4 nb12 nb13 => ?_
      · have hbc := cell_blk hb; have hbf := frz_blk hb; go_simp; exact turn_two hb _ _
      · have hbc := cell_blk hb; have hbf := frz_blk hb; go_simp; exact turn_two hb _ _
      simp only [picks, List.drop_succ_cons, List.drop_zero]
      have hE4 : Ext2 w3 w4 := ext_trans hEr hg4
      have HX4 := Lib.hid (Ext2.blk hg4 x0)
      have HN12 := Lib.hid nb12; have HN13 := Lib.hid nb13
      have hpa := part_in (s := la_) hA.2 hp0 hp1
      have HPA : Hid (∀ W, Calls Try.prog 23 #[.agg #[.int .i64 la_.lo, .int .i64 la_.hi], .int .u8 p] W fun e w' => e = .returned (.int .i64 (partI la_ p)) ∧ Below W.heap.size W w') := Lib.hid fun W => part_any ⟨hA.1.1.1, hA.2, hA.1.2.2⟩ hp0 hp1 W
      clear q0c q0f x0 a0 a1 b0 b1 hg4
      have q12c := cell_blk nb12
      have q12f := frz_blk nb12
      have q13c := cell_blk nb13
      have q13f := frz_blk nb13
      go_wp2_with (fail)
      refine region_ev [] [0, 1, 2, 3, 4, 5, 6] [(7, 111, none)] [8] (by kernel_rfl) (by kernel_rfl) (by intro c a d v w h; cases d <;> exact h) ?_
      simp only [picks, List.drop_succ_cons, List.drop_zero]
      repeat (refine wpQ0_step (fun K hK => ?_); go_simp; (refine hK _ ?_; clear hK K))
      refine wpQ0_nil ?_
      repeat ((with_reducible refine wpQ2_step (fun K hK => ?_)); go_simp; first | ((with_reducible refine hK _ ?_); clear hK K) | (apply Exists.intro; refine ⟨fun x => ?_, hK _ ?_⟩; ((with_reducible exact HPA.out x.1)); clear hK K))
      refine wpQ2_nil ?_
      refine Events.lay1 (fun b => .slice (some ⟨b, 0, none⟩) 3 3) (.cells #[.int .i64 la_.lo, .int .i64 la_.hi, .int .i64 (partI la_ p)] 3 (0, 0)) ⟨_, rfl, rfl, rfl, fun W => by kernel_rfl⟩ fun b14 w5 hb14 hg5 nb14 => ?_
      simp only [picks, List.drop_succ_cons, List.drop_zero]
      have hE5 : Ext2 w3 w5 := ext_trans hE4 hg5
      have HX5 := Lib.hid (Ext2.blk hg5 HX4.out)
      have HN12 := Lib.hid (Ext2.blk hg5 nb12); have HN13 := Lib.hid (Ext2.blk hg5 nb13); have HN14 := Lib.hid nb14
      clear q12c q12f q13c q13f nb12 nb13 nb14 HPA HX4
      go_wp2_with (fail)
      go_loopw [15] (fun i wr => ∃ j : Nat, i = .int .i64 (j : Int) ∧ j ≤ 3 ∧ Ext2 w5 wr) (fun i _ => 3 - (intOf i).toNat)
      case atStart => exact ⟨0, rfl, by omega, Below.refl _ _⟩
      case round =>
        obtain ⟨j, rfl, hj, hE⟩ := hrel
        have hEj : Ext2 w5 wr := hE
        clear hE
        have x0 := Ext2.blk hEj HX5.out
        have n12 := Ext2.blk hEj HN12.out
        have n13 := Ext2.blk hEj HN13.out
        have n14 := Ext2.blk hEj HN14.out
        have hE3j : Ext2 w3 wr := ext_trans hE5 hEj
        by_cases hj3 : j < 3
        · have hown : ∃ n, (#[.int .i64 la_.lo, .int .i64 la_.hi, .int .i64 (partI la_ p)] : Array Value)[j]? = some (.int .i64 n) ∧ InS la_ n := by
            rcases (show j = 0 ∨ j = 1 ∨ j = 2 by omega) with rfl | rfl | rfl
            · exact ⟨_, rfl, Int.le_refl _, hA.2⟩
            · exact ⟨_, rfl, hA.2, Int.le_refl _⟩
            · exact ⟨_, rfl, hpa⟩
          obtain ⟨n, hn, hin⟩ := hown
          have cn := cell_blk n14 j
          rw [hn] at cn
          have hnr : 0 ≤ n ∧ n ≤ 1000000 := by obtain ⟨⟨⟨z1, z2⟩, z3, z4⟩, z5⟩ := hA; unfold InS at hin; omega
          have hgr := grow_one HK.out hlt hnr
          have hls := lv_step HK.out hlt (n := n) (by rw [← HLA.out]; exact hin)
          obtain ⟨G, hG⟩ : ∃ G, G = gr1 T k n := ⟨_, rfl⟩
          have e1 : G.lo = least T.rule (spanD (forces T) k) n := by rw [hG]; rfl
          have e2 : G.hi = most T.rule (spanD (forces T) k) n := by rw [hG]; rfl
          rw [← hG] at hgr
          rw [← e1, ← e2, ← HLB.out] at hls
          have g4 : decide (G.hi < lb_.lo) = false := decide_eq_false (by omega)
          have g5 : decide (lb_.hi < G.lo) = false := decide_eq_false (by omega)
          obtain ⟨db2, doff2, hda, hdr⟩ := (HT.out.days.below (below_ext hB3 hE3j)).row (by omega) (by omega)
          obtain ⟨d0, d1, d2, d3⟩ := hdr.four (i := k) hlt
          simp only [dayC] at d0 d1 d2 d3
          rw [hda] at x0
          have HGG : Hid (∀ W, Ext2 wr W → Calls Try.prog 24 #[.agg #[.slice s.h.a T.rule.heat.length s.h.cap, .slice s.w.a T.rule.wet.length s.w.cap, .int .i64 T.rule.own, .int .i64 T.rule.feed, .int .i64 T.rule.g0, .int .i64 T.rule.g1, .int .i64 T.rule.g2, .int .i64 T.rule.lost], .agg #[.int .i64 (dayD T.days k).tlo, .int .i64 (dayD T.days k).thi, .int .i64 (dayD T.days k).dlo, .int .i64 (dayD T.days k).dhi], .agg #[.int .i64 n, .int .i64 n]] W fun e w' => e = .returned (.tuple #[.agg #[.int .i64 G.lo, .int .i64 G.hi], .int .i64 0]) ∧ Below W.heap.size W w') := Lib.hid fun W hW => HG.out W (ext_trans hE3j hW) k ⟨n, n⟩ G hgr
          have HSN : Hid (∀ W, Calls Try.prog 25 #[.int .i64 n, .int .i64 n] W fun e w' => e = .returned (.agg #[.int .i64 n, .int .i64 n]) ∧ Below W.heap.size W w') := Lib.hid fun W => HSP.out n n W
          have r0 : (0 : Int) ≤ (j : Int) := by omega
          have r1 : (j : Int) < 3 := by omega
          have w3' : IntKind.i64.wrap ((j : Int) + 1) = (j : Int) + 1 := IntWalk.i64_in _ (by omega)
          clear hn hin hnr hgr hls hG e1 e2 hda hdr n14
          have q0c := cell_blk x0
          have q0f := frz_blk x0
          go_wp2_with (fail)
          refine region_ev [] [0, 1, 2, 3, 4, 5, 6, 7, 8, 9, 10, 11, 12, 13, 14, 15, 16, 17, 18, 19] [(20, 16, some 21)] [22] (by kernel_rfl) (by kernel_rfl) (by intro c a d v w h; cases d <;> exact h) ?_
          simp only [picks, List.drop_succ_cons, List.drop_zero]
          repeat (refine wpQ0_step (fun K hK => ?_); go_simp; (refine hK _ ?_; clear hK K))
          refine wpQ0_nil ?_
          repeat ((with_reducible refine wpQ2_step (fun K hK => ?_)); go_simp; first | ((with_reducible refine hK _ ?_); clear hK K) | (apply Exists.intro; refine ⟨fun x => ?_, hK _ ?_⟩; (first | (with_reducible exact HSN.out x.1) | (with_reducible exact HGG.out x.1 x.2)); clear hK K))
          refine wpQ2_nil ?_
          refine Events.fill1 (fun b => .pointer (some ⟨b, 0, none⟩)) (Obj.cells #[.int .i64 0, .int .i64 0] 28) (Obj.cells #[.int .i64 G.lo, .int .i64 G.hi] 28) ⟨_, rfl, rfl, rfl, fun W => by kernel_rfl⟩ ⟨_, rfl, rfl, rfl, fun b W hb => ?_⟩ fun b16 w6 hb16 hg6 nb16 => ?_
          · have hbc := cell_blk hb; have hbf := frz_blk hb; go_simp; exact turn_two hb _ _
          simp only [picks, List.drop_succ_cons, List.drop_zero]
          have hE6 : Ext2 w5 w6 := ext_trans hEj hg6
          have n13 := Ext2.blk hg6 n13
          clear q0c q0f x0 d0 d1 d2 d3 cn hg6
          have q13c := cell_blk n13
          have q13f := frz_blk n13
          have q16c := cell_blk nb16
          have q16f := frz_blk nb16
          go_wp2_with (fail)
          go_roundw
          case rel => exact ⟨j + 1, by go_num, by omega, hE6⟩
          case measure => simp [intOf]; omega
        · obtain rfl : j = 3 := by omega
          obtain ⟨db2, doff2, hda, hdr⟩ := (HT.out.days.below (below_ext hB3 hE3j)).row (by omega) (by omega)
          obtain ⟨d0, d1, d2, d3⟩ := hdr.four (i := k) hlt
          simp only [dayC] at d0 d1 d2 d3
          rw [hda] at x0
          obtain ⟨G, hG⟩ : ∃ G, G = grow T.rule (spanD (forces T) k) la_ := ⟨_, rfl⟩
          have hgr := grow_lv HK.out hlt hA
          have hwi := lv_within HK.out hlt
          rw [← HLA.out, ← HLB.out] at hwi
          have e1 : G.lo = least T.rule (spanD (forces T) k) la_.lo := by rw [hG]; rfl
          have e2 : G.hi = most T.rule (spanD (forces T) k) la_.hi := by rw [hG]; rfl
          rw [← hG] at hgr
          rw [← e1, ← e2] at hwi
          have g4 : decide (lb_.lo < G.lo) = false := decide_eq_false (by omega)
          have g5 : decide (G.hi < lb_.hi) = false := decide_eq_false (by omega)
          have HGG : Hid (∀ W, Ext2 wr W → Calls Try.prog 24 #[.agg #[.slice s.h.a T.rule.heat.length s.h.cap, .slice s.w.a T.rule.wet.length s.w.cap, .int .i64 T.rule.own, .int .i64 T.rule.feed, .int .i64 T.rule.g0, .int .i64 T.rule.g1, .int .i64 T.rule.g2, .int .i64 T.rule.lost], .agg #[.int .i64 (dayD T.days k).tlo, .int .i64 (dayD T.days k).thi, .int .i64 (dayD T.days k).dlo, .int .i64 (dayD T.days k).dhi], .agg #[.int .i64 la_.lo, .int .i64 la_.hi]] W fun e w' => e = .returned (.tuple #[.agg #[.int .i64 G.lo, .int .i64 G.hi], .int .i64 0]) ∧ Below W.heap.size W w') := Lib.hid fun W hW => HG.out W (ext_trans hE3j hW) k la_ G hgr
          clear hgr hG e1 e2 hwi hda hdr n14
          have q0c := cell_blk x0
          have q0f := frz_blk x0
          have q12c := cell_blk n12
          have q12f := frz_blk n12
          go_wp2_with (fail)
          refine region_ev [] [0, 1, 2, 3, 4, 5, 6, 7, 8, 9, 10, 11] [(12, 18, some 13)] [14] (by kernel_rfl) (by kernel_rfl) (by intro c a d v w h; cases d <;> exact h) ?_
          simp only [picks, List.drop_succ_cons, List.drop_zero]
          repeat (refine wpQ0_step (fun K hK => ?_); go_simp; (refine hK _ ?_; clear hK K))
          refine wpQ0_nil ?_
          repeat ((with_reducible refine wpQ2_step (fun K hK => ?_)); go_simp; first | ((with_reducible refine hK _ ?_); clear hK K) | (apply Exists.intro; refine ⟨fun x => ?_, hK _ ?_⟩; ((with_reducible exact HGG.out x.1 x.2)); clear hK K))
          refine wpQ2_nil ?_
          refine Events.fill1 (fun b => .pointer (some ⟨b, 0, none⟩)) (Obj.cells #[.int .i64 0, .int .i64 0] 28) (Obj.cells #[.int .i64 G.lo, .int .i64 G.hi] 28) ⟨_, rfl, rfl, rfl, fun W => by kernel_rfl⟩ ⟨_, rfl, rfl, rfl, fun b W hb => ?_⟩ fun b18 w6 hb18 hg6 nb18 => ?_
          · have hbc := cell_blk hb; have hbf := frz_blk hb; go_simp; exact turn_two hb _ _
          simp only [picks, List.drop_succ_cons, List.drop_zero]
          have hE6 : Ext2 w3 w6 := ext_trans hE3j hg6
          have n13 := Ext2.blk hg6 n13
          clear q0c q0f x0 d0 d1 d2 d3 hg6 q12c q12f
          have q13c := cell_blk n13
          have q13f := frz_blk n13
          have q18c := cell_blk nb18
          have q18f := frz_blk nb18
          go_wp2_with (fail)
          go_roundw
          case rel => exact ⟨k + 1, by go_num, by omega, hE6⟩
          case measure => simp [intOf]; omega
    · have hkn : k = T.days.length := by omega
      have p1 : ¬ (k : Int) < (T.days.length : Int) := by omega
      clear hkn
      have q0c := cell_blk x0
      have q0f := frz_blk x0
      go_wp2_with (fail)
      have HX0 := Lib.hid x0
      have HS1 := Lib.hid (HS1.out.below hEr)
      have HS2 := Lib.hid (HS2.out.below hEr)
      obtain ⟨w4, hw4⟩ : ∃ W, W = wr := ⟨_, rfl⟩
      rw [← hw4] at hEr HX0 HS1 HS2 ⊢
      have hB4 := below_ext hB3 hEr
      have hz4 := blk_lt HX0.out
      clear q0c q0f x0 p1 hk hlt HG HSP hw4
      go_loopw [20] (fun i wr => ∃ k : Nat, i = .int .i64 (k : Int) ∧ k ≤ T.tests.length ∧ Ext2 w4 wr) (fun i _ => T.tests.length - (intOf i).toNat)
      case atStart => exact ⟨0, rfl, by omega, Below.refl _ _⟩
      case round =>
        obtain ⟨j, rfl, hj, hE⟩ := hrel
        have hEj : Ext2 w4 wr := hE
        clear hE
        have x0 := Ext2.blk hEj HX0.out
        by_cases hlt : j < T.tests.length
        · obtain ⟨tb, toff, hta, htr⟩ := (HT.out.tests.below (below_ext hB4 hEj)).row (by omega) (by omega)
          obtain ⟨t0, t1, t2⟩ := htr.three (i := j) hlt
          simp only [testC] at t0 t1 t2
          have HTA := Lib.hid hta
          have x0' := x0
          rw [hta] at x0'
          have htok := HK.out.tests j hlt
          have hmo := mo_days (days_ok HK.out) hlt
          obtain ⟨y, hy⟩ : ∃ y, y = testD T.tests j := ⟨_, rfl⟩
          have hyd : dayD' T j = y.day := by rw [hy]; rfl
          rw [← hy] at t0 t1 t2 htok
          rw [hyd] at hmo
          obtain ⟨m, hm⟩ : ∃ m, m = mo T j := ⟨_, rfl⟩
          rw [← hm] at hmo
          have HM := Lib.hid hm; have HY := Lib.hid hy
          obtain ⟨hm1, hm2⟩ := hmo
          have p0 : (0 : Int) ≤ (j : Int) := by omega
          have p1 : (j : Int) < (T.tests.length : Int) := by omega
          have w0' : IntKind.i64.wrap (y.day - T.first) = (m : Int) := by rw [← hm2]; exact IntWalk.i64_in _ (by omega)
          have w2' : IntKind.i64.wrap ((j : Int) + 1) = (j : Int) + 1 := IntWalk.i64_in _ (by omega)
          have HM2 := Lib.hid hm2.symm
          have hdb : -100000 ≤ y.day - T.first ∧ y.day - T.first ≤ 100000 := by omega
          have HDB := Lib.hid hdb
          clear hta htr hm hy hyd x0 hm2 hdb
          have q0c := cell_blk x0'
          have q0f := frz_blk x0'
          go_wp2_with (fail)
          go_quiet (fail)
          go_wp2_with (fail)
          refine wp_name ?_
          intro w5 h5
          have hE5 : Ext2 w4 w5 := hEj.trans (by rw [h5]; exact below_drewN (Below.refl _ _) _)
          have hB5 := below_ext hB4 hE5
          have HX5 := Lib.hid (Ext2.blk hE5 HX0.out)
          have HS5 := Lib.hid (HS1.out.below hE5)
          clear q0c q0f x0' t0 t1 t2 h5 hEj
          go_loopw [22, 23] (fun v i wr => ∃ q : Nat, i = .int .i64 (q : Int) ∧ q ≤ T.days.length + 1 ∧ Ext2 w5 wr ∧ OwnR wr w5.heap.size 3 1 v q (fun i _ => .int .i64 (lv T i).lo)) (fun _ i _ => T.days.length + 1 - (intOf i).toNat)
          case atStart => exact ⟨0, rfl, by omega, Below.refl _ _, own_nil _ _ _ _ _⟩
          case round =>
            obtain ⟨q, rfl, hq, hE, hO⟩ := hrel
            have hEq : Ext2 w5 wr := hE
            have HO := Lib.hid hO
            clear hE hO
            by_cases hql : q < T.days.length + 1
            · go_light
              obtain ⟨_, _, hla2, b0, b1⟩ := sp_two (HS5.out.below hEq) (i := q) hql
              obtain ⟨rfl, rfl⟩ : lb = _ ∧ loff = _ := by simpa using hla2
              obtain ⟨n, hn⟩ : ∃ n, n = (lv T q).lo := ⟨_, rfl⟩
              rw [← hn] at b0
              have HN := Lib.hid hn
              have r0 : (0 : Int) ≤ (q : Int) := by omega
              have r1 : (q : Int) < (T.days.length : Int) + 1 := by omega
              have w3' : IntKind.i64.wrap ((q : Int) + 1) = (q : Int) + 1 := IntWalk.i64_in _ (by omega)
              have hsz := Ext2.size hEq
              clear hla2 hn b1
              go_wp2_with (at_builtin; refine app_one [.int .i64 n] elInt rfl _ _ rfl w5.heap.size rfl (HO.out.below (below_alloc' _ _)) wr.heap.size 1 rfl (blk_new _ _) (by simp [Value.oneCell']) (by omega) (by simp; omega) ?_; intro v' w6 hO6 hg6)
              have hE6 : Ext2 w5 w6 := below_app hEq HO.out hsz hg6
              have hO7 : OwnR w6 w5.heap.size 3 1 v' (q + 1) (fun i _ => .int .i64 (lv T i).lo) := hO6.congr fun i j hi hj => by
                replace hj : j < 1 := by simpa using hj
                obtain rfl : j = 0 := by omega
                rcases Nat.lt_or_ge i q with h | h
                · rw [upd_lt h]
                · obtain rfl : i = q := by omega
                  rw [upd_at, ← HN.out]; rfl
              clear hO6 hg6
              go_wp2_with (fail)
              go_roundw
              case rel => exact ⟨q + 1, by go_num, by omega, hE6, hO7⟩
              case measure => simp [intOf]; omega
            · have hqq : q = T.days.length + 1 := by omega
              subst hqq
              obtain ⟨g0, cp0, rfl, hbg, hcn, hcm, hrow, hfr⟩ := own_some HO.out (Nat.succ_pos _)
              have hST := HS2.out.below (ext_trans hE5 hEq)
              obtain ⟨sb, hsb⟩ : ∃ b, b = struckB (struckT T) (j : Int) := ⟨_, rfl⟩
              have HST : Hid (Calls Try.prog 26 #[.slice s2.a (struckT T).length s2.cap, .int .i64 (j : Int)] wr fun e w' => e = .returned (.bool sb) ∧ Below wr.heap.size wr w') := Lib.hid (by
                rw [hsb]
                exact (struckIs_any (j : Int) hST).mono fun e w' ⟨he, q, hq⟩ => ⟨he, by rw [hq]; exact below_drewN (Below.refl _ _) q⟩)
              have HSB := Lib.hid hsb
              have r1 : ¬ ((T.days.length + 1 : Nat) : Int) < (T.days.length : Int) + 1 := by omega
              have r2 : ¬ (T.days.length : Int) + 1 < (T.days.length : Int) + 1 := by omega
              clear hST hsb hrow
              go_wp2_with (fail)
              refine HST.out.mono ?_
              rintro e w6 ⟨rfl, hb6⟩
              have hE6 : Ext2 w5 w6 := ext_trans hEq hb6
              cases sb
              case true =>
                go_wp2_with (fail)
                go_roundw
                case rel => exact ⟨j + 1, by go_num, by omega, ext_trans hE5 hE6⟩
                case measure => simp [intOf]; omega
              case false =>
                have hgd := not_struck_good HK.out hlt HSB.out.symm
                have hkl := lv_keeps HK.out hm1 hgd HM.out.symm
                have hlo := (lv_ok HK.out (i := m) hm1).1
                obtain ⟨ty0, ty1, ty2⟩ := htok
                have hO6 := HO.out.below hb6
                have hkp : InS (keep T.rule y) (lv T m).lo ∧ InS (keep T.rule y) (lv T m).hi := by
                  rw [HY.out]; unfold InS
                  have h1 : (keep T.rule (testD T.tests j)).lo ≤ (lv T m).lo := hkl.1
                  have h2 : (lv T m).hi ≤ (keep T.rule (testD T.tests j)).hi := hkl.2
                  have h3 := hlo.2
                  omega
                have hlv : ∀ i, i < T.days.length + 1 → (0 ≤ (lv T i).lo ∧ (lv T i).lo ≤ 1000000) ∧ (0 ≤ (lv T i).hi ∧ (lv T i).hi ≤ 1000000) := fun i hi => (lv_ok HK.out (i := i) (by omega)).1.1
                have hi1 := ints_own hO6
                have hk1 : keepsB T (fnL (fun i => (lv T i).lo) (T.days.length + 1)) y = true := keepsB_at HK.out.rule ty0 (m := m) HM2.out (by rw [fnL_len]; omega) (by rw [fnL_at (by omega)]; exact (hlv m (by omega)).1) (by rw [fnL_at (by omega)]; exact hkp.1)
                have HK1 : Hid (∀ W, Ext2 w6 W → Calls Try.prog 27 #[.agg #[.slice s.h.a T.rule.heat.length s.h.cap, .slice s.w.a T.rule.wet.length s.w.cap, .int .i64 T.rule.own, .int .i64 T.rule.feed, .int .i64 T.rule.g0, .int .i64 T.rule.g1, .int .i64 T.rule.g2, .int .i64 T.rule.lost, .int .i64 T.first, .slice s.d.a T.days.length s.d.cap, .int .i64 T.start.lo, .int .i64 T.start.hi, .slice s.t.a T.tests.length s.t.cap], .slice (some ⟨g0, 0, none⟩) (T.days.length + 1) cp0, .agg #[.int .i64 y.day, .int .i64 y.grade, .int .i64 y.err]] W fun e w' => e = .returned (.bool true) ∧ Below W.heap.size W w') := Lib.hid fun W hW => by
                  have h := keeps_any (HT.out.below (below_ext hB5 (ext_trans hE6 hW))) HK.out.rule (hi1.below hW) ty0 HDB.out (fun i hi => by rw [fnL_len] at hi; rw [fnL_at hi]; exact (hlv i hi).1)
                  rw [hk1, fnL_len] at h; exact h
                obtain ⟨tb2, toff2, hta, htr⟩ := (HT.out.tests.below (below_ext hB5 hE6)).row (by omega) (by omega)
                obtain ⟨t0, t1, t2⟩ := htr.three (i := j) hlt
                simp only [testC] at t0 t1 t2
                rw [← HY.out] at t0 t1 t2
                have x0 := Ext2.blk hE6 HX5.out
                have HX6 := Lib.hid x0
                rw [hta] at x0 HK1
                have HKP := Lib.hid hkp; have HLV := Lib.hid hlv
                clear hkl hlo hkp hlv hi1 hk1 hta htr hgd
                have q0c := cell_blk x0
                have q0f := frz_blk x0
                go_wp2_with (fail)
                refine region_ev [] [0, 1, 2, 3, 4, 5, 6, 7, 8] [] [] (by kernel_rfl) (by kernel_rfl) (by intro c a d v w h; cases d <;> exact h) ?_
                simp only [picks, List.drop_succ_cons, List.drop_zero]
                repeat (refine wpQ0_step (fun K hK => ?_); go_simp; (refine hK _ ?_; clear hK K))
                refine wpQ0_nil ?_
                repeat ((with_reducible refine wpQ2_step (fun K hK => ?_)); go_simp; first | ((with_reducible refine hK _ ?_); clear hK K) | (apply Exists.intro; refine ⟨fun x => ?_, hK _ ?_⟩; ((with_reducible exact HK1.out x.1 x.2)); clear hK K))
                refine wpQ2_nil ?_
                refine Events.none_ fun w7 hg7 => ?_
                simp only [picks, List.drop_succ_cons, List.drop_zero]
                have hE7 : Ext2 w5 w7 := ext_trans hE6 hg7
                have hO7 := hO6.below hg7
                obtain ⟨g1, cp1, he1, -, -, -, hrow, hfr⟩ := own_some hO7 (Nat.succ_pos _)
                obtain ⟨rfl, rfl⟩ : g0 = g1 ∧ cp0 = cp1 := by simpa using he1
                obtain ⟨_, _, hla2, b0, b1⟩ := sp_two (HS5.out.below hE7) (i := m) (by omega)
                obtain ⟨rfl, rfl⟩ : lb = _ ∧ loff = _ := by simpa using hla2
                have cm := hrow.one (i := m) (by omega)
                rw [Nat.zero_add] at cm
                have fm := hfr m
                obtain ⟨n, hn⟩ : ∃ n, n = (lv T m).hi := ⟨_, rfl⟩
                rw [← hn] at b1
                have HN := Lib.hid hn
                have r3 : (0 : Int) ≤ (m : Int) := by omega
                have r4 : (m : Int) < (T.days.length : Int) + 1 := by omega
                clear q0c q0f x0 t0 t1 t2 hla2 hrow hfr hn b0 HO hO6
                have HO7 := Lib.hid hO7
                clear hO7
                go_wp2_with (fail)
                refine wp_name ?_
                intro w8 h8
                have hE8 : Ext2 w5 w8 := by rw [h8]; exact below_set hE7 hbg
                have hO8 : OwnR w8 w5.heap.size 3 1 (.slice (some ⟨g0, 0, none⟩) (T.days.length + 1) cp0) (T.days.length + 1) (fun i _ => .int .i64 (if i = m then n else (lv T i).lo)) := by
                  rw [h8]
                  have h := HO7.out.set (i := m) (j := 0) (by omega) (by omega) (.int .i64 n)
                  rw [Nat.mul_one, Nat.add_zero] at h
                  refine h.congr fun i j hi hj => ?_
                  obtain rfl : j = 0 := by omega
                  by_cases him : i = m
                  · rw [if_pos ⟨him, rfl⟩, if_pos him]
                  · rw [if_neg (fun h => him h.1), if_neg him]
                have hi2 := ints_own (f := fun i => if i = m then n else (lv T i).lo) hO8
                have hk2 : keepsB T (fnL (fun i => if i = m then n else (lv T i).lo) (T.days.length + 1)) y = true := keepsB_at HK.out.rule ty0 (m := m) HM2.out (by rw [fnL_len]; omega) (by rw [fnL_at (by omega), if_pos rfl, HN.out]; exact (HLV.out m (by omega)).2) (by rw [fnL_at (by omega), if_pos rfl, HN.out]; exact HKP.out.2)
                have HK2 : Hid (∀ W, Ext2 w8 W → Calls Try.prog 27 #[.agg #[.slice s.h.a T.rule.heat.length s.h.cap, .slice s.w.a T.rule.wet.length s.w.cap, .int .i64 T.rule.own, .int .i64 T.rule.feed, .int .i64 T.rule.g0, .int .i64 T.rule.g1, .int .i64 T.rule.g2, .int .i64 T.rule.lost, .int .i64 T.first, .slice s.d.a T.days.length s.d.cap, .int .i64 T.start.lo, .int .i64 T.start.hi, .slice s.t.a T.tests.length s.t.cap], .slice (some ⟨g0, 0, none⟩) (T.days.length + 1) cp0, .agg #[.int .i64 y.day, .int .i64 y.grade, .int .i64 y.err]] W fun e w' => e = .returned (.bool true) ∧ Below W.heap.size W w') := Lib.hid fun W hW => by
                  have h := keeps_any (HT.out.below (below_ext hB5 (ext_trans hE8 hW))) HK.out.rule (hi2.below hW) ty0 HDB.out (fun i hi => by
                    rw [fnL_len] at hi; rw [fnL_at hi]
                    split
                    · rw [HN.out]; exact (HLV.out m (by omega)).2
                    · exact (HLV.out i hi).1)
                  rw [hk2, fnL_len] at h; exact h
                obtain ⟨tb3, toff3, hta, htr⟩ := (HT.out.tests.below (below_ext hB5 hE8)).row (by omega) (by omega)
                obtain ⟨t0, t1, t2⟩ := htr.three (i := j) hlt
                simp only [testC] at t0 t1 t2
                rw [← HY.out] at t0 t1 t2
                have x0 := Ext2.blk hE8 HX5.out
                rw [hta] at x0 HK2
                clear h8 hi2 hk2 hta htr hO8 cm fm b1 HK1
                have q0c := cell_blk x0
                have q0f := frz_blk x0
                go_wp2_with (fail)
                refine region_ev [] [0, 1, 2, 3, 4, 5, 6, 7, 8, 9, 10, 11, 12] [] [] (by kernel_rfl) (by kernel_rfl) (by intro c a d v w h; cases d <;> exact h) ?_
                simp only [picks, List.drop_succ_cons, List.drop_zero]
                repeat (refine wpQ0_step (fun K hK => ?_); go_simp; (refine hK _ ?_; clear hK K))
                refine wpQ0_nil ?_
                repeat ((with_reducible refine wpQ2_step (fun K hK => ?_)); go_simp; first | ((with_reducible refine hK _ ?_); clear hK K) | (apply Exists.intro; refine ⟨fun x => ?_, hK _ ?_⟩; ((with_reducible exact HK2.out x.1 x.2)); clear hK K))
                refine wpQ2_nil ?_
                refine Events.none_ fun w9 hg9 => ?_
                simp only [picks, List.drop_succ_cons, List.drop_zero]
                have hE9 : Ext2 w5 w9 := ext_trans hE8 hg9
                clear q0c q0f x0 t0 t1 t2
                go_wp2_with (fail)
                go_roundw
                case rel => exact ⟨j + 1, by go_num, by omega, ext_trans hE5 hE9⟩
                case measure => simp [intOf]; omega
        · have hjj : ¬ (j : Int) < (T.tests.length : Int) := by omega
          have hBj := below_ext hB4 hEj
          have q0c := cell_blk x0
          have q0f := frz_blk x0
          go_wp2_with (fail)
          (with_reducible refine (HA.out _).mono ?_)
          rintro e w6 ⟨rfl, hb6⟩
          have hB6 := below_ext hBj hb6
          go_wp2_with (fail)
          go_ret
          exact ⟨rfl, hB6⟩
theorem lawJust_any {T : Task} {s : TSl} {p : Int} {w : World} (hT : TaskAt w T s) (hp : 0 ≤ p ∧ p ≤ 255) : Calls Try.prog 4 #[.agg #[.slice s.h.a T.rule.heat.length s.h.cap, .slice s.w.a T.rule.wet.length s.w.cap, .int .i64 T.rule.own, .int .i64 T.rule.feed, .int .i64 T.rule.g0, .int .i64 T.rule.g1, .int .i64 T.rule.g2, .int .i64 T.rule.lost, .int .i64 T.first, .slice s.d.a T.days.length s.d.cap, .int .i64 T.start.lo, .int .i64 T.start.hi, .slice s.t.a T.tests.length s.t.cap], .int .u8 p] w fun e w' => e = .returned (.bool true) ∧ Below w.heap.size w w' := by
  by_cases h0 : (D.checkTask T).2.2 = 0
  · exact just_yes hT h0 hp.1 hp.2
  · exact just_no hT h0
end Go.Proofs.Ytfjbgcaogffiaaa
