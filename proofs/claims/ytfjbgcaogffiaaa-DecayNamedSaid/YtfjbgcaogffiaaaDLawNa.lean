/-
  The law DecayNamed, walked.
-/
import Derived.Test.YtfjbgcaogffiaaaDSlc
namespace Go.Proofs.Ytfjbgcaogffiaaa
open Go.RowKit D
set_option linter.unusedVariables false
set_option linter.unusedSimpArgs false
attribute [local go_sem high] run_minI run_maxI
attribute [local go_sem] upon2 cls_cell cls_frozen forall_const exists_eq_left'
attribute [local go_sem] FirstUpon at2_cell at2_cell'
attribute [local go_sem high] run_days_from
set_option maxRecDepth 100000 in
set_option maxHeartbeats 2000000 in
theorem named_no {T : Task} {s : TSl} {C : Cse} {sc : Sl} {w : World} (hT : TaskAt w T s) (h0 : (D.checkTask T).2.2 ≠ 0) : Calls Try.prog 6 #[.agg #[.slice s.h.a T.rule.heat.length s.h.cap, .slice s.w.a T.rule.wet.length s.w.cap, .int .i64 T.rule.own, .int .i64 T.rule.feed, .int .i64 T.rule.g0, .int .i64 T.rule.g1, .int .i64 T.rule.g2, .int .i64 T.rule.lost, .int .i64 T.first, .slice s.d.a T.days.length s.d.cap, .int .i64 T.start.lo, .int .i64 T.start.hi, .slice s.t.a T.tests.length s.t.cap], .agg #[.int .u8 C.start, .slice sc.a C.steps.length sc.cap]] w fun e w' => e = .returned (.bool true) ∧ Below w.heap.size w w' := by
  have HP : Hid (∀ W, Below w.heap.size w W → Calls Try.prog 17 #[.agg #[.slice s.h.a T.rule.heat.length s.h.cap, .slice s.w.a T.rule.wet.length s.w.cap, .int .i64 T.rule.own, .int .i64 T.rule.feed, .int .i64 T.rule.g0, .int .i64 T.rule.g1, .int .i64 T.rule.g2, .int .i64 T.rule.lost, .int .i64 T.first, .slice s.d.a T.days.length s.d.cap, .int .i64 T.start.lo, .int .i64 T.start.hi, .slice s.t.a T.tests.length s.t.cap]] W _) := Lib.hid fun W hW => levels_no (hT.below hW) h0
  obtain ⟨p1, p2, p3, hp⟩ : ∃ a b c, D.checkTask T = (a, b, c) := ⟨_, _, _, rfl⟩
  have HC : Hid (∀ W, Below w.heap.size w W → Calls Try.prog 22 #[.agg #[.slice s.h.a T.rule.heat.length s.h.cap, .slice s.w.a T.rule.wet.length s.w.cap, .int .i64 T.rule.own, .int .i64 T.rule.feed, .int .i64 T.rule.g0, .int .i64 T.rule.g1, .int .i64 T.rule.g2, .int .i64 T.rule.lost, .int .i64 T.first, .slice s.d.a T.days.length s.d.cap, .int .i64 T.start.lo, .int .i64 T.start.hi, .slice s.t.a T.tests.length s.t.cap]] W fun e w' => e = .returned (.tuple #[.int .i64 p1, .int .i64 p2, .int .i64 p3]) ∧ Below W.heap.size W w') := Lib.hid fun W hW => by
    have h := checkTaskR_any (hT.below hW); rw [hp] at h; exact h
  have hp3 : (D.checkTask T).2.2 = p3 := by rw [hp]
  rw [hp3] at HP h0
  have HA : Hid (∀ W, Calls Try.prog 21 #[] W fun e w' => e = .returned (.bool true) ∧ Below W.heap.size W w') := Lib.hid fun W => awake_any W
  have hne : (p3 == 0) = false := by simp [h0]
  have hne2 : (p3 != 0) = true := by simp [h0]
  clear hT hp hp3
  go_enter Try.func6, Try.ntmps6
  go_wp2_with (fail)
  (with_reducible refine (HP.out _ ?_).mono ?_)
  · repeat' (first | exact Below.refl _ _ | assumption | refine below_drewN ?_ _ | refine Below.drew ?_ | refine Below.alloc ?_ (by first | assumption | omega | (simp <;> omega)) _ | refine Below.setCell ?_ (by first | assumption | omega | (simp <;> omega)) _ | refine Ext2.on (by assumption) ?_)
  rintro e w1 ⟨⟨s1, s2, rfl⟩, hb1⟩
  have hB1 : Below w.heap.size w w1 := Below.trans (by repeat' (first | exact Below.refl _ _ | assumption | refine below_drewN ?_ _ | refine Below.drew ?_ | refine Below.alloc ?_ (by first | assumption | omega | (simp <;> omega)) _ | refine Below.setCell ?_ (by first | assumption | omega | (simp <;> omega)) _ | refine Ext2.on (by assumption) ?_)) (hb1.mono (by simp; omega))
  have x0 : w1.heap[w.heap.size]? = some (Obj.cells #[.slice s.h.a T.rule.heat.length s.h.cap, .slice s.w.a T.rule.wet.length s.w.cap, .int .i64 T.rule.own, .int .i64 T.rule.feed, .int .i64 T.rule.g0, .int .i64 T.rule.g1, .int .i64 T.rule.g2, .int .i64 T.rule.lost, .int .i64 T.first, .slice s.d.a T.days.length s.d.cap, .int .i64 T.start.lo, .int .i64 T.start.hi, .slice s.t.a T.tests.length s.t.cap] 31) := below_blk hb1 (by repeat' (first | (with_reducible assumption) | (with_reducible refine blk_set_ne ?_ ?_) | (with_reducible exact blk_new _ _) | (with_reducible refine blk_new' _ _ (by first | (with_reducible rfl) | (simp; done) | (simp <;> omega))) | (with_reducible refine blk_alloc ?_ _) | (with_reducible refine blk_drew ?_) | (with_reducible refine blk_drewN ?_ _) | (with_reducible refine Ext2.blk (by assumption) ?_) | omega | (simp <;> omega) | exact blk_set (by assumption) _ _)) (by first | (simp; done) | (simp; omega))
  clear hb1
  have q0c := cell_blk x0
  have q0f := frz_blk x0
  go_wp2_with (fail)
  (with_reducible refine (HC.out _ hB1).mono ?_)
  rintro e w2 ⟨rfl, hb2⟩
  have hB2 := below_ext hB1 hb2
  clear q0c q0f
  go_wp2_with (fail)
  (with_reducible refine (HA.out _).mono ?_)
  rintro e w3 ⟨rfl, hb3⟩
  have hB3 := below_ext hB2 hb3
  go_wp2_with (fail)
  go_ret
  exact ⟨rfl, hB3⟩
theorem strike_mem {l : List Strike} {i : Nat} (h : i < l.length) : strikeD l i ∈ l := by
  rw [strikeD, List.getD_eq_getElem?_getD, List.getElem?_eq_getElem h]; exact List.getElem_mem h
theorem struckB_neg {T : Task} (hk : TaskOk T) : struckB (struckT T) (-1) = false := by
  cases h : struckB (struckT T) (-1) with
  | false => rfl
  | true =>
    obtain ⟨q, h1, h2⟩ := struckB_of.1 h
    obtain ⟨n, h3⟩ := struck_ok hk h1
    have := h3.test; omega
set_option maxRecDepth 100000 in
set_option maxHeartbeats 2000000 in
theorem named_yes {T : Task} {s : TSl} {C : Cse} {sc : Sl} {w : World} (hT : TaskAt w T s) (hC : CseOk C) (hs : U8S w sc C.steps) (h0 : (D.checkTask T).2.2 = 0) : Calls Try.prog 6 #[.agg #[.slice s.h.a T.rule.heat.length s.h.cap, .slice s.w.a T.rule.wet.length s.w.cap, .int .i64 T.rule.own, .int .i64 T.rule.feed, .int .i64 T.rule.g0, .int .i64 T.rule.g1, .int .i64 T.rule.g2, .int .i64 T.rule.lost, .int .i64 T.first, .slice s.d.a T.days.length s.d.cap, .int .i64 T.start.lo, .int .i64 T.start.hi, .slice s.t.a T.tests.length s.t.cap], .agg #[.int .u8 C.start, .slice sc.a C.steps.length sc.cap]] w fun e w' => e = .returned (.bool true) ∧ Below w.heap.size w w' := by
  have hk := (task_ok h0).1
  have HK := Lib.hid hk
  have HT := Lib.hid hT
  have HS := Lib.hid hs
  have HP : Hid (∀ W, Below w.heap.size w W → Calls Try.prog 17 #[.agg #[.slice s.h.a T.rule.heat.length s.h.cap, .slice s.w.a T.rule.wet.length s.w.cap, .int .i64 T.rule.own, .int .i64 T.rule.feed, .int .i64 T.rule.g0, .int .i64 T.rule.g1, .int .i64 T.rule.g2, .int .i64 T.rule.lost, .int .i64 T.first, .slice s.d.a T.days.length s.d.cap, .int .i64 T.start.lo, .int .i64 T.start.hi, .slice s.t.a T.tests.length s.t.cap]] W _) := Lib.hid fun W hW => levels_yes (hT.below hW) h0
  have HC : Hid (∀ W, Below w.heap.size w W → Calls Try.prog 22 #[.agg #[.slice s.h.a T.rule.heat.length s.h.cap, .slice s.w.a T.rule.wet.length s.w.cap, .int .i64 T.rule.own, .int .i64 T.rule.feed, .int .i64 T.rule.g0, .int .i64 T.rule.g1, .int .i64 T.rule.g2, .int .i64 T.rule.lost, .int .i64 T.first, .slice s.d.a T.days.length s.d.cap, .int .i64 T.start.lo, .int .i64 T.start.hi, .slice s.t.a T.tests.length s.t.cap]] W _) := Lib.hid fun W hW => check_yes (hT.below hW) h0
  have HA : Hid (∀ W, Calls Try.prog 21 #[] W fun e w' => e = .returned (.bool true) ∧ Below W.heap.size W w') := Lib.hid fun W => awake_any W
  have hnd := hk.nd
  have hnt := hk.nt
  have hfst := hk.first
  have hdl := hT.days.le
  have hdm := hT.days.max
  clear hT hs h0 hk
  go_enter Try.func6, Try.ntmps6
  go_wp2_with (fail)
  (with_reducible refine (HP.out _ ?_).mono ?_)
  · repeat' (first | exact Below.refl _ _ | assumption | refine below_drewN ?_ _ | refine Below.drew ?_ | refine Below.alloc ?_ (by first | assumption | omega | (simp <;> omega)) _ | refine Below.setCell ?_ (by first | assumption | omega | (simp <;> omega)) _ | refine Ext2.on (by assumption) ?_)
  rintro e w1 ⟨⟨s1, s2, rfl, -, hs2⟩, hb1⟩
  have hB1 : Below w.heap.size w w1 := Below.trans (by repeat' (first | exact Below.refl _ _ | assumption | refine below_drewN ?_ _ | refine Below.drew ?_ | refine Below.alloc ?_ (by first | assumption | omega | (simp <;> omega)) _ | refine Below.setCell ?_ (by first | assumption | omega | (simp <;> omega)) _ | refine Ext2.on (by assumption) ?_)) (hb1.mono (by simp; omega))
  have x0 : w1.heap[w.heap.size]? = some (Obj.cells #[.slice s.h.a T.rule.heat.length s.h.cap, .slice s.w.a T.rule.wet.length s.w.cap, .int .i64 T.rule.own, .int .i64 T.rule.feed, .int .i64 T.rule.g0, .int .i64 T.rule.g1, .int .i64 T.rule.g2, .int .i64 T.rule.lost, .int .i64 T.first, .slice s.d.a T.days.length s.d.cap, .int .i64 T.start.lo, .int .i64 T.start.hi, .slice s.t.a T.tests.length s.t.cap] 31) := below_blk hb1 (by repeat' (first | (with_reducible assumption) | (with_reducible refine blk_set_ne ?_ ?_) | (with_reducible exact blk_new _ _) | (with_reducible refine blk_new' _ _ (by first | (with_reducible rfl) | (simp; done) | (simp <;> omega))) | (with_reducible refine blk_alloc ?_ _) | (with_reducible refine blk_drew ?_) | (with_reducible refine blk_drewN ?_ _) | (with_reducible refine Ext2.blk (by assumption) ?_) | omega | (simp <;> omega) | exact blk_set (by assumption) _ _)) (by first | (simp; done) | (simp; omega))
  have x1 : w1.heap[w.heap.size + 1]? = some (Obj.cells #[.int .u8 C.start, .slice sc.a C.steps.length sc.cap] 57) := below_blk hb1 (by repeat' (first | (with_reducible assumption) | (with_reducible refine blk_set_ne ?_ ?_) | (with_reducible exact blk_new _ _) | (with_reducible refine blk_new' _ _ (by first | (with_reducible rfl) | (simp; done) | (simp <;> omega))) | (with_reducible refine blk_alloc ?_ _) | (with_reducible refine blk_drew ?_) | (with_reducible refine blk_drewN ?_ _) | (with_reducible refine Ext2.blk (by assumption) ?_) | omega | (simp <;> omega) | exact blk_set (by assumption) _ _)) (by first | (simp; done) | (simp; omega))
  clear hb1
  have q0c := cell_blk x0
  have q0f := frz_blk x0
  go_wp2_with (fail)
  (with_reducible refine (HC.out _ hB1).mono ?_)
  rintro e w2 ⟨rfl, hb2⟩
  have hB2 := below_ext hB1 hb2
  have HX0 := Lib.hid (Ext2.blk hb2 x0)
  have HX1 := Lib.hid (Ext2.blk hb2 x1)
  have HS2 := Lib.hid (hs2.below hb2)
  have hln := (good_len (days_ok HK.out)).2
  clear q0c q0f x0 x1 hs2 hb2 hB1 HP HC
  go_wp2_with (fail)
  go_loopw [11] (fun i wr => ∃ k : Nat, i = .int .i64 (k : Int) ∧ k ≤ (struckT T).length ∧ Ext2 w2 wr) (fun i _ => (struckT T).length - (intOf i).toNat)
  case atStart => exact ⟨0, rfl, by omega, Below.refl _ _⟩
  case round =>
    obtain ⟨k, rfl, hk, hE⟩ := hrel
    have hEr : Ext2 w2 wr := hE
    clear hE
    have hB := below_ext hB2 hEr
    have x0 := Ext2.blk hEr HX0.out
    have x1 := Ext2.blk hEr HX1.out
    by_cases hlt : k < (struckT T).length
    · obtain ⟨⟨a2, c2⟩, hs2⟩ : ∃ z : Sl, z = s2 := ⟨_, rfl⟩
      subst hs2
      obtain ⟨qb, qoff, rfl, q0, q1⟩ := strikes_at (HS2.out.below hEr) hlt
      have hS2r := HS2.out.below hEr
      obtain ⟨n, hn⟩ := struck_ok HK.out (strike_mem hlt)
      obtain ⟨n1, n2, n3, n4⟩ := hn
      obtain ⟨by_, hby⟩ : ∃ b, b = (strikeD (struckT T) k).by_ := ⟨_, rfl⟩
      rw [n1] at q0
      rw [← hby] at q1 n4
      have p0 : (0 : Int) ≤ (k : Int) := by omega
      have p1 : (k : Int) < ((struckT T).length : Int) := by omega
      have p2 : (n : Int) < (T.tests.length : Int) := by omega
      have p3 : (0 : Int) ≤ (n : Int) := by omega
      have w2' : IntKind.i64.wrap ((k : Int) + 1) = (k : Int) + 1 := IntWalk.i64_in _ (by omega)
      have g0 : decide ((n : Int) < 0) = false := decide_eq_false (by omega)
      have g1 : decide ((T.tests.length : Int) ≤ (n : Int)) = false := decide_eq_false (by omega)
      have hbr : -1 ≤ by_ ∧ by_ < (T.tests.length : Int) ∧ struckB (struckT T) by_ = false := by
        rcases n4 with ⟨h, -⟩ | ⟨x, h1, h2, h3, -⟩
        · rw [h]; exact ⟨Int.le_refl _, by omega, struckB_neg HK.out⟩
        · rw [h2]; exact ⟨by omega, by omega, good_not_struck HK.out h1⟩
      obtain ⟨hb1, hb2, hb3⟩ := hbr
      have g2 : decide (by_ < -1) = false := decide_eq_false (by omega)
      have g3 : decide ((T.tests.length : Int) ≤ by_) = false := decide_eq_false (by omega)
      have HST : Hid (∀ W, Ext2 wr W → Calls Try.prog 26 #[.slice (some ⟨qb, qoff, none⟩) (struckT T).length c2, .int .i64 by_] W fun e w' => e = .returned (.bool false) ∧ Below W.heap.size W w') := Lib.hid fun W hW => by
        rw [← hb3]
        exact (struckIs_any (s := ⟨some ⟨qb, qoff, none⟩, c2⟩) by_ (hS2r.below hW)).mono fun e w' ⟨he, q, hq⟩ => ⟨he, by rw [hq]; exact below_drewN (Below.refl _ _) q⟩
      have N4 := Lib.hid n4
      clear hby n1 n3 n4 hb3 hS2r
      have q0c := cell_blk x0
      have q0f := frz_blk x0
      go_wp2_with (fail)
      go_quiet (fail)
      go_wp2_with (fail)
      (with_reducible refine (HST.out _ ?_).mono ?_)
      · exact below_drewN (Below.refl _ _) _
      rintro e w3 ⟨rfl, hb3⟩
      have hE3 : Ext2 wr w3 := Below.trans (below_drewN (Below.refl _ _) _) hb3
      have x0 := Ext2.blk hE3 x0
      have x1 := Ext2.blk hE3 x1
      have hz3 := blk_lt x1
      have e1 : ¬ w.heap.size = w3.heap.size := by omega
      have e2 : ¬ w.heap.size + 1 = w3.heap.size := by omega
      have hE23 : Ext2 w2 w3 := ext_trans hEr hE3
      have hB3 := below_ext hB hE3
      clear hb3 q0c q0f q0 q1
      have q0c := cell_blk x0
      have q0f := frz_blk x0
      have q1c := cell_blk x1
      have q1f := frz_blk x1
      rcases N4.out with ⟨hby, hbad⟩ | ⟨x, hx1, hx2, hx3, hx4, hx5⟩
      · subst hby
        have hkeep := named_start HK.out hC n2 hbad
        have HWK : Hid (∀ W, Ext2 w3 W → Calls Try.prog 28 #[.agg #[.slice s.h.a T.rule.heat.length s.h.cap, .slice s.w.a T.rule.wet.length s.w.cap, .int .i64 T.rule.own, .int .i64 T.rule.feed, .int .i64 T.rule.g0, .int .i64 T.rule.g1, .int .i64 T.rule.g2, .int .i64 T.rule.lost, .int .i64 T.first, (.slice s.d.a T.days.length s.d.cap), .int .i64 T.start.lo, .int .i64 T.start.hi, (.slice none 0 0)], .agg #[.int .u8 C.start, .slice sc.a C.steps.length sc.cap]] W fun e w' => (∃ z : Sl, e = .returned (.tuple #[.slice z.a (T.days.length + 1) z.cap, .bool true]) ∧ RowS w' z 1 (T.days.length + 1) (crsC (bareT T) C)) ∧ Below W.heap.size W w') := Lib.hid fun W hW => by
          have hTW := HT.out.below (below_ext hB3 hW)
          exact walked_yes (T := bareT T) (s := ⟨s.h, s.w, s.d, ⟨none, 0⟩⟩) ⟨hTW.rule, hTW.days, ⟨Nat.le_refl _, by simp, fun i j hi _ => absurd hi (Nat.not_lt_zero i)⟩⟩ hC (HS.out.below (below_ext hB3 hW)) (task_mk (bare_ok HK.out))
        have HKE := Lib.hid hkeep
        clear hbad hkeep
        go_wp2_with (fail)
        (with_reducible refine (HWK.out _ ?_).mono ?_)
        · exact below_alloc' _ _
        rintro e w4 ⟨⟨⟨za, zc⟩, rfl, hz⟩, hb4⟩
        have hE4 : Ext2 w3 w4 := Below.trans (below_alloc' _ _) (hb4.mono (by simp))
        have x14 : w4.heap[w3.heap.size]? = some (Obj.cells #[.slice s.h.a T.rule.heat.length s.h.cap, .slice s.w.a T.rule.wet.length s.w.cap, .int .i64 T.rule.own, .int .i64 T.rule.feed, .int .i64 T.rule.g0, .int .i64 T.rule.g1, .int .i64 T.rule.g2, .int .i64 T.rule.lost, .int .i64 T.first, (.slice s.d.a T.days.length s.d.cap), .int .i64 T.start.lo, .int .i64 T.start.hi, (.slice none 0 0)] 31) := below_blk hb4 (blk_new _ _) (by simp)
        have x0 := Ext2.blk hE4 x0
        have hB4 := below_ext hB3 hE4
        have hE24 := ext_trans hE23 hE4
        clear hb4 q0c q0f q1c q1f x1
        have hzi := crs_ints (T := bareT T) hz
        obtain ⟨tb, toff, hta, htr⟩ := (HT.out.tests.below hB4).row (by omega) (by omega)
        obtain ⟨t0, t1, t2⟩ := htr.three (i := n) n2
        simp only [testC] at t0 t1 t2
        obtain ⟨y, hy⟩ : ∃ y, y = testD T.tests n := ⟨_, rfl⟩
        have htok := HK.out.tests n n2
        have HKE := Lib.hid HKE.out
        rw [← hy] at t0 t1 t2 htok HKE
        have hcr : ∀ i, i < (crsL (bareT T) C).length → 0 ≤ intD (crsL (bareT T) C) i ∧ intD (crsL (bareT T) C) i ≤ 1000000 := fun i hi => by
          rw [crsL_len] at hi
          rw [crsL_at (by omega)]
          exact crs_rng (bare_ok HK.out) hC (by omega)
        have HKP : Hid (∀ W, Ext2 w4 W → Calls Try.prog 27 #[.agg #[.slice s.h.a T.rule.heat.length s.h.cap, .slice s.w.a T.rule.wet.length s.w.cap, .int .i64 T.rule.own, .int .i64 T.rule.feed, .int .i64 T.rule.g0, .int .i64 T.rule.g1, .int .i64 T.rule.g2, .int .i64 T.rule.lost, .int .i64 T.first, (.slice s.d.a T.days.length s.d.cap), .int .i64 T.start.lo, .int .i64 T.start.hi, (.slice none 0 0)], .slice za (T.days.length + 1) zc, .agg #[.int .i64 y.day, .int .i64 y.grade, .int .i64 y.err]] W fun e w' => e = .returned (.bool false) ∧ Below W.heap.size W w') := Lib.hid fun W hW => by
          have hTW := HT.out.below (below_ext hB4 hW)
          have h := keeps_any (T := bareT T) (s := ⟨s.h, s.w, s.d, ⟨none, 0⟩⟩) (w := W) ⟨hTW.rule, hTW.days, ⟨Nat.le_refl _, by simp, fun i j hi _ => absurd hi (Nat.not_lt_zero i)⟩⟩ HK.out.rule (hzi.below hW) htok.1 (by show _ ≤ y.day - T.first ∧ y.day - T.first ≤ _; omega) hcr
          rw [HKE.out, crsL_len] at h; exact h
        rw [hta] at x0
        have g5 : decide ((-1 : Int) < 0) = true := rfl
        clear hta htr hy hzi hz hcr
        have q0c := cell_blk x0
        have q0f := frz_blk x0
        have q14c := cell_blk x14
        have q14f := frz_blk x14
        go_wp2_with (fail)
        refine region_ev [] [0, 1, 2, 3, 4, 5, 6, 7, 8, 9, 10, 11, 12, 13, 14, 15, 16, 17, 18, 19, 20, 21] [] [] (by kernel_rfl) (by kernel_rfl) (by intro c a d v w h; cases d <;> exact h) ?_
        simp only [picks, List.drop_succ_cons, List.drop_zero]
        repeat (refine wpQ0_step (fun K hK => ?_); go_simp; (refine hK _ ?_; clear hK K))
        refine wpQ0_nil ?_
        repeat ((with_reducible refine wpQ2_step (fun K hK => ?_)); go_simp; first | ((with_reducible refine hK _ ?_); clear hK K) | (apply Exists.intro; refine ⟨fun x => ?_, hK _ ?_⟩; ((with_reducible exact HKP.out x.1 x.2)); clear hK K))
        refine wpQ2_nil ?_
        refine Events.none_ fun w5 hg5 => ?_
        simp only [picks, List.drop_succ_cons, List.drop_zero]
        have hE5 := ext_trans hE24 hg5
        clear q0c q0f x0 t0 t1 t2 q14c q14f x14
        go_wp2_with (fail)
        go_roundw
        case rel => exact ⟨k + 1, by go_num, by omega, hE5⟩
        case measure => simp [intOf]; omega
      · subst hx2
        go_wp2_with (fail)
        refine wp_name ?_
        intro w4 h4
        have hE4 : Ext2 w3 w4 := by rw [h4]; exact below_alloc' _ _
        have x14 : w4.heap[w3.heap.size]? = some (Obj.cells #[.slice s.h.a T.rule.heat.length s.h.cap, .slice s.w.a T.rule.wet.length s.w.cap, .int .i64 T.rule.own, .int .i64 T.rule.feed, .int .i64 T.rule.g0, .int .i64 T.rule.g1, .int .i64 T.rule.g2, .int .i64 T.rule.lost, .int .i64 T.first, (.slice s.d.a T.days.length s.d.cap), .int .i64 T.start.lo, .int .i64 T.start.hi, (.slice none 0 0)] 31) := by rw [h4]; exact blk_new _ _
        have x0 := Ext2.blk hE4 x0
        have x1 := Ext2.blk hE4 x1
        have hB4 := below_ext hB3 hE4
        obtain ⟨b14, hb14⟩ : ∃ b, b = w3.heap.size := ⟨_, rfl⟩
        rw [← hb14] at x14 hz3 e1 e2 ⊢
        have hl14 := blk_lt x14
        have hb2 : w2.heap.size ≤ b14 := by rw [hb14]; exact hE23.size
        have hE24 := ext_trans hE23 hE4
        have HX0 := Lib.hid x0
        clear h4 q0c q0f q1c q1f hE3 hE4 hb14
        obtain ⟨tb, toff, hta, htr⟩ := (HT.out.tests.below hB4).row (by omega) (by omega)
        obtain ⟨t0, t1, t2⟩ := htr.three (i := n) n2
        obtain ⟨u0, u1, u2⟩ := htr.three (i := x) hx3
        simp only [testC] at t0 t1 t2 u0 u1 u2
        obtain ⟨y, hy⟩ : ∃ y, y = testD T.tests n := ⟨_, rfl⟩
        obtain ⟨z, hz⟩ : ∃ z, z = testD T.tests x := ⟨_, rfl⟩
        have hmn := mo_days (days_ok HK.out) n2
        have hmx := mo_days (days_ok HK.out) hx3
        have htn := HK.out.tests n n2
        have htx := HK.out.tests x hx3
        have hby := named_by HK.out hC hx3 n2 (by unfold Bef at hx4; omega) hx5
        rw [← hy] at t0 t1 t2 htn hby
        rw [← hz] at u0 u1 u2 htx hby
        have hyd : dayD' T n = y.day := by rw [hy]; rfl
        have hzd : dayD' T x = z.day := by rw [hz]; rfl
        rw [hyd] at hmn
        rw [hzd] at hmx
        obtain ⟨m, hm⟩ : ∃ m, m = mo T x := ⟨_, rfl⟩
        have hbef := hx4
        unfold Bef at hbef
        rw [← hm] at hmx hbef
        have g6 : decide (y.day < z.day) = false := decide_eq_false (by omega)
        have g7 : (z.day == y.day) = true ∧ decide ((n : Int) ≤ (x : Int)) = false ∧ decide (n ≤ x) = false ∧ x < n ∨ (z.day == y.day) = false := by
          by_cases h : z.day = y.day
          · exact .inl ⟨by simp [h], decide_eq_false (by omega), decide_eq_false (by omega), by omega⟩
          · exact .inr (by simp [h])
        have p4 : (x : Int) < (T.tests.length : Int) := by omega
        have p5 : (0 : Int) ≤ (x : Int) := by omega
        have w0' : IntKind.i64.wrap (z.day - T.first) = (m : Int) := by rw [hmx.2]; exact IntWalk.i64_in _ (by omega)
        have hml := hmx.1
        have HM := Lib.hid hm; have HZ := Lib.hid hz; have HY := Lib.hid hy; have HBY := Lib.hid hby
        have HTN := Lib.hid htn; have HTX := Lib.hid htx
        have HD := Lib.hid (show -100000 ≤ y.day - z.day ∧ y.day - z.day ≤ 100000 by omega)
        have HTA := Lib.hid hta
        rw [hta] at x0
        clear hta htr hy hz hmn hmx htn htx hby hyd hzd hm hbef hx4 hx5
        have q0c := cell_blk x0
        have q0f := frz_blk x0
        refine region_ev [] [0, 1, 2, 3, 4, 5, 6, 7, 8, 9] [(10, 15, some 12), (11, 16, some 13)] [] (by kernel_rfl) (by kernel_rfl) (by intro c a d v w h; cases d <;> exact h) ?_
        simp only [picks, List.drop_succ_cons, List.drop_zero]
        repeat (refine wpQ0_step (fun K hK => ?_); go_simp; (refine hK _ ?_; clear hK K))
        refine wpQ0_nil ?_
        repeat ((with_reducible refine wpQ2_step (fun K hK => ?_)); go_simp; first | ((with_reducible refine hK _ ?_); clear hK K) | (apply Exists.intro; refine ⟨fun x => ?_, hK _ ?_⟩; (fail); clear hK K))
        refine wpQ2_nil ?_
        refine Events.fill2 (fun b => .pointer (some ⟨b, 0, none⟩)) (Obj.cells #[.int .i64 0, .int .i64 0, .int .i64 0] 51) (Obj.cells #[.int .i64 z.day, .int .i64 z.grade, .int .i64 z.err] 51) (fun b => .pointer (some ⟨b, 0, none⟩)) (Obj.cells #[.int .i64 0, .int .i64 0, .int .i64 0] 51) (Obj.cells #[.int .i64 y.day, .int .i64 y.grade, .int .i64 y.err] 51) ⟨_, rfl, rfl, rfl, fun W => by kernel_rfl⟩ ⟨_, rfl, rfl, rfl, fun b W hb => ?_⟩ ⟨_, rfl, rfl, rfl, fun W => by kernel_rfl⟩ ⟨_, rfl, rfl, rfl, fun b W hb => ?_⟩ (by omega) fun b15 b16 w5 hb15 hb16 hneb15 hg5 nb15 nb16 => ?_
        · have hbc := cell_blk hb; have hbf := frz_blk hb; go_simp; exact turn_three hb _ _ _
        · have hbc := cell_blk hb; have hbf := frz_blk hb; go_simp; exact turn_three hb _ _ _
        simp only [picks, List.drop_succ_cons, List.drop_zero]
        have hE5 : Ext2 w2 w5 := ext_trans hE24 hg5
        have x14 := Ext2.blk hg5 x14
        have HX5 := Lib.hid (Ext2.blk hg5 HX0.out)
        have hn15 : ¬ b14 = b15 := by omega
        have hn0 : ¬ b14 = w.heap.size := by omega
        have HN15 := Lib.hid nb15
        clear q0c q0f x0 t0 t1 t2 u0 u1 u2 hg5
        have q15c := cell_blk nb15
        have q15f := frz_blk nb15
        have q16c := cell_blk nb16
        have q16f := frz_blk nb16
        have HSP : Hid (∀ W, Calls Try.prog 25 #[.int .i64 0, .int .i64 1000000] W fun e w' => e = .returned (.agg #[.int .i64 0, .int .i64 1000000]) ∧ Below W.heap.size W w') := Lib.hid fun W => span_any 0 1000000 W
        rcases g7 with ⟨g8, g9, g10, g11⟩ | g8
        case' inl => go_wp2_with (fail)
        case' inr => go_wp2_with (fail)
        all_goals
          clear q15c q15f q16c q16f
          have x0 := HX5.out
          have q0c := cell_blk x0
          have q0f := frz_blk x0
          have q15c := cell_blk nb15
          have q15f := frz_blk nb15
          haveI hcls : Nonempty (Cls (At2 w.heap.size #[.slice s.h.a T.rule.heat.length s.h.cap, .slice s.w.a T.rule.wet.length s.w.cap, .int .i64 T.rule.own, .int .i64 T.rule.feed, .int .i64 T.rule.g0, .int .i64 T.rule.g1, .int .i64 T.rule.g2, .int .i64 T.rule.lost, .int .i64 T.first, .slice s.d.a T.days.length s.d.cap, .int .i64 T.start.lo, .int .i64 T.start.hi, .slice s.t.a T.tests.length s.t.cap] 31 b15 #[.int .i64 z.day, .int .i64 z.grade, .int .i64 z.err] 51)) := ⟨⟨w5, x0, nb15⟩⟩
          refine region_evH (At2 w.heap.size #[.slice s.h.a T.rule.heat.length s.h.cap, .slice s.w.a T.rule.wet.length s.w.cap, .int .i64 T.rule.own, .int .i64 T.rule.feed, .int .i64 T.rule.g0, .int .i64 T.rule.g1, .int .i64 T.rule.g2, .int .i64 T.rule.lost, .int .i64 T.first, .slice s.d.a T.days.length s.d.cap, .int .i64 T.start.lo, .int .i64 T.start.hi, .slice s.t.a T.tests.length s.t.cap] 31 b15 #[.int .i64 z.day, .int .i64 z.grade, .int .i64 z.err] 51) [2, 3, 4, 5, 6, 7, 8, 9] [0, 1, 10, 11] [] [12, 13, 14, 15, 16] (At2.ext x0 nb15) (by kernel_rfl) (by kernel_rfl) (by intro c a d v w h; cases d <;> exact h) ?_
          simp only [picks, List.drop_succ_cons, List.drop_zero]
          repeat (refine wpQS_step (fun K hK => ?_); go_simp; (refine hK _ ?_; clear hK K))
          refine wpQS_nil ?_
          repeat ((with_reducible refine wpQ2_step (fun K hK => ?_)); go_simp; first | ((with_reducible refine hK _ ?_); clear hK K) | (apply Exists.intro; refine ⟨fun x => ?_, hK _ ?_⟩; ((with_reducible exact HSP.out x.1)); clear hK K))
          refine wpQ2_nil ?_
          refine EventsH.none_ fun w6 hg6 => ?_
          simp only [picks, List.drop_succ_cons, List.drop_zero]
          have hE6 : Ext2 w2 w6 := ext_trans hE5 hg6
          have y14 := Ext2.blk hg6 x14
          have y0 := Ext2.blk hg6 x0
          have y15 := Ext2.blk hg6 nb15
          have y1 := Ext2.blk hE6 HX1.out
          clear q0c q0f q15c q15f x0 hcls
          have q14c := cell_blk y14
          have q14f := frz_blk y14
          refine wpListH_cons ?_
          go_wp2_with (fail)
          refine ⟨⟨by repeat' (first | (with_reducible assumption) | (with_reducible refine blk_set_ne ?_ ?_) | (with_reducible exact blk_new _ _) | (with_reducible refine blk_new' _ _ (by first | (with_reducible rfl) | (simp; done) | (simp <;> omega))) | (with_reducible refine blk_alloc ?_ _) | (with_reducible refine blk_drew ?_) | (with_reducible refine blk_drewN ?_ _) | (with_reducible refine Ext2.blk (by assumption) ?_) | omega | (simp <;> omega) | exact blk_set (by assumption) _ _), by repeat' (first | (with_reducible assumption) | (with_reducible refine blk_set_ne ?_ ?_) | (with_reducible exact blk_new _ _) | (with_reducible refine blk_new' _ _ (by first | (with_reducible rfl) | (simp; done) | (simp <;> omega))) | (with_reducible refine blk_alloc ?_ _) | (with_reducible refine blk_drew ?_) | (with_reducible refine blk_drewN ?_ _) | (with_reducible refine Ext2.blk (by assumption) ?_) | omega | (simp <;> omega) | exact blk_set (by assumption) _ _)⟩, wpListH_cons ?_⟩
          go_wp2_with (fail)
          refine ⟨⟨by repeat' (first | (with_reducible assumption) | (with_reducible refine blk_set_ne ?_ ?_) | (with_reducible exact blk_new _ _) | (with_reducible refine blk_new' _ _ (by first | (with_reducible rfl) | (simp; done) | (simp <;> omega))) | (with_reducible refine blk_alloc ?_ _) | (with_reducible refine blk_drew ?_) | (with_reducible refine blk_drewN ?_ _) | (with_reducible refine Ext2.blk (by assumption) ?_) | omega | (simp <;> omega) | exact blk_set (by assumption) _ _), by repeat' (first | (with_reducible assumption) | (with_reducible refine blk_set_ne ?_ ?_) | (with_reducible exact blk_new _ _) | (with_reducible refine blk_new' _ _ (by first | (with_reducible rfl) | (simp; done) | (simp <;> omega))) | (with_reducible refine blk_alloc ?_ _) | (with_reducible refine blk_drew ?_) | (with_reducible refine blk_drewN ?_ _) | (with_reducible refine Ext2.blk (by assumption) ?_) | omega | (simp <;> omega) | exact blk_set (by assumption) _ _)⟩, wpListH_cons ?_⟩
          go_wp2_with (fail)
          refine ⟨⟨by repeat' (first | (with_reducible assumption) | (with_reducible refine blk_set_ne ?_ ?_) | (with_reducible exact blk_new _ _) | (with_reducible refine blk_new' _ _ (by first | (with_reducible rfl) | (simp; done) | (simp <;> omega))) | (with_reducible refine blk_alloc ?_ _) | (with_reducible refine blk_drew ?_) | (with_reducible refine blk_drewN ?_ _) | (with_reducible refine Ext2.blk (by assumption) ?_) | omega | (simp <;> omega) | exact blk_set (by assumption) _ _), by repeat' (first | (with_reducible assumption) | (with_reducible refine blk_set_ne ?_ ?_) | (with_reducible exact blk_new _ _) | (with_reducible refine blk_new' _ _ (by first | (with_reducible rfl) | (simp; done) | (simp <;> omega))) | (with_reducible refine blk_alloc ?_ _) | (with_reducible refine blk_drew ?_) | (with_reducible refine blk_drewN ?_ _) | (with_reducible refine Ext2.blk (by assumption) ?_) | omega | (simp <;> omega) | exact blk_set (by assumption) _ _)⟩, wpListH_cons ?_⟩
          go_wp2_with (fail)
          refine ⟨⟨by repeat' (first | (with_reducible assumption) | (with_reducible refine blk_set_ne ?_ ?_) | (with_reducible exact blk_new _ _) | (with_reducible refine blk_new' _ _ (by first | (with_reducible rfl) | (simp; done) | (simp <;> omega))) | (with_reducible refine blk_alloc ?_ _) | (with_reducible refine blk_drew ?_) | (with_reducible refine blk_drewN ?_ _) | (with_reducible refine Ext2.blk (by assumption) ?_) | omega | (simp <;> omega) | exact blk_set (by assumption) _ _), by repeat' (first | (with_reducible assumption) | (with_reducible refine blk_set_ne ?_ ?_) | (with_reducible exact blk_new _ _) | (with_reducible refine blk_new' _ _ (by first | (with_reducible rfl) | (simp; done) | (simp <;> omega))) | (with_reducible refine blk_alloc ?_ _) | (with_reducible refine blk_drew ?_) | (with_reducible refine blk_drewN ?_ _) | (with_reducible refine Ext2.blk (by assumption) ?_) | omega | (simp <;> omega) | exact blk_set (by assumption) _ _)⟩, wpListH_cons ?_⟩
          go_wp2_with (fail)
          refine ⟨⟨by repeat' (first | (with_reducible assumption) | (with_reducible refine blk_set_ne ?_ ?_) | (with_reducible exact blk_new _ _) | (with_reducible refine blk_new' _ _ (by first | (with_reducible rfl) | (simp; done) | (simp <;> omega))) | (with_reducible refine blk_alloc ?_ _) | (with_reducible refine blk_drew ?_) | (with_reducible refine blk_drewN ?_ _) | (with_reducible refine Ext2.blk (by assumption) ?_) | omega | (simp <;> omega) | exact blk_set (by assumption) _ _), by repeat' (first | (with_reducible assumption) | (with_reducible refine blk_set_ne ?_ ?_) | (with_reducible exact blk_new _ _) | (with_reducible refine blk_new' _ _ (by first | (with_reducible rfl) | (simp; done) | (simp <;> omega))) | (with_reducible refine blk_alloc ?_ _) | (with_reducible refine blk_drew ?_) | (with_reducible refine blk_drewN ?_ _) | (with_reducible refine Ext2.blk (by assumption) ?_) | omega | (simp <;> omega) | exact blk_set (by assumption) _ _)⟩, wpListH_nil ?_⟩
          have q1c := cell_blk y1
          have q1f := frz_blk y1
          have hb1 : ¬ b14 = w.heap.size + 1 := by omega
          go_wp2_with (fail)
          refine calls_name ?_
          intro w7 h7
          have z14 : w7.heap[b14]? = some (Obj.cells #[.slice s.h.a T.rule.heat.length s.h.cap, .slice s.w.a T.rule.wet.length s.w.cap, .int .i64 T.rule.own, .int .i64 T.rule.feed, .int .i64 T.rule.g0, .int .i64 T.rule.g1, .int .i64 T.rule.g2, .int .i64 T.rule.lost, .int .i64 z.day, .slice (dropA s.d.a s.d.cap m 4) (T.days.length - m) (s.d.cap - m), .int .i64 0, .int .i64 1000000, .slice none 0 0] 31) := by rw [h7]; exact Eq.trans (blk_set (blk_set (blk_set (blk_set y14 _ _) _ _) _ _) _ _) rfl
          have hE7 : Ext2 w2 w7 := by rw [h7]; exact below_set (below_set (below_set (below_set hE6 hb2) hb2) hb2) hb2
          have z0 : w7.heap[w.heap.size]? = some (Obj.cells #[.slice s.h.a T.rule.heat.length s.h.cap, .slice s.w.a T.rule.wet.length s.w.cap, .int .i64 T.rule.own, .int .i64 T.rule.feed, .int .i64 T.rule.g0, .int .i64 T.rule.g1, .int .i64 T.rule.g2, .int .i64 T.rule.lost, .int .i64 T.first, .slice s.d.a T.days.length s.d.cap, .int .i64 T.start.lo, .int .i64 T.start.hi, .slice s.t.a T.tests.length s.t.cap] 31) := by rw [h7]; repeat' (first | (with_reducible assumption) | (with_reducible refine blk_set_ne ?_ ?_) | (with_reducible exact blk_new _ _) | (with_reducible refine blk_new' _ _ (by first | (with_reducible rfl) | (simp; done) | (simp <;> omega))) | (with_reducible refine blk_alloc ?_ _) | (with_reducible refine blk_drew ?_) | (with_reducible refine blk_drewN ?_ _) | (with_reducible refine Ext2.blk (by assumption) ?_) | omega | (simp <;> omega) | exact blk_set (by assumption) _ _)
          have z1 : w7.heap[w.heap.size + 1]? = some (Obj.cells #[.int .u8 C.start, .slice sc.a C.steps.length sc.cap] 57) := by rw [h7]; repeat' (first | (with_reducible assumption) | (with_reducible refine blk_set_ne ?_ ?_) | (with_reducible exact blk_new _ _) | (with_reducible refine blk_new' _ _ (by first | (with_reducible rfl) | (simp; done) | (simp <;> omega))) | (with_reducible refine blk_alloc ?_ _) | (with_reducible refine blk_drew ?_) | (with_reducible refine blk_drewN ?_ _) | (with_reducible refine Ext2.blk (by assumption) ?_) | omega | (simp <;> omega) | exact blk_set (by assumption) _ _)
          clear h7 y14 y0 y15 y1 q14c q14f q1c q1f
          have hB7 := below_ext hB2 hE7
          have hld : (fromT T x).days.length = T.days.length - m := by rw [HM.out]; exact List.length_drop
          have hzd : z.day = dayD' T x := by rw [HZ.out]; rfl
          have hat : ∀ W, Ext2 w7 W → TaskAt W (fromT T x) ⟨s.h, s.w, ⟨dropA s.d.a s.d.cap m 4, s.d.cap - m⟩, ⟨none, 0⟩⟩ := fun W hW => by
            have hTW := HT.out.below (below_ext hB7 hW)
            refine ⟨hTW.rule, ?_, ⟨Nat.le_refl _, by simp, fun i j hi _ => absurd hi (Nat.not_lt_zero i)⟩⟩
            have h := days_drop hTW.days hml
            rw [HM.out] at h ⊢
            exact h
          have hwk : ∀ W, Ext2 w7 W → Calls Try.prog 28 #[.agg #[.slice s.h.a T.rule.heat.length s.h.cap, .slice s.w.a T.rule.wet.length s.w.cap, .int .i64 T.rule.own, .int .i64 T.rule.feed, .int .i64 T.rule.g0, .int .i64 T.rule.g1, .int .i64 T.rule.g2, .int .i64 T.rule.lost, .int .i64 z.day, .slice (dropA s.d.a s.d.cap m 4) (T.days.length - m) (s.d.cap - m), .int .i64 0, .int .i64 1000000, .slice none 0 0], .agg #[.int .u8 C.start, .slice sc.a C.steps.length sc.cap]] W fun e w' => (∃ z : Sl, e = .returned (.tuple #[.slice z.a (T.days.length - m + 1) z.cap, .bool true]) ∧ RowS w' z 1 (T.days.length - m + 1) (crsC (fromT T x) C)) ∧ Below W.heap.size W w' := fun W hW => by
            have h := walked_yes (hat W hW) hC (HS.out.below (below_ext hB7 hW)) (task_mk (from_ok HK.out hx3))
            rw [hld] at h
            rw [hzd]; exact h
          have HWK := Lib.hid hwk
          clear hwk
          (with_reducible refine (HWK.out _ ?_).mono ?_)
          · exact Below.refl _ _
          rintro e w8 ⟨⟨⟨za, zc⟩, rfl, hz⟩, hb8⟩
          have hE8 : Ext2 w2 w8 := ext_trans hE7 hb8
          have hB8 := below_ext hB2 hE8
          have z14 := Ext2.blk hb8 z14
          have z0 := Ext2.blk hb8 z0
          have hz' : RowS w8 ⟨za, zc⟩ 1 ((fromT T x).days.length + 1) (crsC (fromT T x) C) := by rw [hld]; exact hz
          have hzi := crs_ints hz'
          have hcr : ∀ i, i < (crsL (fromT T x) C).length → 0 ≤ intD (crsL (fromT T x) C) i ∧ intD (crsL (fromT T x) C) i ≤ 1000000 := fun i hi => by
            rw [crsL_len] at hi
            rw [crsL_at (by omega)]
            exact crs_rng (from_ok HK.out hx3) hC (by omega)
          obtain ⟨kx, hkx⟩ : ∃ b, b = keepsB (fromT T x) (crsL (fromT T x) C) z := ⟨_, rfl⟩
          obtain ⟨ky, hky⟩ : ∃ b, b = keepsB (fromT T x) (crsL (fromT T x) C) y := ⟨_, rfl⟩
          have hor := HBY.out
          rw [← hkx, ← hky] at hor
          have HKX : Hid (∀ W, Ext2 w8 W → Calls Try.prog 27 #[.agg #[.slice s.h.a T.rule.heat.length s.h.cap, .slice s.w.a T.rule.wet.length s.w.cap, .int .i64 T.rule.own, .int .i64 T.rule.feed, .int .i64 T.rule.g0, .int .i64 T.rule.g1, .int .i64 T.rule.g2, .int .i64 T.rule.lost, .int .i64 z.day, .slice (dropA s.d.a s.d.cap m 4) (T.days.length - m) (s.d.cap - m), .int .i64 0, .int .i64 1000000, .slice none 0 0], .slice za (T.days.length - m + 1) zc, .agg #[.int .i64 z.day, .int .i64 z.grade, .int .i64 z.err]] W fun e w' => e = .returned (.bool kx) ∧ Below W.heap.size W w') := Lib.hid fun W hW => by
            have h := keeps_any (hat W (ext_trans hb8 hW)) HK.out.rule (hzi.below hW) HTX.out.1 (by show _ ≤ z.day - dayD' T x ∧ z.day - dayD' T x ≤ _; rw [hzd]; omega) hcr
            rw [← hkx, crsL_len, hld] at h
            rw [hzd]; rw [hzd] at h; exact h
          have HKY : Hid (∀ W, Ext2 w8 W → Calls Try.prog 27 #[.agg #[.slice s.h.a T.rule.heat.length s.h.cap, .slice s.w.a T.rule.wet.length s.w.cap, .int .i64 T.rule.own, .int .i64 T.rule.feed, .int .i64 T.rule.g0, .int .i64 T.rule.g1, .int .i64 T.rule.g2, .int .i64 T.rule.lost, .int .i64 z.day, .slice (dropA s.d.a s.d.cap m 4) (T.days.length - m) (s.d.cap - m), .int .i64 0, .int .i64 1000000, .slice none 0 0], .slice za (T.days.length - m + 1) zc, .agg #[.int .i64 y.day, .int .i64 y.grade, .int .i64 y.err]] W fun e w' => e = .returned (.bool ky) ∧ Below W.heap.size W w') := Lib.hid fun W hW => by
            have h := keeps_any (hat W (ext_trans hb8 hW)) HK.out.rule (hzi.below hW) HTN.out.1 (by show _ ≤ y.day - dayD' T x ∧ y.day - dayD' T x ≤ _; rw [← hzd]; exact HD.out) hcr
            rw [← hky, crsL_len, hld] at h
            rw [hzd]; exact h
          obtain ⟨tb2, toff2, hta, htr⟩ := (HT.out.tests.below hB8).row (by omega) (by omega)
          obtain ⟨t0, t1, t2⟩ := htr.three (i := n) n2
          obtain ⟨u0, u1, u2⟩ := htr.three (i := x) hx3
          simp only [testC] at t0 t1 t2 u0 u1 u2
          rw [← HY.out] at t0 t1 t2
          rw [← HZ.out] at u0 u1 u2
          rw [hta] at z0
          have g5 : decide ((x : Int) < 0) = false := decide_eq_false (by omega)
          clear hkx hky hz hz' hzi hcr hat hld hzd hta htr hb8 z1
          have q0c := cell_blk z0
          have q0f := frz_blk z0
          have q14c := cell_blk z14
          have q14f := frz_blk z14
          cases kx
          case false =>
            go_wp2_with (fail)
            refine region_ev [] [0, 1, 2, 3, 4, 5, 6, 7, 8, 9, 10, 11, 12, 13, 14, 15, 16, 17, 18, 19, 20, 21] [] [] (by kernel_rfl) (by kernel_rfl) (by intro c a d v w h; cases d <;> exact h) ?_
            simp only [picks, List.drop_succ_cons, List.drop_zero]
            repeat (refine wpQ0_step (fun K hK => ?_); go_simp; (refine hK _ ?_; clear hK K))
            refine wpQ0_nil ?_
            repeat ((with_reducible refine wpQ2_step (fun K hK => ?_)); go_simp; first | ((with_reducible refine hK _ ?_); clear hK K) | (apply Exists.intro; refine ⟨fun x => ?_, hK _ ?_⟩; ((with_reducible exact HKX.out x.1 x.2)); clear hK K))
            refine wpQ2_nil ?_
            refine Events.none_ fun w9 hg9 => ?_
            simp only [picks, List.drop_succ_cons, List.drop_zero]
            have hE9 := ext_trans hE8 hg9
            clear q0c q0f z0 t0 t1 t2 u0 u1 u2 q14c q14f z14
            go_wp2_with (fail)
            go_roundw
            case rel => exact ⟨k + 1, by go_num, by omega, hE9⟩
            case measure => simp [intOf]; omega
          case true =>
            have hky0 : ky = false := by rcases hor with h | h <;> simp_all
            subst hky0
            go_wp2_with (fail)
            refine region_ev [] [0, 1, 2, 3, 4, 5, 6, 7, 8, 9, 10, 11, 12, 13, 14, 15, 16, 17, 18, 19, 20, 21] [] [] (by kernel_rfl) (by kernel_rfl) (by intro c a d v w h; cases d <;> exact h) ?_
            simp only [picks, List.drop_succ_cons, List.drop_zero]
            repeat (refine wpQ0_step (fun K hK => ?_); go_simp; (refine hK _ ?_; clear hK K))
            refine wpQ0_nil ?_
            repeat ((with_reducible refine wpQ2_step (fun K hK => ?_)); go_simp; first | ((with_reducible refine hK _ ?_); clear hK K) | (apply Exists.intro; refine ⟨fun x => ?_, hK _ ?_⟩; (first | (with_reducible exact HKX.out x.1 x.2) | (with_reducible exact HKY.out x.1 x.2)); clear hK K))
            refine wpQ2_nil ?_
            refine Events.none_ fun w9 hg9 => ?_
            simp only [picks, List.drop_succ_cons, List.drop_zero]
            have hE9 := ext_trans hE8 hg9
            clear q0c q0f z0 t0 t1 t2 u0 u1 u2 q14c q14f z14
            go_wp2_with (fail)
            go_roundw
            case rel => exact ⟨k + 1, by go_num, by omega, hE9⟩
            case measure => simp [intOf]; omega
    · have p1 : ¬ (k : Int) < ((struckT T).length : Int) := by omega
      go_wp2_with (fail)
      (with_reducible refine (HA.out _).mono ?_)
      rintro e w6 ⟨rfl, hb6⟩
      have hB6 := below_ext hB hb6
      go_wp2_with (fail)
      go_ret
      exact ⟨rfl, hB6⟩
end Go.Proofs.Ytfjbgcaogffiaaa
