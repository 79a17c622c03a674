/-
  The law DecayMoved, walked.
-/
import Derived.Test.YtfjbgcaogffiaaaDLow
import Derived.Test.YtfjbgcaogffiaaaDMovP
namespace Go.Proofs.Ytfjbgcaogffiaaa
open Go.RowKit D
set_option linter.unusedVariables false
set_option linter.unusedSimpArgs false
attribute [local go_sem high] run_minI run_maxI
attribute [local go_sem] upon2 cls_cell cls_frozen forall_const exists_eq_left'
attribute [local go_sem] FirstUpon
set_option maxRecDepth 100000 in
set_option maxHeartbeats 2000000 in
theorem lawMoved_no {T : Task} {s : TSl} {f : Int} {m : Nat → Int} {w : World} (hT : TaskAt w T s) (hf : IntKind.i64.wrap f = f) (h0 : (D.checkTask (bareT T)).2.2 ≠ 0) : Calls Try.prog 15 #[.agg #[.slice s.h.a T.rule.heat.length s.h.cap, .slice s.w.a T.rule.wet.length s.w.cap, .int .i64 T.rule.own, .int .i64 T.rule.feed, .int .i64 T.rule.g0, .int .i64 T.rule.g1, .int .i64 T.rule.g2, .int .i64 T.rule.lost, .int .i64 T.first, .slice s.d.a T.days.length s.d.cap, .int .i64 T.start.lo, .int .i64 T.start.hi, .slice s.t.a T.tests.length s.t.cap], .int .i64 f, .agg #[.int .u8 (m 0), .int .u8 (m 1)]] w fun e w' => e = .returned (.bool true) ∧ Below w.heap.size w w' := by
  obtain ⟨p1, p2, p3, hp⟩ : ∃ a b c, D.checkTask (bareT T) = (a, b, c) := ⟨_, _, _, rfl⟩
  have hp3 : (D.checkTask (bareT T)).2.2 = p3 := by rw [hp]
  have HC : Hid (∀ W, Below w.heap.size w W → Calls Try.prog 22 #[.agg #[.slice s.h.a T.rule.heat.length s.h.cap, .slice s.w.a T.rule.wet.length s.w.cap, .int .i64 T.rule.own, .int .i64 T.rule.feed, .int .i64 T.rule.g0, .int .i64 T.rule.g1, .int .i64 T.rule.g2, .int .i64 T.rule.lost, .int .i64 T.first, (.slice s.d.a T.days.length s.d.cap), .int .i64 T.start.lo, .int .i64 T.start.hi, (.slice none 0 0)]] W fun e w' => e = .returned (.tuple #[.int .i64 p1, .int .i64 p2, .int .i64 p3]) ∧ Below W.heap.size W w') := Lib.hid fun W hW => by
    have h := checkTaskR_any (bare_at (hT.below hW)); rw [hp] at h; exact h
  have HA : Hid (∀ W, Calls Try.prog 21 #[] W fun e w' => e = .returned (.bool true) ∧ Below W.heap.size W w') := Lib.hid fun W => awake_any W
  rw [hp3] at h0
  have hne2 : (p3 != 0) = true := by simp [h0]
  clear hT hp hp3 hf
  go_enter Try.func15, Try.ntmps15
  go_wp2_with (fail)
  refine calls_name ?_
  intro w1 h1
  have hB1 : Below w.heap.size w w1 := by rw [h1]; repeat' (first | exact Below.refl _ _ | assumption | refine below_drewN ?_ _ | refine Below.drew ?_ | refine Below.alloc ?_ (by first | assumption | omega | (simp <;> omega)) _ | refine Below.setCell ?_ (by first | assumption | omega | (simp <;> omega)) _ | refine Ext2.on (by assumption) ?_)
  clear h1
  (with_reducible refine (HC.out _ hB1).mono ?_)
  rintro e w5 ⟨rfl, hb5⟩
  have hB5 := below_ext hB1 hb5
  go_wp2_with (fail)
  (with_reducible refine (HA.out _).mono ?_)
  rintro e w6 ⟨rfl, hb6⟩
  have hB6 := below_ext hB5 hb6
  go_wp2_with (fail)
  go_ret
  exact ⟨rfl, hB6⟩
set_option maxRecDepth 100000 in
set_option maxHeartbeats 2000000 in
theorem lawMoved_out {T : Task} {s : TSl} {f : Int} {m : Nat → Int} {w : World} (hT : TaskAt w T s) (h0 : (D.checkTask (bareT T)).2.2 = 0) (ho : ¬ (T.first ≤ f ∧ f < T.first + T.days.length)) : Calls Try.prog 15 #[.agg #[.slice s.h.a T.rule.heat.length s.h.cap, .slice s.w.a T.rule.wet.length s.w.cap, .int .i64 T.rule.own, .int .i64 T.rule.feed, .int .i64 T.rule.g0, .int .i64 T.rule.g1, .int .i64 T.rule.g2, .int .i64 T.rule.lost, .int .i64 T.first, .slice s.d.a T.days.length s.d.cap, .int .i64 T.start.lo, .int .i64 T.start.hi, .slice s.t.a T.tests.length s.t.cap], .int .i64 f, .agg #[.int .u8 (m 0), .int .u8 (m 1)]] w fun e w' => e = .returned (.bool true) ∧ Below w.heap.size w w' := by
  have hk := (task_ok h0).1
  have hnd : T.days.length ≤ 400 := hk.nd
  have hfst : 0 ≤ T.first ∧ T.first + (T.days.length : Int) ≤ 80000 := hk.first
  have HC : Hid (∀ W, Below w.heap.size w W → Calls Try.prog 22 #[.agg #[.slice s.h.a T.rule.heat.length s.h.cap, .slice s.w.a T.rule.wet.length s.w.cap, .int .i64 T.rule.own, .int .i64 T.rule.feed, .int .i64 T.rule.g0, .int .i64 T.rule.g1, .int .i64 T.rule.g2, .int .i64 T.rule.lost, .int .i64 T.first, (.slice s.d.a T.days.length s.d.cap), .int .i64 T.start.lo, .int .i64 T.start.hi, (.slice none 0 0)]] W fun e w' => e = .returned (.tuple #[.int .i64 0, .int .i64 0, .int .i64 0]) ∧ Below W.heap.size W w') := Lib.hid fun W hW => by
    have h := check_yes (bare_at (hT.below hW)) h0; exact h
  have HA : Hid (∀ W, Calls Try.prog 21 #[] W fun e w' => e = .returned (.bool true) ∧ Below W.heap.size W w') := Lib.hid fun W => awake_any W
  have wf1 : IntKind.i64.wrap (T.first + (T.days.length : Int)) = T.first + (T.days.length : Int) := IntWalk.i64_in _ (by omega)
  have hor : decide (f < T.first) = true ∨ decide (f < T.first) = false ∧ decide (T.first + (T.days.length : Int) ≤ f) = true := by
    by_cases h : f < T.first
    · exact .inl (decide_eq_true h)
    · exact .inr ⟨decide_eq_false h, decide_eq_true (by omega)⟩
  clear hT hk ho h0
  go_enter Try.func15, Try.ntmps15
  go_wp2_with (fail)
  refine calls_name ?_
  intro w1 h1
  have x0 : w1.heap[w.heap.size]? = some (Obj.cells #[.slice s.h.a T.rule.heat.length s.h.cap, .slice s.w.a T.rule.wet.length s.w.cap, .int .i64 T.rule.own, .int .i64 T.rule.feed, .int .i64 T.rule.g0, .int .i64 T.rule.g1, .int .i64 T.rule.g2, .int .i64 T.rule.lost, .int .i64 T.first, (.slice s.d.a T.days.length s.d.cap), .int .i64 T.start.lo, .int .i64 T.start.hi, (.slice none 0 0)] 31) := by rw [h1]; repeat' (first | (with_reducible assumption) | (with_reducible refine blk_set_ne ?_ ?_) | (with_reducible exact blk_new _ _) | (with_reducible refine blk_new' _ _ (by first | (with_reducible rfl) | (simp; done) | (simp <;> omega))) | (with_reducible refine blk_alloc ?_ _) | (with_reducible refine blk_drew ?_) | (with_reducible refine blk_drewN ?_ _) | (with_reducible refine Ext2.blk (by assumption) ?_) | omega | (simp <;> omega) | exact blk_set (by assumption) _ _)
  have hB1 : Below w.heap.size w w1 := by rw [h1]; repeat' (first | exact Below.refl _ _ | assumption | refine below_drewN ?_ _ | refine Below.drew ?_ | refine Below.alloc ?_ (by first | assumption | omega | (simp <;> omega)) _ | refine Below.setCell ?_ (by first | assumption | omega | (simp <;> omega)) _ | refine Ext2.on (by assumption) ?_)
  clear h1
  (with_reducible refine (HC.out _ hB1).mono ?_)
  rintro e w5 ⟨rfl, hb5⟩
  have hB5 := below_ext hB1 hb5
  have x0 := Ext2.blk hb5 x0
  clear hb5
  have q0c := cell_blk x0
  have q0f := frz_blk x0
  rcases hor with c0 | ⟨c0, c1⟩
  all_goals
    go_wp2_with (fail)
    clear q0c q0f
    (with_reducible refine (HA.out _).mono ?_)
    rintro e w6 ⟨rfl, hb6⟩
    have hB6 := below_ext hB5 hb6
    go_wp2_with (fail)
    go_ret
    exact ⟨rfl, hB6⟩
set_option maxRecDepth 100000 in
set_option maxHeartbeats 2000000 in
theorem lawMoved_in {T : Task} {s : TSl} {f : Int} {m : Nat → Int} {w : World} (hT : TaskAt w T s) (hm : ∀ i, i < 2 → 0 ≤ m i ∧ m i ≤ 255) (h0 : (D.checkTask (bareT T)).2.2 = 0) (hf0 : T.first ≤ f) (hf1 : f < T.first + T.days.length) : Calls Try.prog 15 #[.agg #[.slice s.h.a T.rule.heat.length s.h.cap, .slice s.w.a T.rule.wet.length s.w.cap, .int .i64 T.rule.own, .int .i64 T.rule.feed, .int .i64 T.rule.g0, .int .i64 T.rule.g1, .int .i64 T.rule.g2, .int .i64 T.rule.lost, .int .i64 T.first, .slice s.d.a T.days.length s.d.cap, .int .i64 T.start.lo, .int .i64 T.start.hi, .slice s.t.a T.tests.length s.t.cap], .int .i64 f, .agg #[.int .u8 (m 0), .int .u8 (m 1)]] w fun e w' => e = .returned (.bool true) ∧ Below w.heap.size w w' := by
  have hk := (task_ok h0).1
  have HK := Lib.hid hk
  have HT := Lib.hid hT
  have HMM := Lib.hid hm
  have m0 := hm 0 (by omega); have m1 := hm 1 (by omega)
  have hnd : T.days.length ≤ 400 := hk.nd
  have hfst : 0 ≤ T.first ∧ T.first + (T.days.length : Int) ≤ 80000 := hk.first
  have HC : Hid (∀ W, Below w.heap.size w W → Calls Try.prog 22 #[.agg #[.slice s.h.a T.rule.heat.length s.h.cap, .slice s.w.a T.rule.wet.length s.w.cap, .int .i64 T.rule.own, .int .i64 T.rule.feed, .int .i64 T.rule.g0, .int .i64 T.rule.g1, .int .i64 T.rule.g2, .int .i64 T.rule.lost, .int .i64 T.first, (.slice s.d.a T.days.length s.d.cap), .int .i64 T.start.lo, .int .i64 T.start.hi, (.slice none 0 0)]] W fun e w' => e = .returned (.tuple #[.int .i64 0, .int .i64 0, .int .i64 0]) ∧ Below W.heap.size W w') := Lib.hid fun W hW => by
    have h := check_yes (bare_at (hT.below hW)) h0; exact h
  have HA : Hid (∀ W, Calls Try.prog 21 #[] W fun e w' => e = .returned (.bool true) ∧ Below W.heap.size W w') := Lib.hid fun W => awake_any W
  obtain ⟨L, hL⟩ : ∃ L, L = lostT (bareT T) := ⟨_, rfl⟩
  have HL : Hid (∀ W, Below w.heap.size w W → Calls Try.prog 31 #[.agg #[.slice s.h.a T.rule.heat.length s.h.cap, .slice s.w.a T.rule.wet.length s.w.cap, .int .i64 T.rule.own, .int .i64 T.rule.feed, .int .i64 T.rule.g0, .int .i64 T.rule.g1, .int .i64 T.rule.g2, .int .i64 T.rule.lost, .int .i64 T.first, (.slice s.d.a T.days.length s.d.cap), .int .i64 T.start.lo, .int .i64 T.start.hi, (.slice none 0 0)]] W fun e w' => e = .returned (.tuple #[.agg #[.int .i64 L.lo, .int .i64 L.hi], .int .i64 0]) ∧ Below W.heap.size W w') := Lib.hid fun W hW => by
    have h := lost_yes (bare_at (hT.below hW)) h0; rw [← hL] at h; exact h
  have HSP : Hid (∀ (p q : Int) W, Calls Try.prog 25 #[.int .i64 p, .int .i64 q] W fun e w' => e = .returned (.agg #[.int .i64 p, .int .i64 q]) ∧ Below W.heap.size W w') := Lib.hid fun p q W => span_any p q W
  obtain ⟨k, hkf⟩ : ∃ k : Nat, k = (f - T.first).toNat := ⟨_, rfl⟩
  have hfk : f = T.first + (k : Int) := by omega
  have hkl : k < T.days.length := by omega
  obtain ⟨c, hc⟩ : ∃ c, c = minFrom T.days k (T.days.length - k) := ⟨_, rfl⟩
  have hcok : DayOk c := by rw [hc]; exact minFrom_ok hkl (HK.out.days) _ (by show k + _ ≤ T.days.length; omega)
  obtain ⟨u, hu⟩ : ∃ u, u = lowDay c (m 0) (m 1) := ⟨_, rfl⟩
  have hmv := moved_lower (T := bareT T) hk rfl m0.1 m1.1 hf0 hf1 hkf (d := u) (by rw [hu, hc]; rfl)
  have hme := (moved_later (T := bareT T) hk rfl m0.1 m1.1 hf0 hf1 hkf (d := u) (by rw [hu, hc]; rfl)).resolve_right (fun h => h h0)
  obtain ⟨M, hM⟩ : ∃ M, M = movOut (bareT T) f u := ⟨_, rfl⟩
  have hMM : M = lostT (movT (bareT T) k f u) := by rw [hM, movOut, if_pos hme, hkf]; rfl
  rw [← hMM, ← hL] at hmv
  have HMV : Hid (∀ W, Below w.heap.size w W → Calls Try.prog 45 #[.agg #[.slice s.h.a T.rule.heat.length s.h.cap, .slice s.w.a T.rule.wet.length s.w.cap, .int .i64 T.rule.own, .int .i64 T.rule.feed, .int .i64 T.rule.g0, .int .i64 T.rule.g1, .int .i64 T.rule.g2, .int .i64 T.rule.lost, .int .i64 T.first, (.slice s.d.a T.days.length s.d.cap), .int .i64 T.start.lo, .int .i64 T.start.hi, (.slice none 0 0)], .int .i64 f, .agg #[.int .i64 u.tlo, .int .i64 u.thi, .int .i64 u.dlo, .int .i64 u.dhi]] W fun e w' => e = .returned (.tuple #[.agg #[.int .i64 M.lo, .int .i64 M.hi], .int .i64 0]) ∧ Below W.heap.size W w') := Lib.hid fun W hW => by
    have h := movedP_any (f := f) (d := u) (bare_at (hT.below hW)); rw [hme, ← hM] at h; exact h
  have HLW : Hid (∀ W, Calls Try.prog 32 #[.agg #[.int .i64 c.tlo, .int .i64 c.thi, .int .i64 c.dlo, .int .i64 c.dhi], .agg #[.int .u8 (m 0), .int .u8 (m 1)]] W fun e w' => e = .returned (.agg #[.int .i64 u.tlo, .int .i64 u.thi, .int .i64 u.dlo, .int .i64 u.dhi]) ∧ Below W.heap.size W w') := Lib.hid fun W => by
    rw [hu]; exact lower_any hcok HMM.out
  have HL1 : Hid (∀ W, Calls Try.prog 33 #[.int .i64 M.lo, .int .i64 L.lo] W fun e w' => e = .returned (.bool true) ∧ Below W.heap.size W w') := Lib.hid fun W => by
    have h := later_any M.lo L.lo W; rw [hmv.2.1] at h; exact h
  have HL2 : Hid (∀ W, Calls Try.prog 33 #[.int .i64 M.hi, .int .i64 L.hi] W fun e w' => e = .returned (.bool true) ∧ Below W.heap.size W w') := Lib.hid fun W => by
    have h := later_any M.hi L.hi W; rw [hmv.2.2] at h; exact h
  have c0 : decide (f < T.first) = false := decide_eq_false (by omega)
  have c1 : decide (T.first + (T.days.length : Int) ≤ f) = false := decide_eq_false (by omega)
  have wf1 : IntKind.i64.wrap (T.first + (T.days.length : Int)) = T.first + (T.days.length : Int) := IntWalk.i64_in _ (by omega)
  have wf2 : IntKind.i64.wrap (f - T.first) = (k : Int) := Eq.trans (IntWalk.i64_in _ (by omega)) (by omega)
  have p0 : (0 : Int) ≤ (k : Int) := by omega
  have p1 : (k : Int) < (T.days.length : Int) := by omega
  have HC0 := Lib.hid hc
  clear hT hm h0 hk hL hkf hfk hf0 hf1 hc hcok hu hmv hme hM hMM
  go_enter Try.func15, Try.ntmps15
  go_wp2_with (fail)
  refine calls_name ?_
  intro w1 h1
  have x0 : w1.heap[w.heap.size]? = some (Obj.cells #[.slice s.h.a T.rule.heat.length s.h.cap, .slice s.w.a T.rule.wet.length s.w.cap, .int .i64 T.rule.own, .int .i64 T.rule.feed, .int .i64 T.rule.g0, .int .i64 T.rule.g1, .int .i64 T.rule.g2, .int .i64 T.rule.lost, .int .i64 T.first, (.slice s.d.a T.days.length s.d.cap), .int .i64 T.start.lo, .int .i64 T.start.hi, (.slice none 0 0)] 31) := by rw [h1]; repeat' (first | (with_reducible assumption) | (with_reducible refine blk_set_ne ?_ ?_) | (with_reducible exact blk_new _ _) | (with_reducible refine blk_new' _ _ (by first | (with_reducible rfl) | (simp; done) | (simp <;> omega))) | (with_reducible refine blk_alloc ?_ _) | (with_reducible refine blk_drew ?_) | (with_reducible refine blk_drewN ?_ _) | (with_reducible refine Ext2.blk (by assumption) ?_) | omega | (simp <;> omega) | exact blk_set (by assumption) _ _)
  have x5 : w1.heap[w.heap.size + 1]? = some (Obj.cells #[.int .u8 (m 0), .int .u8 (m 1)] 66) := by rw [h1]; repeat' (first | (with_reducible assumption) | (with_reducible refine blk_set_ne ?_ ?_) | (with_reducible exact blk_new _ _) | (with_reducible refine blk_new' _ _ (by first | (with_reducible rfl) | (simp; done) | (simp <;> omega))) | (with_reducible refine blk_alloc ?_ _) | (with_reducible refine blk_drew ?_) | (with_reducible refine blk_drewN ?_ _) | (with_reducible refine Ext2.blk (by assumption) ?_) | omega | (simp <;> omega) | exact blk_set (by assumption) _ _)
  have hB1 : Below w.heap.size w w1 := by rw [h1]; repeat' (first | exact Below.refl _ _ | assumption | refine below_drewN ?_ _ | refine Below.drew ?_ | refine Below.alloc ?_ (by first | assumption | omega | (simp <;> omega)) _ | refine Below.setCell ?_ (by first | assumption | omega | (simp <;> omega)) _ | refine Ext2.on (by assumption) ?_)
  clear h1
  (with_reducible refine (HC.out _ hB1).mono ?_)
  rintro e w2 ⟨rfl, hb2⟩
  have hB2 := below_ext hB1 hb2
  have x0 := Ext2.blk hb2 x0
  have x5 := Ext2.blk hb2 x5
  clear hb2 HC
  obtain ⟨db, doff, hda, hdr⟩ := (HT.out.days.below hB2).row (by omega) (by omega)
  rw [hda] at x0 HL HMV
  obtain ⟨d0, d1, d2, d3⟩ := hdr.four (i := k) hkl
  simp only [dayC] at d0 d1 d2 d3
  have hz2 := blk_lt x0
  have q0c := cell_blk x0
  have q0f := frz_blk x0
  go_wp2_with (fail)
  refine wp_name ?_
  intro w3 h3
  have x10 : w3.heap[w2.heap.size]? = some (Obj.cells #[.int .i64 (dayD T.days k).tlo, .int .i64 (dayD T.days k).thi, .int .i64 (dayD T.days k).dlo, .int .i64 (dayD T.days k).dhi] 48) := by rw [h3]; repeat' (first | (with_reducible assumption) | (with_reducible refine blk_set_ne ?_ ?_) | (with_reducible exact blk_new _ _) | (with_reducible refine blk_new' _ _ (by first | (with_reducible rfl) | (simp; done) | (simp <;> omega))) | (with_reducible refine blk_alloc ?_ _) | (with_reducible refine blk_drew ?_) | (with_reducible refine blk_drewN ?_ _) | (with_reducible refine Ext2.blk (by assumption) ?_) | omega | (simp <;> omega) | exact blk_set (by assumption) _ _)
  have x10 : w3.heap[w2.heap.size]? = some (Obj.cells #[.int .i64 (minFrom T.days k 0).tlo, .int .i64 (minFrom T.days k 0).thi, .int .i64 (minFrom T.days k 0).dlo, .int .i64 (minFrom T.days k 0).dhi] 48) := x10
  have hE3 : Ext2 w2 w3 := by rw [h3]; repeat' (first | exact Below.refl _ _ | assumption | refine below_drewN ?_ _ | refine Below.drew ?_ | refine Below.alloc ?_ (by first | assumption | omega | (simp <;> omega)) _ | refine Below.setCell ?_ (by first | assumption | omega | (simp <;> omega)) _ | refine Ext2.on (by assumption) ?_)
  have HX0 := Lib.hid (Ext2.blk hE3 x0); have HX5 := Lib.hid (Ext2.blk hE3 x5); have HX10 := Lib.hid x10
  have hz3 := blk_lt x10
  obtain ⟨b10, hb10⟩ : ∃ b, b = w2.heap.size := ⟨_, rfl⟩
  have k5 := blk_lt x5
  rw [← hb10] at HX10 hz3 k5 hz2 ⊢
  have hB3 := below_ext hB2 hE3
  have hle10 : w.heap.size ≤ b10 := by rw [hb10]; exact hB2.size
  have HDY : Hid (∀ W, Below b10 w3 W → DaysS W s.d T.days) := Lib.hid fun W hW => HT.out.days.below (hB3.trans (hW.mono hle10))
  have HDA := Lib.hid hda
  clear h3 x0 x5 x10 q0c q0f hb10 hE3 hdr d0 d1 d2 d3 hda hB1 hB2
  go_loopw [11] (fun i wr => ∃ n : Nat, i = .int .i64 ((k + n : Nat) : Int) ∧ k + n ≤ T.days.length ∧ Below b10 w3 wr ∧ wr.heap[b10]? = some (Obj.cells #[.int .i64 (minFrom T.days k n).tlo, .int .i64 (minFrom T.days k n).thi, .int .i64 (minFrom T.days k n).dlo, .int .i64 (minFrom T.days k n).dhi] 48)) (fun i _ => T.days.length - (intOf i).toNat)
  case atStart => exact ⟨0, rfl, by omega, Below.refl _ _, HX10.out⟩
  case round =>
    obtain ⟨n, rfl, hn, hE, x10⟩ := hrel
    have hB : Below w.heap.size w wr := hB3.trans (hE.mono hle10)
    have x0 := (hE.block w.heap.size (by omega)).trans HX0.out
    have x5 := (hE.block (w.heap.size + 1) (by omega)).trans HX5.out
    have hz9 := blk_lt x10
    obtain ⟨q, hq⟩ : ∃ q, q = k + n := ⟨_, rfl⟩
    rw [← hq] at hn ⊢
    by_cases hlt : q < T.days.length
    · go_light
      obtain ⟨_, _, h1, hdr⟩ := (HDY.out wr hE).row (by omega) (by omega)
      rw [HDA.out] at h1
      obtain ⟨rfl, rfl⟩ : db = _ ∧ doff = _ := by simpa using h1
      obtain ⟨d0, d1, d2, d3⟩ := hdr.four (i := q) hlt
      simp only [dayC] at d0 d1 d2 d3
      obtain ⟨x, hx⟩ : ∃ x, x = dayD T.days q := ⟨_, rfl⟩
      obtain ⟨y, hy⟩ : ∃ y, y = minFrom T.days k n := ⟨_, rfl⟩
      rw [← hx] at d0 d1 d2 d3
      rw [← hy] at x10
      obtain ⟨z, hz⟩ : ∃ z, z = minFrom T.days k (n + 1) := ⟨_, rfl⟩
      have e0 : min y.tlo x.tlo = z.tlo := by rw [hz, hy, hx, hq]; rfl
      have e1 : min y.thi x.thi = z.thi := by rw [hz, hy, hx, hq]; rfl
      have e2 : min y.dlo x.dlo = z.dlo := by rw [hz, hy, hx, hq]; rfl
      have e3 : min y.dhi x.dhi = z.dhi := by rw [hz, hy, hx, hq]; rfl
      have p2 : (0 : Int) ≤ (q : Int) := by omega
      have p3 : (q : Int) < (T.days.length : Int) := by omega
      have w2' : IntKind.i64.wrap ((q : Int) + 1) = (q : Int) + 1 := IntWalk.i64_in _ (by omega)
      have HZ := Lib.hid hz; have HQ := Lib.hid hq; have HE := Lib.hid hE
      clear h1 hdr hx hy hz hq hE hB
      have q0c := cell_blk x0
      have q0f := frz_blk x0
      have q10c := cell_blk x10
      have q10f := frz_blk x10
      go_wp2_with (fail)
      refine wp_name ?_
      intro w4 h4
      have hE4 : Ext2 wr w4 := by rw [h4]; repeat' (first | exact Below.refl _ _ | assumption | refine below_drewN ?_ _ | refine Below.drew ?_ | refine Below.alloc ?_ (by first | assumption | omega | (simp <;> omega)) _ | refine Below.setCell ?_ (by first | assumption | omega | (simp <;> omega)) _ | refine Ext2.on (by assumption) ?_)
      have x12 : w4.heap[wr.heap.size]? = some (Obj.cells #[.int .i64 x.tlo, .int .i64 x.thi, .int .i64 x.dlo, .int .i64 x.dhi] 48) := by rw [h4]; repeat' (first | (with_reducible assumption) | (with_reducible refine blk_set_ne ?_ ?_) | (with_reducible exact blk_new _ _) | (with_reducible refine blk_new' _ _ (by first | (with_reducible rfl) | (simp; done) | (simp <;> omega))) | (with_reducible refine blk_alloc ?_ _) | (with_reducible refine blk_drew ?_) | (with_reducible refine blk_drewN ?_ _) | (with_reducible refine Ext2.blk (by assumption) ?_) | omega | (simp <;> omega) | exact blk_set (by assumption) _ _)
      have x10 := Ext2.blk hE4 x10
      clear h4 q0c q0f q10c q10f d0 d1 d2 d3 x0
      have q10c := cell_blk x10
      have q10f := frz_blk x10
      have q12c := cell_blk x12
      have q12f := frz_blk x12
      refine region_ev [] [0, 1, 2, 3, 4, 5, 6, 7, 8, 9, 10, 11, 12, 13, 14, 15, 16, 17, 18, 19, 20, 21, 22, 23, 24, 25, 26, 27, 28, 29, 30] [] [31, 32, 33] (by kernel_rfl) (by kernel_rfl) (by intro c a d v w h; cases d <;> exact h) ?_
      simp only [picks, List.drop_succ_cons, List.drop_zero]
      repeat (refine wpQ0_step (fun K hK => ?_); go_simp; (refine hK _ ?_; clear hK K))
      refine wpQ0_nil ?_
      repeat ((with_reducible refine wpQ2_step (fun K hK => ?_)); go_simp; first | ((with_reducible refine hK _ ?_); clear hK K) | (apply Exists.intro; refine ⟨fun x => ?_, hK _ ?_⟩; ((with_reducible exact HSP.out _ _ x.1)); clear hK K))
      refine wpQ2_nil ?_
      refine Events.none_ fun w5 hg5 => ?_
      simp only [picks, List.drop_succ_cons, List.drop_zero]
      have x10 := Ext2.blk hg5 x10
      have hE5 := ext_trans hE4 hg5
      clear q10c q10f q12c q12f x12 hg5 hE4
      have q10c := cell_blk x10
      have q10f := frz_blk x10
      go_wp2_with (fail)
      go_roundw
      case rel =>
        refine ⟨n + 1, ?_, by have := HQ.out; omega, ?_, ?_⟩
        · rw [HQ.out]; go_num
        · exact below_set (below_set (below_set (below_set (HE.out.trans (Below.mono hE5 (by omega))) (Nat.le_refl _)) (Nat.le_refl _)) (Nat.le_refl _)) (Nat.le_refl _)
        · rw [← HZ.out]; exact Eq.trans (blk_set (blk_set (blk_set (blk_set x10 _ _) _ _) _ _) _ _) rfl
      case measure => simp [intOf]; omega
    · obtain rfl : q = T.days.length := by omega
      have hn2 : n = T.days.length - k := by omega
      rw [hn2, ← HC0.out] at x10
      have HE := Lib.hid hE; have HB := Lib.hid hB
      have p1 : ¬ (T.days.length : Int) < (T.days.length : Int) := by omega
      clear hn2 hq hn hE hB
      have q0c := cell_blk x0
      have q0f := frz_blk x0
      go_wp2_with (fail)
      (with_reducible refine (HL.out _ HB.out).mono ?_)
      rintro e w4 ⟨rfl, hb4⟩
      have hB4 := below_ext HB.out hb4
      have x0 := Ext2.blk hb4 x0; have x5 := Ext2.blk hb4 x5; have x10 := Ext2.blk hb4 x10
      clear q0c q0f hb4 HL
      go_wp2_with (fail)
      refine wp_name ?_
      intro w5 h5
      have hE5 : Ext2 w4 w5 := by rw [h5]; exact below_alloc' _ _
      have x13 : w5.heap[w4.heap.size]? = some (Obj.cells #[.int .i64 L.lo, .int .i64 L.hi] 28) := by rw [h5]; repeat' (first | (with_reducible assumption) | (with_reducible refine blk_set_ne ?_ ?_) | (with_reducible exact blk_new _ _) | (with_reducible refine blk_new' _ _ (by first | (with_reducible rfl) | (simp; done) | (simp <;> omega))) | (with_reducible refine blk_alloc ?_ _) | (with_reducible refine blk_drew ?_) | (with_reducible refine blk_drewN ?_ _) | (with_reducible refine Ext2.blk (by assumption) ?_) | omega | (simp <;> omega) | exact blk_set (by assumption) _ _)
      have x0 := Ext2.blk hE5 x0; have x5 := Ext2.blk hE5 x5; have x10 := Ext2.blk hE5 x10
      have hB5 := below_ext hB4 hE5
      have HMV5 := hid_ext HMV hB5
      clear h5 hE5 HMV hB4
      have q0c := cell_blk x0
      have q0f := frz_blk x0
      have q5c := cell_blk x5
      have q5f := frz_blk x5
      have q10c := cell_blk x10
      have q10f := frz_blk x10
      go_wp2_with (fail)
      refine region_ev [] [0, 1, 2, 3, 4, 5, 6, 7, 8] [(9, 15, some 10)] [11] (by kernel_rfl) (by kernel_rfl) (by intro c a d v w h; cases d <;> exact h) ?_
      simp only [picks, List.drop_succ_cons, List.drop_zero]
      repeat (refine wpQ0_step (fun K hK => ?_); go_simp; (refine hK _ ?_; clear hK K))
      refine wpQ0_nil ?_
      repeat ((with_reducible refine wpQ2_step (fun K hK => ?_)); go_simp; first | ((with_reducible refine hK _ ?_); clear hK K) | (apply Exists.intro; refine ⟨fun x => ?_, hK _ ?_⟩; (first | (with_reducible exact HLW.out x.1) | (with_reducible exact HMV5.out x.1 x.2)); clear hK K))
      refine wpQ2_nil ?_
      refine Events.fill1 (fun b => .pointer (some ⟨b, 0, none⟩)) (Obj.cells #[.int .i64 0, .int .i64 0] 28) (Obj.cells #[.int .i64 M.lo, .int .i64 M.hi] 28) ⟨_, rfl, rfl, rfl, fun W => by kernel_rfl⟩ ⟨_, rfl, rfl, rfl, fun b W hb => ?_⟩ fun b15 w6 hb15 hg6 nb15 => ?_
      · have hbc := cell_blk hb; have hbf := frz_blk hb; go_simp; exact turn_two hb _ _
      simp only [picks, List.drop_succ_cons, List.drop_zero]
      have hB6 := below_ext hB5 hg6
      have x13 := Ext2.blk hg6 x13
      clear q0c q0f q5c q5f q10c q10f x0 x5 x10 hg6
      have q13c := cell_blk x13
      have q13f := frz_blk x13
      have q15c := cell_blk nb15
      have q15f := frz_blk nb15
      go_wp2_with (fail)
      (with_reducible refine (HL1.out _).mono ?_)
      rintro e w15 ⟨rfl, hb15'⟩
      have hB15 := below_ext hB6 hb15'
      have x13 := Ext2.blk hb15' x13
      have x15 := Ext2.blk hb15' nb15
      clear q13c q13f q15c q15f hb15' nb15
      have q13c := cell_blk x13
      have q13f := frz_blk x13
      have q15c := cell_blk x15
      have q15f := frz_blk x15
      go_wp2_with (fail)
      (with_reducible refine (HL2.out _).mono ?_)
      rintro e w16 ⟨rfl, hb16⟩
      have hB16 := below_ext hB15 hb16
      clear q13c q13f q15c q15f
      go_wp2_with (fail)
      (with_reducible refine (HA.out _).mono ?_)
      rintro e w17 ⟨rfl, hb17⟩
      have hB17 := below_ext hB16 hb17
      go_wp2_with (fail)
      go_ret
      exact ⟨rfl, hB17⟩
theorem lawMoved_any {T : Task} {s : TSl} {f : Int} {m : Nat → Int} {w : World} (hT : TaskAt w T s) (hf : IntKind.i64.wrap f = f) (hm : ∀ i, i < 2 → 0 ≤ m i ∧ m i ≤ 255) : Calls Try.prog 15 #[.agg #[.slice s.h.a T.rule.heat.length s.h.cap, .slice s.w.a T.rule.wet.length s.w.cap, .int .i64 T.rule.own, .int .i64 T.rule.feed, .int .i64 T.rule.g0, .int .i64 T.rule.g1, .int .i64 T.rule.g2, .int .i64 T.rule.lost, .int .i64 T.first, .slice s.d.a T.days.length s.d.cap, .int .i64 T.start.lo, .int .i64 T.start.hi, .slice s.t.a T.tests.length s.t.cap], .int .i64 f, .agg #[.int .u8 (m 0), .int .u8 (m 1)]] w fun e w' => e = .returned (.bool true) ∧ Below w.heap.size w w' := by
  by_cases h0 : (D.checkTask (bareT T)).2.2 = 0
  · by_cases h : T.first ≤ f ∧ f < T.first + T.days.length
    · exact lawMoved_in hT hm h0 h.1 h.2
    · exact lawMoved_out hT h0 h
  · exact lawMoved_no hT hf h0
end Go.Proofs.Ytfjbgcaogffiaaa
