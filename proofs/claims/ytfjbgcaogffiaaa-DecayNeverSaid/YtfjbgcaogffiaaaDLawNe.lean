/-
  The law DecayNever, walked.
-/
import Derived.Test.YtfjbgcaogffiaaaDWlk2
namespace Go.Proofs.Ytfjbgcaogffiaaa
open Go.RowKit D
set_option linter.unusedVariables false
set_option linter.unusedSimpArgs false
attribute [local go_sem high] run_minI run_maxI
attribute [local go_sem] upon2 cls_cell cls_frozen forall_const exists_eq_left'
attribute [local go_sem] FirstUpon
set_option maxRecDepth 100000 in
set_option maxHeartbeats 2000000 in
theorem never_no {T : Task} {s : TSl} {C : Cse} {sc : Sl} {w : World} (hT : TaskAt w T s) (hC : CseOk C) (hs : U8S w sc C.steps) (h0 : (D.checkTask T).2.2 ≠ 0) : Calls Try.prog 5 #[.agg #[.slice s.h.a T.rule.heat.length s.h.cap, .slice s.w.a T.rule.wet.length s.w.cap, .int .i64 T.rule.own, .int .i64 T.rule.feed, .int .i64 T.rule.g0, .int .i64 T.rule.g1, .int .i64 T.rule.g2, .int .i64 T.rule.lost, .int .i64 T.first, .slice s.d.a T.days.length s.d.cap, .int .i64 T.start.lo, .int .i64 T.start.hi, .slice s.t.a T.tests.length s.t.cap], .agg #[.int .u8 C.start, .slice sc.a C.steps.length sc.cap]] w fun e w' => e = .returned (.bool true) ∧ Below w.heap.size w w' := by
  have HP : Hid (∀ W, Below w.heap.size w W → Calls Try.prog 28 #[.agg #[.slice s.h.a T.rule.heat.length s.h.cap, .slice s.w.a T.rule.wet.length s.w.cap, .int .i64 T.rule.own, .int .i64 T.rule.feed, .int .i64 T.rule.g0, .int .i64 T.rule.g1, .int .i64 T.rule.g2, .int .i64 T.rule.lost, .int .i64 T.first, .slice s.d.a T.days.length s.d.cap, .int .i64 T.start.lo, .int .i64 T.start.hi, .slice s.t.a T.tests.length s.t.cap], .agg #[.int .u8 C.start, .slice sc.a C.steps.length sc.cap]] W _) := Lib.hid fun W hW => walked_no (hT.below hW) hC (hs.below hW) h0
  have HA : Hid (∀ W, Calls Try.prog 21 #[] W fun e w' => e = .returned (.bool true) ∧ Below W.heap.size W w') := Lib.hid fun W => awake_any W
  clear hT hC hs h0
  go_enter Try.func5, Try.ntmps5
  go_wp2_with (fail)
  (with_reducible refine (HP.out _ ?_).mono ?_)
  · repeat' (first | exact Below.refl _ _ | assumption | refine below_drewN ?_ _ | refine Below.drew ?_ | refine Below.alloc ?_ (by first | assumption | omega | (simp <;> omega)) _ | refine Below.setCell ?_ (by first | assumption | omega | (simp <;> omega)) _ | refine Ext2.on (by assumption) ?_)
  rintro e w1 ⟨⟨z, rfl⟩, hb1⟩
  have hB1 : Below w.heap.size w w1 := Below.trans (by repeat' (first | exact Below.refl _ _ | assumption | refine below_drewN ?_ _ | refine Below.drew ?_ | refine Below.alloc ?_ (by first | assumption | omega | (simp <;> omega)) _ | refine Below.setCell ?_ (by first | assumption | omega | (simp <;> omega)) _ | refine Ext2.on (by assumption) ?_)) (hb1.mono (by simp; omega))
  clear hb1
  go_wp2_with (fail)
  (with_reducible refine (HA.out _).mono ?_)
  rintro e w3 ⟨rfl, hb3⟩
  have hB3 := below_ext hB1 hb3
  go_wp2_with (fail)
  go_ret
  exact ⟨rfl, hB3⟩
set_option maxRecDepth 100000 in
set_option maxHeartbeats 2000000 in
theorem never_yes {T : Task} {s : TSl} {C : Cse} {sc : Sl} {w : World} (hT : TaskAt w T s) (hC : CseOk C) (hs : U8S w sc C.steps) (h0 : (D.checkTask T).2.2 = 0) : Calls Try.prog 5 #[.agg #[.slice s.h.a T.rule.heat.length s.h.cap, .slice s.w.a T.rule.wet.length s.w.cap, .int .i64 T.rule.own, .int .i64 T.rule.feed, .int .i64 T.rule.g0, .int .i64 T.rule.g1, .int .i64 T.rule.g2, .int .i64 T.rule.lost, .int .i64 T.first, .slice s.d.a T.days.length s.d.cap, .int .i64 T.start.lo, .int .i64 T.start.hi, .slice s.t.a T.tests.length s.t.cap], .agg #[.int .u8 C.start, .slice sc.a C.steps.length sc.cap]] w fun e w' => e = .returned (.bool true) ∧ Below w.heap.size w w' := by
  have HP : Hid (∀ W, Below w.heap.size w W → Calls Try.prog 28 #[.agg #[.slice s.h.a T.rule.heat.length s.h.cap, .slice s.w.a T.rule.wet.length s.w.cap, .int .i64 T.rule.own, .int .i64 T.rule.feed, .int .i64 T.rule.g0, .int .i64 T.rule.g1, .int .i64 T.rule.g2, .int .i64 T.rule.lost, .int .i64 T.first, .slice s.d.a T.days.length s.d.cap, .int .i64 T.start.lo, .int .i64 T.start.hi, .slice s.t.a T.tests.length s.t.cap], .agg #[.int .u8 C.start, .slice sc.a C.steps.length sc.cap]] W _) := Lib.hid fun W hW => walked_yes (hT.below hW) hC (hs.below hW) h0
  have HA : Hid (∀ W, Calls Try.prog 21 #[] W fun e w' => e = .returned (.bool true) ∧ Below W.heap.size W w') := Lib.hid fun W => awake_any W
  have hk := (task_ok h0).1
  have HK := Lib.hid hk
  have HT := Lib.hid hT
  have hnd := hk.nd
  have hnt := hk.nt
  clear hT hs h0 hk
  go_enter Try.func5, Try.ntmps5
  go_wp2_with (fail)
  (with_reducible refine (HP.out _ ?_).mono ?_)
  · repeat' (first | exact Below.refl _ _ | assumption | refine below_drewN ?_ _ | refine Below.drew ?_ | refine Below.alloc ?_ (by first | assumption | omega | (simp <;> omega)) _ | refine Below.setCell ?_ (by first | assumption | omega | (simp <;> omega)) _ | refine Ext2.on (by assumption) ?_)
  rintro e w1 ⟨⟨⟨za, zc⟩, rfl, hz⟩, hb1⟩
  have hB1 : Below w.heap.size w w1 := Below.trans (by repeat' (first | exact Below.refl _ _ | assumption | refine below_drewN ?_ _ | refine Below.drew ?_ | refine Below.alloc ?_ (by first | assumption | omega | (simp <;> omega)) _ | refine Below.setCell ?_ (by first | assumption | omega | (simp <;> omega)) _ | refine Ext2.on (by assumption) ?_)) (hb1.mono (by simp; omega))
  have x0 : w1.heap[w.heap.size]? = some (Obj.cells #[.slice s.h.a T.rule.heat.length s.h.cap, .slice s.w.a T.rule.wet.length s.w.cap, .int .i64 T.rule.own, .int .i64 T.rule.feed, .int .i64 T.rule.g0, .int .i64 T.rule.g1, .int .i64 T.rule.g2, .int .i64 T.rule.lost, .int .i64 T.first, .slice s.d.a T.days.length s.d.cap, .int .i64 T.start.lo, .int .i64 T.start.hi, .slice s.t.a T.tests.length s.t.cap] 31) := below_blk hb1 (by repeat' (first | (with_reducible assumption) | (with_reducible refine blk_set_ne ?_ ?_) | (with_reducible exact blk_new _ _) | (with_reducible refine blk_new' _ _ (by first | (with_reducible rfl) | (simp; done) | (simp <;> omega))) | (with_reducible refine blk_alloc ?_ _) | (with_reducible refine blk_drew ?_) | (with_reducible refine blk_drewN ?_ _) | (with_reducible refine Ext2.blk (by assumption) ?_) | omega | (simp <;> omega) | exact blk_set (by assumption) _ _)) (by first | (simp; done) | (simp; omega))
  obtain ⟨zb, zoff, hza, -⟩ := crs_row hz (i := 0) (by omega)
  dsimp only at hza
  subst hza
  have HZ := Lib.hid hz
  have hx1 := blk_lt x0
  have e1 : ¬ w.heap.size = w1.heap.size := by omega
  clear hb1 hz
  have q0c := cell_blk x0
  have q0f := frz_blk x0
  go_wp2_with (fail)
  refine wp_name ?_
  intro w2 h2
  have x0 : w2.heap[w.heap.size]? = some (Obj.cells #[.slice s.h.a T.rule.heat.length s.h.cap, .slice s.w.a T.rule.wet.length s.w.cap, .int .i64 T.rule.own, .int .i64 T.rule.feed, .int .i64 T.rule.g0, .int .i64 T.rule.g1, .int .i64 T.rule.g2, .int .i64 T.rule.lost, .int .i64 T.first, .slice s.d.a T.days.length s.d.cap, .int .i64 T.start.lo, .int .i64 T.start.hi, .slice s.t.a T.tests.length s.t.cap] 31) := by rw [h2]; repeat' (first | (with_reducible assumption) | (with_reducible refine blk_set_ne ?_ ?_) | (with_reducible exact blk_new _ _) | (with_reducible refine blk_new' _ _ (by first | (with_reducible rfl) | (simp; done) | (simp <;> omega))) | (with_reducible refine blk_alloc ?_ _) | (with_reducible refine blk_drew ?_) | (with_reducible refine blk_drewN ?_ _) | (with_reducible refine Ext2.blk (by assumption) ?_) | omega | (simp <;> omega) | exact blk_set (by assumption) _ _)
  have x7 : w2.heap[w1.heap.size]? = some (Obj.cells #[.slice s.h.a T.rule.heat.length s.h.cap, .slice s.w.a T.rule.wet.length s.w.cap, .int .i64 T.rule.own, .int .i64 T.rule.feed, .int .i64 T.rule.g0, .int .i64 T.rule.g1, .int .i64 T.rule.g2, .int .i64 T.rule.lost, .int .i64 T.first, (.slice s.d.a T.days.length s.d.cap), .int .i64 T.start.lo, .int .i64 T.start.hi, (.slice none 0 0)] 31) := by rw [h2]; exact blk_new _ _
  have hE2 : Ext2 w1 w2 := by rw [h2]; repeat' (first | exact Below.refl _ _ | assumption | refine below_drewN ?_ _ | refine Below.drew ?_ | refine Below.alloc ?_ (by first | assumption | omega | (simp <;> omega)) _ | refine Below.setCell ?_ (by first | assumption | omega | (simp <;> omega)) _ | refine Ext2.on (by assumption) ?_)
  have hz2 := blk_lt x7
  have HZB : Hid (∀ b off, (some ⟨zb, zoff, none⟩ : Option Addr) = some ⟨b, off, none⟩ → b < w1.heap.size) := Lib.hid fun b off ha => by
    have h := HZ.out.block (b := zb) (off := zoff) rfl (by omega) (by omega)
    obtain ⟨rfl, rfl⟩ : zb = b ∧ zoff = off := by simpa using ha
    exact h
  have HX0 := Lib.hid x0; have HZ := Lib.hid (HZ.out.below hE2)
  have hB2 := below_ext hB1 hE2
  obtain ⟨b7, hb7⟩ : ∃ b, b = w1.heap.size := ⟨_, rfl⟩
  rw [← hb7] at x7 hz2 e1 HZB ⊢
  have hle7 : w.heap.size ≤ b7 := by rw [hb7]; exact hB1.size
  have HX7 := Lib.hid x7
  clear h2 q0c q0f x0 x7 hb7 hB1 hE2
  go_loopw [8] (fun i wr => ∃ (k : Nat) (v : Value), i = .int .i64 (k : Int) ∧ k ≤ T.tests.length ∧ Below b7 w2 wr ∧ wr.heap[b7]? = some (Obj.cells #[.slice s.h.a T.rule.heat.length s.h.cap, .slice s.w.a T.rule.wet.length s.w.cap, .int .i64 T.rule.own, .int .i64 T.rule.feed, .int .i64 T.rule.g0, .int .i64 T.rule.g1, .int .i64 T.rule.g2, .int .i64 T.rule.lost, .int .i64 T.first, (.slice s.d.a T.days.length s.d.cap), .int .i64 T.start.lo, .int .i64 T.start.hi, v] 31) ∧ OwnR wr (b7 + 1) 51 3 v k (testC (nevT T C).tests)) (fun i _ => T.tests.length - (intOf i).toNat)
  case atStart => exact ⟨0, _, rfl, by omega, Below.refl _ _, HX7.out, own_nil _ _ _ _ _⟩
  case round =>
    obtain ⟨k, v, rfl, hk, hE, x7, hO⟩ := hrel
    have hB : Below w.heap.size w wr := hB2.trans (hE.mono hle7)
    have hlt7 : w.heap.size < b7 := by omega
    have x0 := (hE.block w.heap.size hlt7).trans HX0.out
    have hsz : w2.heap.size ≤ wr.heap.size := hE.size
    have HZ := Lib.hid (HZ.out.kept (fun b off ha _ _ => HZB.out b off ha) hE)
    obtain ⟨⟨va, vc⟩, rfl, -⟩ := hO.sl
    dsimp only at hO x7
    have HO := Lib.hid hO; have HE := Lib.hid hE
    clear hO hE
    by_cases hlt : k < T.tests.length
    · obtain ⟨tb, toff, hta, htr⟩ := (HT.out.tests.below hB).row (by omega) (by omega)
      obtain ⟨t0, t1, t2⟩ := htr.three (i := k) hlt
      simp only [testC] at t0 t1 t2
      have x0' := x0
      rw [hta] at x0'
      have htok := (HK.out.tests k hlt).1
      have hmo := mo_days (days_ok HK.out) hlt
      obtain ⟨y, hy⟩ : ∃ y, y = testD T.tests k := ⟨_, rfl⟩
      have hyd : dayD' T k = y.day := by rw [hy]; rfl
      have hny := nevT_test (C := C) hlt
      rw [← hy] at t0 t1 t2 htok hny
      rw [hyd] at hmo
      obtain ⟨m, hm⟩ : ∃ m, m = mo T k := ⟨_, rfl⟩
      rw [← hm] at hmo hny
      obtain ⟨hm1, hm2⟩ := hmo
      have hcr := crs_rng HK.out hC (i := m) hm1
      obtain ⟨_, _, hzz, cm⟩ := crs_row HZ.out (i := m) (by omega)
      obtain ⟨rfl, rfl⟩ : zb = _ ∧ zoff = _ := by simpa using hzz
      obtain ⟨n, hn⟩ : ∃ n, n = crs T C m := ⟨_, rfl⟩
      rw [← hn] at cm hcr hny
      obtain ⟨g, hg⟩ : ∃ g, g = grade T.rule n := ⟨_, rfl⟩
      have hgr := grade_rng T.rule n
      have hg1 := grade_one HK.out.rule hcr
      rw [← hg] at hgr hg1 hny
      have HGR : Hid (∀ W, Below w.heap.size w W → Calls Try.prog 29 #[.agg #[.slice s.h.a T.rule.heat.length s.h.cap, .slice s.w.a T.rule.wet.length s.w.cap, .int .i64 T.rule.own, .int .i64 T.rule.feed, .int .i64 T.rule.g0, .int .i64 T.rule.g1, .int .i64 T.rule.g2, .int .i64 T.rule.lost], .int .i64 n] W fun e w' => e = .returned (.tuple #[.int .i64 g, .int .i64 0]) ∧ Below W.heap.size W w') := Lib.hid fun W hW => by
        have h := gradeRef_any (HT.out.rule.below hW) n; rw [hg1] at h; exact h
      obtain ⟨r, hr⟩ : ∃ r : Nat, r = k % 3 := ⟨_, rfl⟩
      have hr3 : r < 3 := by omega
      have hm3 : (k : Int).tmod 3 = (r : Int) := by rw [hr]; rfl
      have hm4 : (k : Int) % 3 = (r : Int) := by omega
      obtain ⟨⟨y0, y1⟩, y2, y3⟩ := htok
      have hmul : -3 ≤ y.err * ((r : Int) - 1) ∧ y.err * ((r : Int) - 1) ≤ 3 := by
        rcases (show r = 0 ∨ r = 1 ∨ r = 2 by omega) with h | h | h <;> rw [h] <;> simp <;> omega
      have HNY : Hid (testD (nevT T C).tests k = ⟨y.day, min 3 (max 0 (g + y.err * ((r : Int) - 1))), y.err⟩) := Lib.hid (by rw [hny, trueTest, hm4])
      have p0 : (0 : Int) ≤ (k : Int) := by omega
      have p1 : (k : Int) < (T.tests.length : Int) := by omega
      have p2 : (0 : Int) ≤ (m : Int) := by omega
      have p3 : (m : Int) < (T.days.length : Int) + 1 := by omega
      have w0' : IntKind.i64.wrap (y.day - T.first) = (m : Int) := by rw [← hm2]; exact IntWalk.i64_in _ (by omega)
      have w2' : IntKind.i64.wrap ((k : Int) + 1) = (k : Int) + 1 := IntWalk.i64_in _ (by omega)
      have w3' : IntKind.i64.wrap ((r : Int) - 1) = (r : Int) - 1 := IntWalk.i64_in _ (by omega)
      have w4' : IntKind.i64.wrap (y.err * ((r : Int) - 1)) = y.err * ((r : Int) - 1) := IntWalk.i64_in _ (by omega)
      have w5' : IntKind.i64.wrap (g + y.err * ((r : Int) - 1)) = g + y.err * ((r : Int) - 1) := IntWalk.i64_in _ (by omega)
      have w6' : IntKind.i64.wrap (r : Int) = (r : Int) := IntWalk.i64_in _ (by omega)
      have hbr := blk_lt x7
      clear hta htr hm hy hyd hny hm2 hcr hzz hn hg hg1 hr hmul
      have q0c := cell_blk x0'
      have q0f := frz_blk x0'
      go_wp2_with (fail)
      refine wp_name ?_
      intro w3 h3
      have hE3 : Ext2 wr w3 := by rw [h3]; repeat' (first | exact Below.refl _ _ | assumption | refine below_drewN ?_ _ | refine Below.drew ?_ | refine Below.alloc ?_ (by first | assumption | omega | (simp <;> omega)) _ | refine Below.setCell ?_ (by first | assumption | omega | (simp <;> omega)) _ | refine Ext2.on (by assumption) ?_)
      have x9 : w3.heap[wr.heap.size]? = some (Obj.cells #[.int .i64 y.day, .int .i64 y.grade, .int .i64 y.err] 51) := by rw [h3]; repeat' (first | (with_reducible assumption) | (with_reducible refine blk_set_ne ?_ ?_) | (with_reducible exact blk_new _ _) | (with_reducible refine blk_new' _ _ (by first | (with_reducible rfl) | (simp; done) | (simp <;> omega))) | (with_reducible refine blk_alloc ?_ _) | (with_reducible refine blk_drew ?_) | (with_reducible refine blk_drewN ?_ _) | (with_reducible refine Ext2.blk (by assumption) ?_) | omega | (simp <;> omega) | exact blk_set (by assumption) _ _)
      have x0' := Ext2.blk hE3 x0'
      have x7 := Ext2.blk hE3 x7
      have cm := (Below.cell hE3 (cell_lt cm)).trans cm
      have HG3 := hid_ext HGR (below_ext hB hE3)
      clear q0c q0f h3 t0 t1 t2 HGR
      have q0c := cell_blk x0'
      have q0f := frz_blk x0'
      have q9c := cell_blk x9
      have q9f := frz_blk x9
      refine region_ev [] [0, 1, 2, 3, 4, 5, 6, 7, 8, 9, 10, 11, 12, 13, 14, 15] [] [] (by kernel_rfl) (by kernel_rfl) (by intro c a d v w h; cases d <;> exact h) ?_
      simp only [picks, List.drop_succ_cons, List.drop_zero]
      repeat (refine wpQ0_step (fun K hK => ?_); go_simp; (refine hK _ ?_; clear hK K))
      refine wpQ0_nil ?_
      repeat ((with_reducible refine wpQ2_step (fun K hK => ?_)); go_simp; first | ((with_reducible refine hK _ ?_); clear hK K) | (apply Exists.intro; refine ⟨fun x => ?_, hK _ ?_⟩; ((with_reducible exact HG3.out x.1 x.2)); clear hK K))
      refine wpQ2_nil ?_
      refine Events.none_ fun w4 hg4 => ?_
      simp only [picks, List.drop_succ_cons, List.drop_zero]
      have hE4 : Ext2 wr w4 := ext_trans hE3 hg4
      have x7 := Ext2.blk hg4 x7
      have x9 := Ext2.blk hg4 x9
      clear q0c q0f q9c q9f cm x0' hE3 hg4 HG3
      have q9c := cell_blk x9
      have q9f := frz_blk x9
      have hz4 := hE4.size
      have hkk : k < T.tests.length := hlt
      have hz9 : ¬ wr.heap.size = w4.heap.size := by have := blk_lt x9; omega
      have hz7 : ¬ b7 = wr.heap.size := by omega
      have hz8 : ¬ wr.heap.size = b7 := by omega
      have X7 := Lib.hid x7
      have q7c := cell_blk x7
      have q7f := frz_blk x7
      go_wp2_with (at_builtin; refine app_one [.int .i64 y.day, .int .i64 (min 3 (max 0 (g + y.err * ((r : Int) - 1)))), .int .i64 y.err] elTestA rfl _ _ rfl (b7 + 1) rfl (HO.out.below ((below_set hE4 (Nat.le_refl _)).alloc (by simpa using hz4) _)) w4.heap.size 1 rfl (blk_new' _ _ (by simp)) (by simp [Value.oneCell']) (by omega) (by simp; omega) ?_; intro v' w8 hO11 hg8; obtain ⟨⟨a', cp'⟩, rfl, -⟩ := hO11.sl; dsimp only at hO11; have u7 := app_keeps (HO.out.below ((below_set hE4 (Nat.le_refl _)).alloc (by simpa using hz4) _)) hg8 (blk_alloc (blk_set_ne X7.out hz8) _) (by omega); have u7c := cell_blk u7; have u7f := frz_blk u7)
      go_roundw
      case rel =>
        refine ⟨k + 1, .slice a' (k + 1) cp', by go_num, by omega, ?_, Eq.trans (blk_set u7 _ _) rfl, ?_⟩
        · have hEW : Ext2 wr _ := (below_set (v := .int .i64 (min 3 (max 0 (g + y.err * ((r : Int) - 1))))) (o := 1) hE4 (Nat.le_refl _)).alloc (by simpa using hz4) (.cells #[.int .i64 y.day, .int .i64 (min 3 (max 0 (g + y.err * ((r : Int) - 1)))), .int .i64 y.err] 51)
          exact below_set (app_below (HE.out.trans (Below.mono hEW (by omega))) (HO.out.below hEW) (by omega) (by simp; omega) hg8) (Nat.le_refl _)
        · exact (hO11.above (Above.set (Above.refl _ _) (.inl (Nat.lt_succ_self _)))).congr fun i q hi hq => testC_up HNY.out hi hq
      case measure => simp [intOf]; omega
    · have hkn : k = T.tests.length := by omega
      subst hkn
      have hU : TaskAt wr (nevT T C) ⟨s.h, s.w, s.d, ⟨va, vc⟩⟩ := by
        have h := HT.out.below hB
        refine ⟨h.rule, h.days, ?_⟩
        show RowS wr _ 3 (nevT T C).tests.length _
        rw [nevT_len]; exact own_rowA HO.out
      have hL : ∀ W, Ext2 wr W → Calls Try.prog 17 #[.agg #[.slice s.h.a T.rule.heat.length s.h.cap, .slice s.w.a T.rule.wet.length s.w.cap, .int .i64 T.rule.own, .int .i64 T.rule.feed, .int .i64 T.rule.g0, .int .i64 T.rule.g1, .int .i64 T.rule.g2, .int .i64 T.rule.lost, .int .i64 T.first, .slice s.d.a T.days.length s.d.cap, .int .i64 T.start.lo, .int .i64 T.start.hi, .slice va T.tests.length vc]] W fun e w' => (∃ s1 s2 : Sl, e = .returned (.tuple #[.slice s1.a (T.days.length + 1) s1.cap, .slice s2.a 0 s2.cap, .int .i64 0]) ∧ RowS w' s1 2 (T.days.length + 1) (spC (lv (nevT T C)))) ∧ Below W.heap.size W w' := fun W hW => by
        have h := levels_yes (hU.below hW) (task_mk (nev_ok HK.out C))
        rw [nevT_len, nev_none HK.out hC] at h
        refine h.mono ?_
        rintro e w' ⟨⟨s1, s2, h1, h2, -⟩, h3⟩
        exact ⟨⟨s1, s2, h1, h2⟩, h3⟩
      have HL := Lib.hid hL
      have p1 : ¬ (T.tests.length : Int) < (T.tests.length : Int) := by omega
      have hEr : Ext2 wr wr := Below.refl _ _
      clear hL hU
      have q0c := cell_blk x0
      have q0f := frz_blk x0
      have q7c := cell_blk x7
      have q7f := frz_blk x7
      go_wp2_with (fail)
      (with_reducible refine (HL.out _ hEr).mono ?_)
      rintro e w5 ⟨⟨⟨la, lc⟩, s2, rfl, hl⟩, hb5⟩
      have hE5 : Ext2 wr w5 := hb5
      have HZ5 := Lib.hid (HZ.out.below hE5)
      obtain ⟨lb, loff, hla, -⟩ := sp_two hl (i := 0) (by omega)
      dsimp only at hla
      subst hla
      have HL5 := Lib.hid hl
      have ne1 : ((T.days.length : Int) + 1 != (T.days.length : Int) + 1) = false := by simp
      have hB5 := below_ext hB hE5
      clear hl hb5 q0c q0f q7c q7f x0 x7 p1
      go_wp2_with (fail)
      go_loopw [15] (fun i wr => ∃ k : Nat, i = .int .i64 (k : Int) ∧ k ≤ T.days.length + 1 ∧ Ext2 w5 wr) (fun i _ => T.days.length + 1 - (intOf i).toNat)
      case atStart => exact ⟨0, rfl, by omega, Below.refl _ _⟩
      case round =>
        obtain ⟨q, rfl, hq, hE⟩ := hrel
        have hEq : Ext2 w5 wr := hE
        clear hE
        by_cases hql : q < T.days.length + 1
        · obtain ⟨_, _, hla2, b0, b1⟩ := sp_two (HL5.out.below hEq) (i := q) hql
          obtain ⟨rfl, rfl⟩ : lb = _ ∧ loff = _ := by simpa using hla2
          obtain ⟨_, _, hzz, cm⟩ := crs_row (HZ5.out.below hEq) (i := q) hql
          obtain ⟨rfl, rfl⟩ : zb = _ ∧ zoff = _ := by simpa using hzz
          have hin := nev_lv HK.out hC (i := q) (by omega)
          obtain ⟨a, ha⟩ : ∃ a, a = lv (nevT T C) q := ⟨_, rfl⟩
          obtain ⟨n, hn⟩ : ∃ n, n = crs T C q := ⟨_, rfl⟩
          rw [← ha] at b0 b1 hin
          rw [← hn] at cm hin
          have HH : Hid (∀ W, Calls Try.prog 30 #[.agg #[.int .i64 a.lo, .int .i64 a.hi], .int .i64 n] W fun e w' => e = .returned (.bool true) ∧ Below W.heap.size W w') := Lib.hid fun W => by
            have h := has_any a n W
            rw [show hasB a n = true from decide_eq_true hin] at h; exact h
          have r0 : (0 : Int) ≤ (q : Int) := by omega
          have r1 : (q : Int) < (T.days.length : Int) + 1 := by omega
          have w3' : IntKind.i64.wrap ((q : Int) + 1) = (q : Int) + 1 := IntWalk.i64_in _ (by omega)
          clear hla2 hzz hin ha hn
          go_wp2_with (fail)
          refine region_ev [] [0, 1, 2, 3, 4, 5, 6, 7, 8, 9] [] [] (by kernel_rfl) (by kernel_rfl) (by intro c a d v w h; cases d <;> exact h) ?_
          simp only [picks, List.drop_succ_cons, List.drop_zero]
          repeat (refine wpQ0_step (fun K hK => ?_); go_simp; (refine hK _ ?_; clear hK K))
          refine wpQ0_nil ?_
          repeat ((with_reducible refine wpQ2_step (fun K hK => ?_)); go_simp; first | ((with_reducible refine hK _ ?_); clear hK K) | (apply Exists.intro; refine ⟨fun x => ?_, hK _ ?_⟩; ((with_reducible exact HH.out x.1)); clear hK K))
          refine wpQ2_nil ?_
          refine Events.none_ fun w6 hg6 => ?_
          simp only [picks, List.drop_succ_cons, List.drop_zero]
          have hE6 := ext_trans hEq hg6
          clear b0 b1 cm
          go_wp2_with (fail)
          go_roundw
          case rel => exact ⟨q + 1, by go_num, by omega, hE6⟩
          case measure => simp [intOf]; omega
        · have hjj : ¬ (q : Int) < (T.days.length : Int) + 1 := by omega
          have hBj := below_ext hB5 hEq
          go_wp2_with (fail)
          (with_reducible refine (HA.out _).mono ?_)
          rintro e w6 ⟨rfl, hb6⟩
          have hB6 := below_ext hBj hb6
          go_wp2_with (fail)
          go_ret
          exact ⟨rfl, hB6⟩
theorem lawNever_any {T : Task} {s : TSl} {C : Cse} {sc : Sl} {w : World} (hT : TaskAt w T s) (hs : CseOk C ∧ U8S w sc C.steps) : Calls Try.prog 5 #[.agg #[.slice s.h.a T.rule.heat.length s.h.cap, .slice s.w.a T.rule.wet.length s.w.cap, .int .i64 T.rule.own, .int .i64 T.rule.feed, .int .i64 T.rule.g0, .int .i64 T.rule.g1, .int .i64 T.rule.g2, .int .i64 T.rule.lost, .int .i64 T.first, .slice s.d.a T.days.length s.d.cap, .int .i64 T.start.lo, .int .i64 T.start.hi, .slice s.t.a T.tests.length s.t.cap], .agg #[.int .u8 C.start, .slice sc.a C.steps.length sc.cap]] w fun e w' => e = .returned (.bool true) ∧ Below w.heap.size w w' := by
  by_cases h0 : (D.checkTask T).2.2 = 0
  · exact never_yes hT hs.1 hs.2 h0
  · exact never_no hT hs.1 hs.2 h0
end Go.Proofs.Ytfjbgcaogffiaaa
