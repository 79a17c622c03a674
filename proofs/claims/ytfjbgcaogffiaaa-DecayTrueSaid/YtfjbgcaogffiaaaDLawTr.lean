/-
  The law DecayTrue, walked.
-/
import Derived.Test.YtfjbgcaogffiaaaDWlk2
import Derived.Test.YtfjbgcaogffiaaaDOwnP
namespace Go.Proofs.Ytfjbgcaogffiaaa
open Go.RowKit D
set_option linter.unusedVariables false
set_option linter.unusedSimpArgs false
attribute [local go_sem high] run_minI run_maxI
attribute [local go_sem] upon2 cls_cell cls_frozen forall_const exists_eq_left'
theorem yield_undef : yielded.match_1 (fun _ => Option Bool) (some undef) (fun b => some b) (fun _ => none) = none := rfl
attribute [local go_sem] FirstUpon yield_undef
set_option maxRecDepth 100000 in
set_option maxHeartbeats 2000000 in
theorem true_no {T : Task} {s : TSl} {C : Cse} {sc : Sl} {w : World} (hT : TaskAt w T s) (hC : CseOk C) (hs : U8S w sc C.steps) (h0 : (D.checkTask T).2.2 ≠ 0) : Calls Try.prog 12 #[.agg #[.slice s.h.a T.rule.heat.length s.h.cap, .slice s.w.a T.rule.wet.length s.w.cap, .int .i64 T.rule.own, .int .i64 T.rule.feed, .int .i64 T.rule.g0, .int .i64 T.rule.g1, .int .i64 T.rule.g2, .int .i64 T.rule.lost, .int .i64 T.first, .slice s.d.a T.days.length s.d.cap, .int .i64 T.start.lo, .int .i64 T.start.hi, .slice s.t.a T.tests.length s.t.cap], .agg #[.int .u8 C.start, .slice sc.a C.steps.length sc.cap]] w fun e w' => e = .returned (.bool true) ∧ Below w.heap.size w w' := by
  have HW : Hid (∀ W, Below w.heap.size w W → Calls Try.prog 28 #[.agg #[.slice s.h.a T.rule.heat.length s.h.cap, .slice s.w.a T.rule.wet.length s.w.cap, .int .i64 T.rule.own, .int .i64 T.rule.feed, .int .i64 T.rule.g0, .int .i64 T.rule.g1, .int .i64 T.rule.g2, .int .i64 T.rule.lost, .int .i64 T.first, .slice s.d.a T.days.length s.d.cap, .int .i64 T.start.lo, .int .i64 T.start.hi, .slice s.t.a T.tests.length s.t.cap], .agg #[.int .u8 C.start, .slice sc.a C.steps.length sc.cap]] W _) := Lib.hid fun W hW => walked_no (hT.below hW) hC (hs.below hW) h0
  obtain ⟨p3, hp⟩ : ∃ p, p = (D.checkTask T).2.2 := ⟨_, rfl⟩
  obtain ⟨L, hL⟩ : ∃ L, L = lostOut T := ⟨_, rfl⟩
  have HP : Hid (∀ W, Below w.heap.size w W → Calls Try.prog 17 #[.agg #[.slice s.h.a T.rule.heat.length s.h.cap, .slice s.w.a T.rule.wet.length s.w.cap, .int .i64 T.rule.own, .int .i64 T.rule.feed, .int .i64 T.rule.g0, .int .i64 T.rule.g1, .int .i64 T.rule.g2, .int .i64 T.rule.lost, .int .i64 T.first, .slice s.d.a T.days.length s.d.cap, .int .i64 T.start.lo, .int .i64 T.start.hi, .slice s.t.a T.tests.length s.t.cap]] W fun e w' => (∃ s1 s2 : Sl, e = .returned (.tuple #[.slice s1.a 0 s1.cap, .slice s2.a 0 s2.cap, .int .i64 p3])) ∧ Below W.heap.size W w') := Lib.hid fun W hW => by
    rw [hp]; exact levels_no (hT.below hW) h0
  have HL : Hid (∀ W, Below w.heap.size w W → Calls Try.prog 31 #[.agg #[.slice s.h.a T.rule.heat.length s.h.cap, .slice s.w.a T.rule.wet.length s.w.cap, .int .i64 T.rule.own, .int .i64 T.rule.feed, .int .i64 T.rule.g0, .int .i64 T.rule.g1, .int .i64 T.rule.g2, .int .i64 T.rule.lost, .int .i64 T.first, .slice s.d.a T.days.length s.d.cap, .int .i64 T.start.lo, .int .i64 T.start.hi, .slice s.t.a T.tests.length s.t.cap]] W fun e w' => e = .returned (.tuple #[.agg #[.int .i64 L.lo, .int .i64 L.hi], .int .i64 p3]) ∧ Below W.heap.size W w') := Lib.hid fun W hW => by
    rw [hp, hL]; exact lostP_any (hT.below hW)
  have HA : Hid (∀ W, Calls Try.prog 21 #[] W fun e w' => e = .returned (.bool true) ∧ Below W.heap.size W w') := Lib.hid fun W => awake_any W
  rw [← hp] at h0
  have hne2 : (p3 != 0) = true := by simp [h0]
  have heq : (p3 == p3) = true := by simp
  clear hT hC hs hp hL
  go_enter Try.func12, Try.ntmps12
  go_wp2_with (fail)
  (with_reducible refine (HW.out _ ?_).mono ?_)
  · repeat' (first | exact Below.refl _ _ | assumption | refine below_drewN ?_ _ | refine Below.drew ?_ | refine Below.alloc ?_ (by first | assumption | omega | (simp <;> omega)) _ | refine Below.setCell ?_ (by first | assumption | omega | (simp <;> omega)) _ | refine Ext2.on (by assumption) ?_)
  rintro e w1 ⟨⟨z, rfl⟩, hb1⟩
  have hB1 : Below w.heap.size w w1 := Below.trans (by repeat' (first | exact Below.refl _ _ | assumption | refine below_drewN ?_ _ | refine Below.drew ?_ | refine Below.alloc ?_ (by first | assumption | omega | (simp <;> omega)) _ | refine Below.setCell ?_ (by first | assumption | omega | (simp <;> omega)) _ | refine Ext2.on (by assumption) ?_)) (hb1.mono (by simp; omega))
  have x0 : w1.heap[w.heap.size]? = some (Obj.cells #[.slice s.h.a T.rule.heat.length s.h.cap, .slice s.w.a T.rule.wet.length s.w.cap, .int .i64 T.rule.own, .int .i64 T.rule.feed, .int .i64 T.rule.g0, .int .i64 T.rule.g1, .int .i64 T.rule.g2, .int .i64 T.rule.lost, .int .i64 T.first, .slice s.d.a T.days.length s.d.cap, .int .i64 T.start.lo, .int .i64 T.start.hi, .slice s.t.a T.tests.length s.t.cap] 31) := below_blk hb1 (by repeat' (first | (with_reducible assumption) | (with_reducible refine blk_set_ne ?_ ?_) | (with_reducible exact blk_new _ _) | (with_reducible refine blk_new' _ _ (by first | (with_reducible rfl) | (simp; done) | (simp <;> omega))) | (with_reducible refine blk_alloc ?_ _) | (with_reducible refine blk_drew ?_) | (with_reducible refine blk_drewN ?_ _) | (with_reducible refine Ext2.blk (by assumption) ?_) | omega | (simp <;> omega) | exact blk_set (by assumption) _ _)) (by first | (simp; done) | (simp; omega))
  clear hb1
  have q0c := cell_blk x0
  have q0f := frz_blk x0
  go_wp2_with (fail)
  (with_reducible refine (HP.out _ hB1).mono ?_)
  rintro e w2 ⟨⟨s1, s2, rfl⟩, hb2⟩
  have hB2 := below_ext hB1 hb2
  have x0 := Ext2.blk hb2 x0
  clear q0c q0f hb2
  have q0c := cell_blk x0
  have q0f := frz_blk x0
  go_wp2_with (fail)
  (with_reducible refine (HL.out _ hB2).mono ?_)
  rintro e w3 ⟨rfl, hb3⟩
  have hB3 := below_ext hB2 hb3
  clear q0c q0f hb3
  go_wp2_with (fail)
  (with_reducible refine (HA.out _).mono ?_)
  rintro e w4 ⟨rfl, hb4⟩
  have hB4 : Below w.heap.size w w4 := Below.trans (show Below w.heap.size w _ from Below.alloc hB3 (by have := hB3.size; omega) _) (hb4.mono (by have := hB3.size; simp; omega))
  go_wp2_with (fail)
  go_ret
  exact ⟨rfl, hB4⟩
set_option maxRecDepth 100000 in
set_option maxHeartbeats 8000000 in
theorem true_yes {T : Task} {s : TSl} {C : Cse} {sc : Sl} {w : World} (hT : TaskAt w T s) (hC : CseOk C) (hs : U8S w sc C.steps) (h0 : (D.checkTask T).2.2 = 0) : Calls Try.prog 12 #[.agg #[.slice s.h.a T.rule.heat.length s.h.cap, .slice s.w.a T.rule.wet.length s.w.cap, .int .i64 T.rule.own, .int .i64 T.rule.feed, .int .i64 T.rule.g0, .int .i64 T.rule.g1, .int .i64 T.rule.g2, .int .i64 T.rule.lost, .int .i64 T.first, .slice s.d.a T.days.length s.d.cap, .int .i64 T.start.lo, .int .i64 T.start.hi, .slice s.t.a T.tests.length s.t.cap], .agg #[.int .u8 C.start, .slice sc.a C.steps.length sc.cap]] w fun e w' => e = .returned (.bool true) ∧ Below w.heap.size w w' := by
  have hk := (task_ok h0).1
  have HK := Lib.hid hk
  have HT := Lib.hid hT
  have HW : Hid (∀ W, Below w.heap.size w W → Calls Try.prog 28 #[.agg #[.slice s.h.a T.rule.heat.length s.h.cap, .slice s.w.a T.rule.wet.length s.w.cap, .int .i64 T.rule.own, .int .i64 T.rule.feed, .int .i64 T.rule.g0, .int .i64 T.rule.g1, .int .i64 T.rule.g2, .int .i64 T.rule.lost, .int .i64 T.first, .slice s.d.a T.days.length s.d.cap, .int .i64 T.start.lo, .int .i64 T.start.hi, .slice s.t.a T.tests.length s.t.cap], .agg #[.int .u8 C.start, .slice sc.a C.steps.length sc.cap]] W _) := Lib.hid fun W hW => walked_yes (hT.below hW) hC (hs.below hW) h0
  have HP : Hid (∀ W, Below w.heap.size w W → Calls Try.prog 17 #[.agg #[.slice s.h.a T.rule.heat.length s.h.cap, .slice s.w.a T.rule.wet.length s.w.cap, .int .i64 T.rule.own, .int .i64 T.rule.feed, .int .i64 T.rule.g0, .int .i64 T.rule.g1, .int .i64 T.rule.g2, .int .i64 T.rule.lost, .int .i64 T.first, .slice s.d.a T.days.length s.d.cap, .int .i64 T.start.lo, .int .i64 T.start.hi, .slice s.t.a T.tests.length s.t.cap]] W _) := Lib.hid fun W hW => levels_yes (hT.below hW) h0
  obtain ⟨L, hL⟩ : ∃ L, L = lostT T := ⟨_, rfl⟩
  have HL : Hid (∀ W, Below w.heap.size w W → Calls Try.prog 31 #[.agg #[.slice s.h.a T.rule.heat.length s.h.cap, .slice s.w.a T.rule.wet.length s.w.cap, .int .i64 T.rule.own, .int .i64 T.rule.feed, .int .i64 T.rule.g0, .int .i64 T.rule.g1, .int .i64 T.rule.g2, .int .i64 T.rule.lost, .int .i64 T.first, .slice s.d.a T.days.length s.d.cap, .int .i64 T.start.lo, .int .i64 T.start.hi, .slice s.t.a T.tests.length s.t.cap]] W fun e w' => e = .returned (.tuple #[.agg #[.int .i64 L.lo, .int .i64 L.hi], .int .i64 0]) ∧ Below W.heap.size W w') := Lib.hid fun W hW => by
    rw [hL]; exact lost_yes (hT.below hW) h0
  have HA : Hid (∀ W, Calls Try.prog 21 #[] W fun e w' => e = .returned (.bool true) ∧ Below W.heap.size W w') := Lib.hid fun W => awake_any W
  have hnd := hk.nd
  have hnt := hk.nt
  have hfst := hk.first
  have hlost := hk.rule.lost
  have HLE := Lib.hid hL
  clear hT hs h0 hk hL
  go_enter Try.func12, Try.ntmps12
  go_wp2_with (fail)
  (with_reducible refine (HW.out _ ?_).mono ?_)
  · repeat' (first | exact Below.refl _ _ | assumption | refine below_drewN ?_ _ | refine Below.drew ?_ | refine Below.alloc ?_ (by first | assumption | omega | (simp <;> omega)) _ | refine Below.setCell ?_ (by first | assumption | omega | (simp <;> omega)) _ | refine Ext2.on (by assumption) ?_)
  rintro e w1 ⟨⟨⟨za, zc⟩, rfl, hz⟩, hb1⟩
  have hB1 : Below w.heap.size w w1 := Below.trans (by repeat' (first | exact Below.refl _ _ | assumption | refine below_drewN ?_ _ | refine Below.drew ?_ | refine Below.alloc ?_ (by first | assumption | omega | (simp <;> omega)) _ | refine Below.setCell ?_ (by first | assumption | omega | (simp <;> omega)) _ | refine Ext2.on (by assumption) ?_)) (hb1.mono (by simp; omega))
  have x0 : w1.heap[w.heap.size]? = some (Obj.cells #[.slice s.h.a T.rule.heat.length s.h.cap, .slice s.w.a T.rule.wet.length s.w.cap, .int .i64 T.rule.own, .int .i64 T.rule.feed, .int .i64 T.rule.g0, .int .i64 T.rule.g1, .int .i64 T.rule.g2, .int .i64 T.rule.lost, .int .i64 T.first, .slice s.d.a T.days.length s.d.cap, .int .i64 T.start.lo, .int .i64 T.start.hi, .slice s.t.a T.tests.length s.t.cap] 31) := below_blk hb1 (by repeat' (first | (with_reducible assumption) | (with_reducible refine blk_set_ne ?_ ?_) | (with_reducible exact blk_new _ _) | (with_reducible refine blk_new' _ _ (by first | (with_reducible rfl) | (simp; done) | (simp <;> omega))) | (with_reducible refine blk_alloc ?_ _) | (with_reducible refine blk_drew ?_) | (with_reducible refine blk_drewN ?_ _) | (with_reducible refine Ext2.blk (by assumption) ?_) | omega | (simp <;> omega) | exact blk_set (by assumption) _ _)) (by first | (simp; done) | (simp; omega))
  obtain ⟨zb, zoff, hza, -⟩ := crs_row hz (i := 0) (by omega)
  dsimp only at hza
  subst hza
  have HZ := Lib.hid hz
  clear hb1 hz
  have q0c := cell_blk x0
  have q0f := frz_blk x0
  go_wp2_with (fail)
  (with_reducible refine (HP.out _ hB1).mono ?_)
  rintro e w2 ⟨⟨⟨la, lc⟩, s2, rfl, hl, hs2⟩, hb2⟩
  have hB2 := below_ext hB1 hb2
  have x0 := Ext2.blk hb2 x0
  have HZ := Lib.hid (HZ.out.below hb2)
  obtain ⟨lb, loff, hla, -⟩ := sp_two hl (i := 0) (by omega)
  dsimp only at hla
  subst hla
  have HLV := Lib.hid hl; have HS2 := Lib.hid hs2
  clear q0c q0f hb2 hl hs2
  have q0c := cell_blk x0
  have q0f := frz_blk x0
  go_wp2_with (fail)
  (with_reducible refine (HL.out _ hB2).mono ?_)
  rintro e w3 ⟨rfl, hb3⟩
  have hB3 := below_ext hB2 hb3
  have x0 := Ext2.blk hb3 x0
  have HZ := Lib.hid (HZ.out.below hb3)
  have HLV := Lib.hid (HLV.out.below hb3)
  have HS2 := Lib.hid (HS2.out.below hb3)
  have hO : ∀ W, Ext2 w3 W → Calls Try.prog 38 #[.agg #[.slice s.h.a T.rule.heat.length s.h.cap, .slice s.w.a T.rule.wet.length s.w.cap, .int .i64 T.rule.own, .int .i64 T.rule.feed, .int .i64 T.rule.g0, .int .i64 T.rule.g1, .int .i64 T.rule.g2, .int .i64 T.rule.lost, .int .i64 T.first, .slice s.d.a T.days.length s.d.cap, .int .i64 T.start.lo, .int .i64 T.start.hi, .slice s.t.a T.tests.length s.t.cap], .slice (some ⟨zb, zoff, none⟩) (T.days.length + 1) zc] W fun e w' => e = .returned (.tuple #[.int .i64 (-1), .int .i64 0]) ∧ Below W.heap.size W w' := fun W hW => by
    have h := ownP_any (HT.out.below (below_ext hB3 hW)) (crs_ints (HZ.out.below hW))
    rw [own_crs HK.out hC, crsL_len] at h
    exact h
  have HO := Lib.hid hO
  have ne1 : ((T.days.length : Int) + 1 != (T.days.length : Int) + 1) = false := by simp
  have k0 := blk_lt x0
  have k1 : ¬ w.heap.size = w3.heap.size := by omega
  clear q0c q0f hb3 HW HP HL hO
  have q0c := cell_blk x0
  have q0f := frz_blk x0
  go_wp2_with (fail)
  (with_reducible refine (HO.out _ ?_).mono ?_)
  · exact below_alloc' _ _
  rintro e w4 ⟨rfl, hb4⟩
  have hE4 : Ext2 w3 w4 := Below.trans (below_alloc' _ _) (hb4.mono (by simp))
  have x10 : w4.heap[w3.heap.size]? = some (Obj.cells #[.int .i64 L.lo, .int .i64 L.hi] 28) := below_blk hb4 (by repeat' (first | (with_reducible assumption) | (with_reducible refine blk_set_ne ?_ ?_) | (with_reducible exact blk_new _ _) | (with_reducible refine blk_new' _ _ (by first | (with_reducible rfl) | (simp; done) | (simp <;> omega))) | (with_reducible refine blk_alloc ?_ _) | (with_reducible refine blk_drew ?_) | (with_reducible refine blk_drewN ?_ _) | (with_reducible refine Ext2.blk (by assumption) ?_) | omega | (simp <;> omega) | exact blk_set (by assumption) _ _)) (by simp)
  have x0 := Ext2.blk hE4 x0
  have HX0 := Lib.hid x0; have HX10 := Lib.hid x10
  have HZ := Lib.hid (HZ.out.below hE4)
  have HLV := Lib.hid (HLV.out.below hE4)
  have HS2 := Lib.hid (HS2.out.below hE4)
  have hB4 := below_ext hB3 hE4
  clear q0c q0f hb4 x0 x10 hE4 HO
  go_wp2_with (fail)
  go_loopw [14] (fun i wr => ∃ k : Nat, i = .int .i64 (k : Int) ∧ k ≤ T.tests.length ∧ Ext2 w4 wr ∧ ∀ j, j < k → struckB (struckT T) (j : Int) = true ∨ keepsB T (crsL T C) (testD T.tests j) = true) (fun i _ => T.tests.length - (intOf i).toNat)
  case atStart => exact ⟨0, rfl, by omega, Below.refl _ _, fun j hj => absurd hj (by omega)⟩
  case round =>
    obtain ⟨k, rfl, hk, hE, hall⟩ := hrel
    have hEr : Ext2 w4 wr := hE
    have HALL := Lib.hid hall
    clear hE hall
    have x0 := Ext2.blk hEr HX0.out
    have hBr := below_ext hB4 hEr
    by_cases hlt : k < T.tests.length
    · go_light
      obtain ⟨tb, toff, hta, htr⟩ := (HT.out.tests.below hBr).row (by omega) (by omega)
      obtain ⟨t0, t1, t2⟩ := htr.three (i := k) hlt
      simp only [testC] at t0 t1 t2
      rw [hta] at x0
      have htok := HK.out.tests k hlt
      obtain ⟨y, hy⟩ : ∃ y, y = testD T.tests k := ⟨_, rfl⟩
      rw [← hy] at t0 t1 t2 htok
      obtain ⟨sb, hsb⟩ : ∃ b, b = struckB (struckT T) (k : Int) := ⟨_, rfl⟩
      obtain ⟨kb, hkb⟩ : ∃ b, b = keepsB T (crsL T C) y := ⟨_, rfl⟩
      have HST : Hid (∀ W, Ext2 wr W → Calls Try.prog 26 #[.slice s2.a (struckT T).length s2.cap, .int .i64 (k : Int)] W fun e w' => e = .returned (.bool sb) ∧ Below W.heap.size W w') := Lib.hid fun W hW => by
        rw [hsb]
        exact (struckIs_any (s := s2) (k : Int) (HS2.out.below (ext_trans hEr hW))).mono fun e w' ⟨he, q, hq⟩ => ⟨he, by rw [hq]; exact below_drewN (Below.refl _ _) q⟩
      have HKP : Hid (∀ W, Ext2 wr W → Calls Try.prog 27 #[.agg #[.slice s.h.a T.rule.heat.length s.h.cap, .slice s.w.a T.rule.wet.length s.w.cap, .int .i64 T.rule.own, .int .i64 T.rule.feed, .int .i64 T.rule.g0, .int .i64 T.rule.g1, .int .i64 T.rule.g2, .int .i64 T.rule.lost, .int .i64 T.first, .slice s.d.a T.days.length s.d.cap, .int .i64 T.start.lo, .int .i64 T.start.hi, .slice s.t.a T.tests.length s.t.cap], .slice (some ⟨zb, zoff, none⟩) (T.days.length + 1) zc, .agg #[.int .i64 y.day, .int .i64 y.grade, .int .i64 y.err]] W fun e w' => e = .returned (.bool kb) ∧ Below W.heap.size W w') := Lib.hid fun W hW => by
        have hcr : ∀ i, i < (crsL T C).length → 0 ≤ intD (crsL T C) i ∧ intD (crsL T C) i ≤ 1000000 := fun i hi => by
          rw [crsL_len] at hi
          rw [crsL_at (by omega)]
          exact crs_rng HK.out hC (by omega)
        have h := keeps_any (HT.out.below (below_ext hBr hW)) HK.out.rule (crs_ints (HZ.out.below (ext_trans hEr hW))) htok.1 (by omega) hcr
        rw [← hkb, crsL_len] at h; exact h
      rw [hta] at HKP
      have p0 : (0 : Int) ≤ (k : Int) := by omega
      have p1 : (k : Int) < (T.tests.length : Int) := by omega
      have w2' : IntKind.i64.wrap ((k : Int) + 1) = (k : Int) + 1 := IntWalk.i64_in _ (by omega)
      have HY := Lib.hid hy; have HSB := Lib.hid hsb; have HKB := Lib.hid hkb
      clear hta htr hy hsb hkb htok
      have q0c := cell_blk x0
      have q0f := frz_blk x0
      cases sb
      case true =>
        go_wp2_with (fail)
        refine region_ev [] [0, 1, 2, 3, 4, 5, 6, 7, 8, 9, 10, 11, 12, 13, 14] [] [] (by kernel_rfl) (by kernel_rfl) (by intro c a d v w h; cases d <;> exact h) ?_
        simp only [picks, List.drop_succ_cons, List.drop_zero]
        repeat (refine wpQ0_step (fun K hK => ?_); go_simp; (refine hK _ ?_; clear hK K))
        refine wpQ0_nil ?_
        repeat ((with_reducible refine wpQ2_step (fun K hK => ?_)); go_simp; first | ((with_reducible refine hK _ ?_); clear hK K) | (apply Exists.intro; refine ⟨fun x => ?_, hK _ ?_⟩; (first | (with_reducible exact HST.out x.1 x.2) | (with_reducible exact HKP.out x.1 x.2)); clear hK K))
        refine wpQ2_nil ?_
        refine Events.none_ fun w5 hg5 => ?_
        simp only [picks, List.drop_succ_cons, List.drop_zero]
        have hE5 := ext_trans hEr hg5
        clear q0c q0f x0 t0 t1 t2 HST HKP
        go_wp2_with (fail)
        go_roundw
        case rel =>
          refine ⟨k + 1, by go_num, by omega, hE5, fun j hj => ?_⟩
          rcases Nat.lt_or_ge j k with h | h
          · exact HALL.out j h
          · obtain rfl : j = k := by omega
            exact .inl HSB.out.symm
        case measure => simp [intOf]; omega
      case false =>
        cases kb
        case true =>
          go_wp2_with (fail)
          refine region_ev [] [0, 1, 2, 3, 4, 5, 6, 7, 8, 9, 10, 11, 12, 13, 14] [] [] (by kernel_rfl) (by kernel_rfl) (by intro c a d v w h; cases d <;> exact h) ?_
          simp only [picks, List.drop_succ_cons, List.drop_zero]
          repeat (refine wpQ0_step (fun K hK => ?_); go_simp; (refine hK _ ?_; clear hK K))
          refine wpQ0_nil ?_
          repeat ((with_reducible refine wpQ2_step (fun K hK => ?_)); go_simp; first | ((with_reducible refine hK _ ?_); clear hK K) | (apply Exists.intro; refine ⟨fun x => ?_, hK _ ?_⟩; (first | (with_reducible exact HST.out x.1 x.2) | (with_reducible exact HKP.out x.1 x.2)); clear hK K))
          refine wpQ2_nil ?_
          refine Events.none_ fun w5 hg5 => ?_
          simp only [picks, List.drop_succ_cons, List.drop_zero]
          have hE5 := ext_trans hEr hg5
          clear q0c q0f x0 t0 t1 t2 HST HKP
          go_wp2_with (fail)
          go_roundw
          case rel =>
            refine ⟨k + 1, by go_num, by omega, hE5, fun j hj => ?_⟩
            rcases Nat.lt_or_ge j k with h | h
            · exact HALL.out j h
            · obtain rfl : j = k := by omega
              right; rw [← HY.out]; exact HKB.out.symm
          case measure => simp [intOf]; omega
        case false =>
          go_wp2_with (fail)
          refine region_ev [] [0, 1, 2, 3, 4, 5, 6, 7, 8, 9, 10, 11, 12, 13, 14] [] [] (by kernel_rfl) (by kernel_rfl) (by intro c a d v w h; cases d <;> exact h) ?_
          simp only [picks, List.drop_succ_cons, List.drop_zero]
          repeat (refine wpQ0_step (fun K hK => ?_); go_simp; (refine hK _ ?_; clear hK K))
          refine wpQ0_nil ?_
          repeat ((with_reducible refine wpQ2_step (fun K hK => ?_)); go_simp; first | ((with_reducible refine hK _ ?_); clear hK K) | (apply Exists.intro; refine ⟨fun x => ?_, hK _ ?_⟩; (first | (with_reducible exact HST.out x.1 x.2) | (with_reducible exact HKP.out x.1 x.2)); clear hK K))
          refine wpQ2_nil ?_
          refine Events.none_ fun w5 hg5 => ?_
          simp only [picks, List.drop_succ_cons, List.drop_zero]
          have hB5 := below_ext hB4 (ext_trans hEr hg5)
          clear q0c q0f x0 t0 t1 t2 HST HKP
          go_wp2_with (fail)
          (with_reducible refine (HA.out _).mono ?_)
          rintro e w6 ⟨rfl, hb6⟩
          have hB6 := below_ext hB5 hb6
          go_wp2_with (fail)
          go_ret
          exact ⟨rfl, hB6⟩
    · obtain rfl : k = T.tests.length := by omega
      have HIN : Hid (∀ i, i ≤ T.days.length → InS (lv T i) (crs T C i)) := Lib.hid fun i hi => true_in HK.out hC HALL.out hi
      have p1 : ¬ (T.tests.length : Int) < (T.tests.length : Int) := by omega
      have HEr := Lib.hid hEr
      have q0c := cell_blk x0
      have q0f := frz_blk x0
      go_wp2_with (fail)
      clear q0c q0f x0
      go_loopw [15] (fun i wr => ∃ k : Nat, i = .int .i64 (k : Int) ∧ k ≤ T.days.length + 1 ∧ Ext2 w4 wr) (fun i _ => T.days.length + 1 - (intOf i).toNat)
      case atStart => exact ⟨0, rfl, by omega, HEr.out⟩
      case round =>
        obtain ⟨q, rfl, hq, hE⟩ := hrel
        have hEq : Ext2 w4 wr := hE
        clear hE
        by_cases hql : q < T.days.length + 1
        · go_light
          obtain ⟨_, _, hla2, b0, b1⟩ := sp_two (HLV.out.below hEq) (i := q) hql
          obtain ⟨rfl, rfl⟩ : lb = _ ∧ loff = _ := by simpa using hla2
          obtain ⟨_, _, hzz, cm⟩ := crs_row (HZ.out.below hEq) (i := q) hql
          obtain ⟨rfl, rfl⟩ : zb = _ ∧ zoff = _ := by simpa using hzz
          have hin := HIN.out q (by omega)
          have hl1 := fun h => true_lost1 HK.out (i := q) (by omega) hin h
          have hl2 := fun h => true_lost2 HK.out hC HIN.out (i := q) (by omega) h
          rw [← HLE.out] at hl1 hl2
          obtain ⟨a, ha⟩ : ∃ a, a = lv T q := ⟨_, rfl⟩
          obtain ⟨n, hn⟩ : ∃ n, n = crs T C q := ⟨_, rfl⟩
          rw [← ha] at b0 b1 hin
          rw [← hn] at cm hin hl1 hl2
          have HH : Hid (∀ W, Calls Try.prog 30 #[.agg #[.int .i64 a.lo, .int .i64 a.hi], .int .i64 n] W fun e w' => e = .returned (.bool true) ∧ Below W.heap.size W w') := Lib.hid fun W => by
            have h := has_any a n W
            rw [show hasB a n = true from decide_eq_true hin] at h; exact h
          have r0 : (0 : Int) ≤ (q : Int) := by omega
          have r1 : (q : Int) < (T.days.length : Int) + 1 := by omega
          have w3' : IntKind.i64.wrap ((q : Int) + 1) = (q : Int) + 1 := IntWalk.i64_in _ (by omega)
          have w4' : IntKind.i64.wrap (T.first + (q : Int)) = T.first + (q : Int) := IntWalk.i64_in _ (by omega)
          have hcase : (decide (T.rule.lost ≤ n) = true ∧ decide (n < T.rule.lost) = false ∧ decide (L.lo < 0) = false ∧ decide (T.first + (q : Int) < L.lo) = false) ∨ (decide (T.rule.lost ≤ n) = false ∧ decide (n < T.rule.lost) = true ∧ decide (0 ≤ L.hi) = false) ∨ (decide (T.rule.lost ≤ n) = false ∧ decide (n < T.rule.lost) = true ∧ decide (0 ≤ L.hi) = true ∧ decide (L.hi ≤ T.first + (q : Int)) = false) := by
            by_cases h : T.rule.lost ≤ n
            · have := hl1 h
              exact .inl ⟨decide_eq_true h, decide_eq_false (by omega), decide_eq_false (by omega), decide_eq_false (by omega)⟩
            · have h2 := hl2 (by omega)
              by_cases h3 : 0 ≤ L.hi
              · exact .inr (.inr ⟨decide_eq_false h, decide_eq_true (by omega), decide_eq_true h3, decide_eq_false (by omega)⟩)
              · exact .inr (.inl ⟨decide_eq_false h, decide_eq_true (by omega), decide_eq_false h3⟩)
          have x0 := Ext2.blk hEq HX0.out
          have x10 := Ext2.blk hEq HX10.out
          clear hla2 hzz hin ha hn hl1 hl2
          have q0c := cell_blk x0
          have q0f := frz_blk x0
          have q10c := cell_blk x10
          have q10f := frz_blk x10
          go_wp2_with (fail)
          rcases hcase with ⟨c0, c1, c2, c3⟩ | ⟨c0, c1, c2⟩ | ⟨c0, c1, c2, c3⟩
          all_goals
            refine region_ev [] [0, 1, 2, 3, 4, 5, 6, 7, 8, 9, 10, 11, 12, 13, 14, 15, 16, 17, 18, 19, 20, 21, 22, 23, 24, 25, 26, 27, 28, 29, 30, 31, 32, 33, 34, 35, 36, 37, 38, 39, 40, 41, 42, 43, 44, 45, 46, 47, 48, 49, 50, 51] [] [] (by kernel_rfl) (by kernel_rfl) (by intro c a d v w h; cases d <;> exact h) ?_
            simp only [picks, List.drop_succ_cons, List.drop_zero]
            repeat (refine wpQ0_step (fun K hK => ?_); go_simp; (refine hK _ ?_; clear hK K))
            refine wpQ0_nil ?_
            repeat ((with_reducible refine wpQ2_step (fun K hK => ?_)); go_simp; first | ((with_reducible refine hK _ ?_); clear hK K) | (apply Exists.intro; refine ⟨fun x => ?_, hK _ ?_⟩; ((with_reducible exact HH.out x.1)); clear hK K))
            refine wpQ2_nil ?_
            refine Events.none_ fun w6 hg6 => ?_
            simp only [picks, List.drop_succ_cons, List.drop_zero]
            have hE6 := ext_trans hEq hg6
            clear b0 b1 cm q0c q0f q10c q10f x0 x10
            go_wp2_with (fail)
            go_roundw
            case rel => exact ⟨q + 1, by go_num, by omega, hE6⟩
            case measure => simp [intOf]; omega
        · have hjj : ¬ (q : Int) < (T.days.length : Int) + 1 := by omega
          have hBj := below_ext hB4 hEq
          go_wp2_with (fail)
          (with_reducible refine (HA.out _).mono ?_)
          rintro e w6 ⟨rfl, hb6⟩
          have hB6 := below_ext hBj hb6
          go_wp2_with (fail)
          go_ret
          exact ⟨rfl, hB6⟩
theorem lawTrue_any {T : Task} {s : TSl} {C : Cse} {sc : Sl} {w : World} (hT : TaskAt w T s) (hs : CseOk C ∧ U8S w sc C.steps) : Calls Try.prog 12 #[.agg #[.slice s.h.a T.rule.heat.length s.h.cap, .slice s.w.a T.rule.wet.length s.w.cap, .int .i64 T.rule.own, .int .i64 T.rule.feed, .int .i64 T.rule.g0, .int .i64 T.rule.g1, .int .i64 T.rule.g2, .int .i64 T.rule.lost, .int .i64 T.first, .slice s.d.a T.days.length s.d.cap, .int .i64 T.start.lo, .int .i64 T.start.hi, .slice s.t.a T.tests.length s.t.cap], .agg #[.int .u8 C.start, .slice sc.a C.steps.length sc.cap]] w fun e w' => e = .returned (.bool true) ∧ Below w.heap.size w w' := by
  by_cases h0 : (D.checkTask T).2.2 = 0
  · exact true_yes hT hs.1 hs.2 h0
  · exact true_no hT hs.1 hs.2 h0
end Go.Proofs.Ytfjbgcaogffiaaa
