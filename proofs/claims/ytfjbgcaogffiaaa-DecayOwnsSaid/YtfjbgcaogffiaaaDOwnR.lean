/-
  The reference's Own.
-/
import Derived.Test.YtfjbgcaogffiaaaDLevA
import Derived.Test.YtfjbgcaogffiaaaDOwnPl
import Derived.Test.YtfjbgcaogffiaaaDRegB
import Derived.Test.YtfjbgcaogffiaaaDRefB
import Derived.Test.YtfjbgcaogffiaaaDRefC
import Derived.Test.YtfjbgcaogffiaaaDRef4
namespace Go.Proofs.Ytfjbgcaogffiaaa
open Go.RowKit D
set_option linter.unusedVariables false
set_option linter.unusedSimpArgs false
attribute [local go_sem high] run_minI run_maxI
attribute [local go_sem] upon2 cls_cell cls_frozen forall_const exists_eq_left'
attribute [local go_sem] FirstUpon
set_option maxRecDepth 100000 in
set_option maxHeartbeats 2000000 in
theorem ownR_any {T : Task} {s : TSl} {sc : Sl} {l : List Int} {w : World} (hT : TaskAt w T s) (hl : IntsS w sc l) : Calls Try.prog 39 #[.agg #[.slice s.h.a T.rule.heat.length s.h.cap, .slice s.w.a T.rule.wet.length s.w.cap, .int .i64 T.rule.own, .int .i64 T.rule.feed, .int .i64 T.rule.g0, .int .i64 T.rule.g1, .int .i64 T.rule.g2, .int .i64 T.rule.lost, .int .i64 T.first, .slice s.d.a T.days.length s.d.cap, .int .i64 T.start.lo, .int .i64 T.start.hi, .slice s.t.a T.tests.length s.t.cap], .slice sc.a l.length sc.cap] w fun e w' => e = .returned (.tuple #[.int .i64 (ownV T l).1, .int .i64 (ownV T l).2]) ∧ Below w.heap.size w w' := by
  have HV0 : Hid (∀ W, Below w.heap.size w W → Calls Try.prog 52 #[.agg #[.slice s.h.a T.rule.heat.length s.h.cap, .slice s.w.a T.rule.wet.length s.w.cap, .int .i64 T.rule.own, .int .i64 T.rule.feed, .int .i64 T.rule.g0, .int .i64 T.rule.g1, .int .i64 T.rule.g2, .int .i64 T.rule.lost, .int .i64 T.first, .slice s.d.a T.days.length s.d.cap, .int .i64 T.start.lo, .int .i64 T.start.hi, .slice s.t.a T.tests.length s.t.cap]] W fun e w' => e = .returned (.int .i64 (D.checkTask T).2.2) ∧ Below W.heap.size W w') := Lib.hid fun W hW => valid_any (hT.below hW)
  have HT := Lib.hid hT; have HLs := Lib.hid hl
  have hlc := hl.le
  have hlm := hl.max
  have hdl := hT.days.le
  have hdm := hT.days.max
  clear hT hl
  obtain ⟨er, her⟩ : ∃ er, er = (D.checkTask T).2.2 := ⟨_, rfl⟩
  rw [← her] at HV0
  obtain ⟨V, hV⟩ : ∃ V, V = ownV T l := ⟨_, rfl⟩
  rw [← hV]
  have hV2 : V = if er ≠ 0 then (0, er) else if l.length ≠ T.days.length + 1 then (0, 2) else (ownI T (intD l), 0) := by rw [hV, ownV, ← her]
  have HE := Lib.hid her; have HV := Lib.hid hV2; clear her hV hV2
  by_cases h0 : er = 0
  · subst h0
    have HK := Lib.hid (task_ok HE.out.symm).1
    have hnd := HK.out.nd
    have w1' : IntKind.i64.wrap ((T.days.length : Int) + 1) = (T.days.length : Int) + 1 := IntWalk.i64_in _ (by omega)
    by_cases hlen : l.length = T.days.length + 1
    · have hne : ((l.length : Int) != (T.days.length : Int) + 1) = false := by simp; omega
      have HLEN := Lib.hid hlen
      have HV2 : Hid (V = (ownI T (intD l), 0)) := Lib.hid (by rw [HV.out, if_neg (fun h => h rfl), if_neg (fun h => h hlen)])
      obtain ⟨⟨la, lc⟩, hsc⟩ : ∃ z : Sl, z = sc := ⟨_, rfl⟩
      subst hsc
      dsimp only at hlc hlm
      obtain ⟨b, off, ha, -⟩ := ints_at' HLs.out (i := 0) (by omega)
      subst ha
      have hrow : ∀ W, Below w.heap.size w W → ∀ j, j < l.length → W.cell? ⟨b, off + j, none⟩ = some (.int .i64 (intD l j)) := fun W hW j hj => by
        obtain ⟨b', off', ha', hc⟩ := ints_at' (HLs.out.below hW) hj
        obtain ⟨rfl, rfl⟩ : b = b' ∧ off = off' := by simpa using ha'
        exact hc
      have HROW := Lib.hid hrow
      have q00 : (0 : Int) < (l.length : Int) := by omega
      have q01 : 0 < l.length := by omega
      obtain ⟨n0, hn0⟩ : ∃ n, n = intD l 0 := ⟨_, rfl⟩
      have HN0 := Lib.hid hn0
      have HIN : Hid (∀ (n lo hi : Int) W, Calls Try.prog 54 #[.int .i64 n, .int .i64 lo, .int .i64 hi] W fun e w' => e = .returned (.bool (inB n lo hi)) ∧ Below W.heap.size W w') := Lib.hid fun n lo hi W => (in_any n lo hi W).mono fun e w' ⟨he, hw⟩ => ⟨he, by rw [← hw]; exact Below.refl _ _⟩
      clear hlen hrow hn0
      obtain ⟨b0, hb0⟩ : ∃ b0, inB n0 T.start.lo T.start.hi = b0 := ⟨_, rfl⟩
      have hb0' : ownBad T (intD l) 0 = !b0 := by
        have h := ownBad_in T (intD l) 0
        rw [← HN0.out] at h
        rw [← hb0, show inB n0 T.start.lo T.start.hi = _ from h]; simp
      have HB0 := Lib.hid hb0'
      have HI0 : Hid (∀ W, Calls Try.prog 54 #[.int .i64 n0, .int .i64 T.start.lo, .int .i64 T.start.hi] W fun e w' => e = .returned (.bool b0) ∧ Below W.heap.size W w') := Lib.hid fun W => by have h := HIN.out n0 T.start.lo T.start.hi W; rwa [hb0] at h
      clear hb0 hb0'
      go_enter Try.func39, Try.ntmps39
      go_wp2_with (fail)
      (with_reducible refine (HV0.out _ ?_).mono ?_)
      · repeat' (first | exact Below.refl _ _ | assumption | refine below_drewN ?_ _ | refine Below.drew ?_ | refine Below.alloc ?_ (by first | assumption | omega | (simp <;> omega)) _ | refine Below.setCell ?_ (by first | assumption | omega | (simp <;> omega)) _ | refine Ext2.on (by assumption) ?_)
      rintro e w1 ⟨rfl, hb1⟩
      have x0 : w1.heap[w.heap.size]? = some (Obj.cells #[.slice s.h.a T.rule.heat.length s.h.cap, .slice s.w.a T.rule.wet.length s.w.cap, .int .i64 T.rule.own, .int .i64 T.rule.feed, .int .i64 T.rule.g0, .int .i64 T.rule.g1, .int .i64 T.rule.g2, .int .i64 T.rule.lost, .int .i64 T.first, .slice s.d.a T.days.length s.d.cap, .int .i64 T.start.lo, .int .i64 T.start.hi, .slice s.t.a T.tests.length s.t.cap] 31) := below_blk hb1 (by repeat' (first | (with_reducible assumption) | (with_reducible refine blk_set_ne ?_ ?_) | (with_reducible exact blk_new _ _) | (with_reducible refine blk_new' _ _ (by first | (with_reducible rfl) | (simp; done) | (simp <;> omega))) | (with_reducible refine blk_alloc ?_ _) | (with_reducible refine blk_drew ?_) | (with_reducible refine blk_drewN ?_ _) | (with_reducible refine Ext2.blk (by assumption) ?_) | omega | (simp <;> omega) | exact blk_set (by assumption) _ _)) (by simp)
      have hB1 : Below w.heap.size w w1 := Below.trans (by repeat' (first | exact Below.refl _ _ | assumption | refine below_drewN ?_ _ | refine Below.drew ?_ | refine Below.alloc ?_ (by first | assumption | omega | (simp <;> omega)) _ | refine Below.setCell ?_ (by first | assumption | omega | (simp <;> omega)) _ | refine Ext2.on (by assumption) ?_)) (hb1.mono (by simp))
      have c0 := HROW.out w1 hB1 0 (by have := HLEN.out; omega)
      rw [← HN0.out, Nat.add_zero] at c0
      clear hb1
      have HX0 := Lib.hid x0
      have q0c := cell_blk x0
      have q0f := frz_blk x0
      go_wp2_with (fail)
      refine region_ev [] [0, 1, 2, 3, 4, 5, 6, 7, 8, 9, 10] [] [] (by kernel_rfl) (by kernel_rfl) (by intro c a d v w h; cases d <;> exact h) ?_
      simp only [picks, List.drop_succ_cons, List.drop_zero]
      repeat (refine wpQ0_step (fun K hK => ?_); go_simp; (refine hK _ ?_; clear hK K))
      refine wpQ0_nil ?_
      repeat ((with_reducible refine wpQ2_step (fun K hK => ?_)); go_simp; first | ((with_reducible refine hK _ ?_); clear hK K) | (apply Exists.intro; refine ⟨fun x => ?_, hK _ ?_⟩; (first | (with_reducible exact HI0.out x.1)); clear hK K))
      refine wpQ2_nil ?_
      refine Events.none_ fun w2 hg2 => ?_
      simp only [picks, List.drop_succ_cons, List.drop_zero]
      have hx2 : Ext2 w1 w2 := hg2
      have hB2 := hB1.trans (Below.mono hx2 hB1.size)
      clear c0 q0c q0f x0
      cases b0
      case false =>
        have HV3 : Hid (V = (0, 0)) := Lib.hid (by rw [HV2.out, ownI, firstDay_some (Int.le_refl 0) (k := 0) HB0.out (fun i hi => absurd hi (by omega)) (by omega)]; rfl)
        go_wp2_with (fail)
        go_ret2
        rw [HV3.out]
        exact ⟨rfl, hB2⟩
      case true =>
        go_wp2_with (fail)
        have x0 := Ext2.blk hx2 HX0.out
        have HX2 := Lib.hid x0
        clear x0
        simp only [Bool.not_true]
        go_loopw [7] (fun i wr => ∃ k : Nat, i = .int .i64 (k : Int) ∧ k ≤ T.days.length ∧ (∀ j, j < k + 1 → ownBad T (intD l) j = false) ∧ Below w2.heap.size w2 wr) (fun i _ => T.days.length - (intOf i).toNat)
        case atStart => exact ⟨0, rfl, by omega, (fun j h => by have hj : j = 0 := (by omega); subst hj; exact HB0.out), Below.refl _ _⟩
        case round =>
          obtain ⟨k, rfl, hk, hbad, hE⟩ := hrel
          have hE1 : Ext2 w2 wr := hE
          have hBr := hB2.trans (Below.mono hE1 hB2.size)
          have HBAD := Lib.hid hbad
          clear hbad hE
          have x0 := Ext2.blk hE1 HX2.out
          by_cases hkd : k < T.days.length
          · obtain ⟨db, doff, hda, hdr⟩ := (HT.out.days.below hBr).row (by omega) (by omega)
            obtain ⟨d0, d1, d2, d3⟩ := hdr.four (i := k) hkd
            simp only [dayC] at d0 d1 d2 d3
            rw [hda] at x0
            have hok := HK.out.days k hkd
            obtain ⟨dd, hdd⟩ : ∃ dd, dd = dayD T.days k := ⟨_, rfl⟩
            rw [← hdd] at d0 d1 d2 d3 hok
            obtain ⟨st, hst⟩ : ∃ st, st = strength T.rule dd := ⟨_, rfl⟩
            have hfo : spanD (forces T) k = st := by rw [force_at hkd, ← hdd, hst]
            have HST : Hid (∀ W, Ext2 wr W → Calls Try.prog 66 #[.agg #[.slice s.h.a T.rule.heat.length s.h.cap, .slice s.w.a T.rule.wet.length s.w.cap, .int .i64 T.rule.own, .int .i64 T.rule.feed, .int .i64 T.rule.g0, .int .i64 T.rule.g1, .int .i64 T.rule.g2, .int .i64 T.rule.lost], .agg #[.int .i64 dd.tlo, .int .i64 dd.thi, .int .i64 dd.dlo, .int .i64 dd.dhi]] W fun e w' => e = .returned (.agg #[.int .i64 st.lo, .int .i64 st.hi]) ∧ Below W.heap.size W w') := Lib.hid fun W hW => by rw [hst]; exact strengthR_any (HT.out.rule.below (hBr.trans (Below.mono hW hBr.size))) HK.out.rule hok
            have hc1 := HROW.out wr hBr k (by have := HLEN.out; omega)
            have hc2 := HROW.out wr hBr (k + 1) (by have := HLEN.out; omega)
            have hlv := own_lev HK.out (i := k) (by omega) (fun j hj => HBAD.out j (by omega))
            obtain ⟨n, hn⟩ : ∃ n, n = intD l k := ⟨_, rfl⟩
            obtain ⟨m, hm⟩ : ∃ m, m = intD l (k + 1) := ⟨_, rfl⟩
            rw [← hn] at hc1 hlv
            rw [← hm] at hc2
            have hgr := (stepOk_at HK.out hkd).g
            rw [hfo] at hgr
            have HLE : Hid (∀ W, Calls Try.prog 57 #[.agg #[.slice s.h.a T.rule.heat.length s.h.cap, .slice s.w.a T.rule.wet.length s.w.cap, .int .i64 T.rule.own, .int .i64 T.rule.feed, .int .i64 T.rule.g0, .int .i64 T.rule.g1, .int .i64 T.rule.g2, .int .i64 T.rule.lost], .agg #[.int .i64 st.lo, .int .i64 st.hi], .int .i64 n] W fun e w' => e = .returned (.int .i64 (least T.rule st n)) ∧ Below W.heap.size W w') := Lib.hid fun W => least_any hgr hlv.1 hlv.2 W
            have HMO : Hid (∀ W, Calls Try.prog 58 #[.agg #[.slice s.h.a T.rule.heat.length s.h.cap, .slice s.w.a T.rule.wet.length s.w.cap, .int .i64 T.rule.own, .int .i64 T.rule.feed, .int .i64 T.rule.g0, .int .i64 T.rule.g1, .int .i64 T.rule.g2, .int .i64 T.rule.lost], .agg #[.int .i64 st.lo, .int .i64 st.hi], .int .i64 n] W fun e w' => e = .returned (.int .i64 (most T.rule st n)) ∧ Below W.heap.size W w') := Lib.hid fun W => most_any hgr hlv.1 hlv.2 W
            obtain ⟨bk, hbk⟩ : ∃ bk, bk = ownBad T (intD l) (k + 1) := ⟨_, rfl⟩
            have hin : inB m (least T.rule st n) (most T.rule st n) = !bk := by
              have h := ownBad_in T (intD l) (k + 1)
              rw [show canOf T (intD l) (k + 1) = ⟨least T.rule st n, most T.rule st n⟩ from by rw [canOf, hfo, ← hn], ← hm, ← hbk] at h
              exact h
            have HIK : Hid (∀ W, Calls Try.prog 54 #[.int .i64 m, .int .i64 (least T.rule st n), .int .i64 (most T.rule st n)] W fun e w' => e = .returned (.bool (!bk)) ∧ Below W.heap.size W w') := Lib.hid fun W => by have h := HIN.out m (least T.rule st n) (most T.rule st n) W; rwa [hin] at h
            have HBK := Lib.hid hbk
            have p0 : (0 : Int) ≤ (k : Int) := by omega
            have p1 : (k : Int) < (T.days.length : Int) := by omega
            have p2 : (k : Int) < (l.length : Int) := by have := HLEN.out; omega
            have p3 : (k : Int) + 1 < (l.length : Int) := by have := HLEN.out; omega
            have p4 : (0 : Int) ≤ (k : Int) + 1 := by omega
            have p5 : ((k : Int) + 1).toNat = k + 1 := by omega
            have w2' : IntKind.i64.wrap ((k : Int) + 1) = (k : Int) + 1 := IntWalk.i64_in _ (by omega)
            clear hdd hst hfo hn hm hgr hlv hbk hin hdr hda hok
            have q0c := cell_blk x0
            have q0f := frz_blk x0
            go_wp2_with (fail)
            refine region_ev [] [0, 1, 2, 3, 4, 5, 6, 7] [(8, 8, some 9)] [] (by kernel_rfl) (by kernel_rfl) (by intro c a d v w h; cases d <;> exact h) ?_
            simp only [picks, List.drop_succ_cons, List.drop_zero]
            repeat (refine wpQ0_step (fun K hK => ?_); go_simp; (refine hK _ ?_; clear hK K))
            refine wpQ0_nil ?_
            repeat ((with_reducible refine wpQ2_step (fun K hK => ?_)); go_simp; first | ((with_reducible refine hK _ ?_); clear hK K) | (apply Exists.intro; refine ⟨fun x => ?_, hK _ ?_⟩; (first | (with_reducible exact HST.out x.1 x.2)); clear hK K))
            refine wpQ2_nil ?_
            refine Events.fill1 (fun b => .pointer (some ⟨b, 0, none⟩)) (Obj.cells #[.int .i64 0, .int .i64 0] 28) (Obj.cells #[.int .i64 st.lo, .int .i64 st.hi] 28) ⟨_, rfl, rfl, rfl, fun W => by kernel_rfl⟩ ⟨_, rfl, rfl, rfl, fun b W hb => ?_⟩ fun b8 w3 hb8 hg3 nb8 => ?_
            · have hbc := cell_blk hb; have hbf := frz_blk hb; go_simp; exact turn_two hb _ _
            simp only [picks, List.drop_succ_cons, List.drop_zero]
            have hx3 : Ext2 wr w3 := hg3
            have hc1 := (Below.cell hx3 (cell_lt hc1)).trans hc1
            have hc2 := (Below.cell hx3 (cell_lt hc2)).trans hc2
            have x0 := Ext2.blk hx3 x0
            clear q0c q0f d0 d1 d2 d3
            have q0c := cell_blk x0
            have q0f := frz_blk x0
            have q8c := cell_blk nb8
            have q8f := frz_blk nb8
            go_wp2_with (fail)
            refine region_ev [] [0, 1, 2, 3, 4, 5, 6, 7, 8, 9, 10, 11, 12, 13, 14, 15, 16, 17, 18, 19, 20, 21, 22] [] [] (by kernel_rfl) (by kernel_rfl) (by intro c a d v w h; cases d <;> exact h) ?_
            simp only [picks, List.drop_succ_cons, List.drop_zero]
            repeat (refine wpQ0_step (fun K hK => ?_); go_simp; (refine hK _ ?_; clear hK K))
            refine wpQ0_nil ?_
            repeat ((with_reducible refine wpQ2_step (fun K hK => ?_)); go_simp; first | ((with_reducible refine hK _ ?_); clear hK K) | (apply Exists.intro; refine ⟨fun x => ?_, hK _ ?_⟩; (first | (with_reducible exact HLE.out x.1) | (with_reducible exact HMO.out x.1) | (with_reducible exact HIK.out x.1)); clear hK K))
            refine wpQ2_nil ?_
            refine Events.none_ fun w4 hg4 => ?_
            simp only [picks, List.drop_succ_cons, List.drop_zero]
            have hx4 : Ext2 w2 w4 := hE1.trans (Below.mono (hx3.trans (Below.mono hg4 hx3.size)) hE1.size)
            have hB4 := hB2.trans (Below.mono hx4 hB2.size)
            clear q0c q0f q8c q8f hc1 hc2
            cases bk
            case true =>
              have HV3 : Hid (V = ((k : Int) + 1, 0)) := Lib.hid (by
                rw [HV2.out, ownI, firstDay_some (Int.le_refl 0) (k := k + 1) HBK.out.symm HBAD.out (by omega)]; simp)
              go_wp2_with (fail)
              go_ret2
              rw [HV3.out]
              exact ⟨rfl, hB4⟩
            case false =>
              go_wp2_with (fail)
              go_roundw
              case rel =>
                exact ⟨k + 1, by go_num, by omega, below_succ HBAD.out HBK.out.symm, hx4⟩
              case measure => simp [intOf]; omega
          · have hkk : k = T.days.length := by omega
            have HV3 : Hid (V = (-1, 0)) := Lib.hid (by rw [HV2.out, ownI, firstDay_none (by rw [← hkk]; exact HBAD.out)])
            have p1 : ¬ (k : Int) < (T.days.length : Int) := by omega
            clear hkk
            have q0c := cell_blk x0
            have q0f := frz_blk x0
            go_wp2_with (fail)
            go_ret2
            rw [HV3.out]
            exact ⟨rfl, hBr⟩
    · have hne : ((l.length : Int) != (T.days.length : Int) + 1) = true := by simp; omega
      have HV2 : Hid (V = (0, 2)) := Lib.hid (by rw [HV.out, if_neg (fun h => h rfl), if_pos hlen])
      clear hlen
      go_enter Try.func39, Try.ntmps39
      go_wp2_with (fail)
      (with_reducible refine (HV0.out _ ?_).mono ?_)
      · repeat' (first | exact Below.refl _ _ | assumption | refine below_drewN ?_ _ | refine Below.drew ?_ | refine Below.alloc ?_ (by first | assumption | omega | (simp <;> omega)) _ | refine Below.setCell ?_ (by first | assumption | omega | (simp <;> omega)) _ | refine Ext2.on (by assumption) ?_)
      rintro e w1 ⟨rfl, hb1⟩
      have x0 : w1.heap[w.heap.size]? = some (Obj.cells #[.slice s.h.a T.rule.heat.length s.h.cap, .slice s.w.a T.rule.wet.length s.w.cap, .int .i64 T.rule.own, .int .i64 T.rule.feed, .int .i64 T.rule.g0, .int .i64 T.rule.g1, .int .i64 T.rule.g2, .int .i64 T.rule.lost, .int .i64 T.first, .slice s.d.a T.days.length s.d.cap, .int .i64 T.start.lo, .int .i64 T.start.hi, .slice s.t.a T.tests.length s.t.cap] 31) := below_blk hb1 (by repeat' (first | (with_reducible assumption) | (with_reducible refine blk_set_ne ?_ ?_) | (with_reducible exact blk_new _ _) | (with_reducible refine blk_new' _ _ (by first | (with_reducible rfl) | (simp; done) | (simp <;> omega))) | (with_reducible refine blk_alloc ?_ _) | (with_reducible refine blk_drew ?_) | (with_reducible refine blk_drewN ?_ _) | (with_reducible refine Ext2.blk (by assumption) ?_) | omega | (simp <;> omega) | exact blk_set (by assumption) _ _)) (by simp)
      have hB1 : Below w.heap.size w w1 := Below.trans (by repeat' (first | exact Below.refl _ _ | assumption | refine below_drewN ?_ _ | refine Below.drew ?_ | refine Below.alloc ?_ (by first | assumption | omega | (simp <;> omega)) _ | refine Below.setCell ?_ (by first | assumption | omega | (simp <;> omega)) _ | refine Ext2.on (by assumption) ?_)) (hb1.mono (by simp))
      clear hb1
      have q0c := cell_blk x0
      have q0f := frz_blk x0
      go_wp2_with (fail)
      go_ret2
      rw [HV2.out]
      exact ⟨rfl, hB1⟩
  · have hne : (er == 0) = false := by simp; omega
    have hne2 : (er != 0) = true := by simp; omega
    have HV2 : Hid (V = (0, er)) := Lib.hid (by rw [HV.out, if_pos h0])
    clear h0
    go_enter Try.func39, Try.ntmps39
    go_wp2_with (fail)
    (with_reducible refine (HV0.out _ ?_).mono ?_)
    · repeat' (first | exact Below.refl _ _ | assumption | refine below_drewN ?_ _ | refine Below.drew ?_ | refine Below.alloc ?_ (by first | assumption | omega | (simp <;> omega)) _ | refine Below.setCell ?_ (by first | assumption | omega | (simp <;> omega)) _ | refine Ext2.on (by assumption) ?_)
    rintro e w1 ⟨rfl, hb1⟩
    have hB1 : Below w.heap.size w w1 := Below.trans (by repeat' (first | exact Below.refl _ _ | assumption | refine below_drewN ?_ _ | refine Below.drew ?_ | refine Below.alloc ?_ (by first | assumption | omega | (simp <;> omega)) _ | refine Below.setCell ?_ (by first | assumption | omega | (simp <;> omega)) _ | refine Ext2.on (by assumption) ?_)) (hb1.mono (by simp))
    clear hb1
    go_wp2_with (fail)
    go_ret2
    rw [HV2.out]
    exact ⟨rfl, hB1⟩
end Go.Proofs.Ytfjbgcaogffiaaa
