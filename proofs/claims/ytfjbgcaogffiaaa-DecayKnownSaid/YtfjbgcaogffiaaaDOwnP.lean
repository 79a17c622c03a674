/-
  decay.Own.
-/
import Derived.Test.YtfjbgcaogffiaaaDLevA
import Derived.Test.YtfjbgcaogffiaaaDPlwA
import Derived.Test.YtfjbgcaogffiaaaDRegB
namespace Go.Proofs.Ytfjbgcaogffiaaa
open Go.RowKit D
set_option linter.unusedVariables false
set_option linter.unusedSimpArgs false
attribute [local go_sem high] run_minI run_maxI
attribute [local go_sem] upon2 cls_cell cls_frozen forall_const exists_eq_left'
attribute [local go_sem] FirstUpon
set_option maxRecDepth 100000 in
set_option maxHeartbeats 2000000 in
theorem ownP_any {T : Task} {s : TSl} {sc : Sl} {l : List Int} {w : World} (hT : TaskAt w T s) (hl : IntsS w sc l) : Calls Try.prog 38 #[.agg #[.slice s.h.a T.rule.heat.length s.h.cap, .slice s.w.a T.rule.wet.length s.w.cap, .int .i64 T.rule.own, .int .i64 T.rule.feed, .int .i64 T.rule.g0, .int .i64 T.rule.g1, .int .i64 T.rule.g2, .int .i64 T.rule.lost, .int .i64 T.first, .slice s.d.a T.days.length s.d.cap, .int .i64 T.start.lo, .int .i64 T.start.hi, .slice s.t.a T.tests.length s.t.cap], .slice sc.a l.length sc.cap] w fun e w' => e = .returned (.tuple #[.int .i64 (ownV T l).1, .int .i64 (ownV T l).2]) ∧ Below w.heap.size w w' := by
  have HT := Lib.hid hT; have HLs := Lib.hid hl
  have hlc := hl.le
  have hlm := hl.max
  clear hT hl
  obtain ⟨er, her⟩ : ∃ er, er = (D.checkTask T).2.2 := ⟨_, rfl⟩
  obtain ⟨V, hV⟩ : ∃ V, V = ownV T l := ⟨_, rfl⟩
  rw [← hV]
  have hV2 : V = if er ≠ 0 then (0, er) else if l.length ≠ T.days.length + 1 then (0, 2) else (ownI T (intD l), 0) := by rw [hV, ownV, ← her]
  have HE := Lib.hid her; have HV := Lib.hid hV2; clear her hV hV2
  by_cases h0 : er = 0
  · subst h0
    have HK := Lib.hid (task_ok HE.out.symm).1
    have hnd := HK.out.nd
    have HO : Hid (∀ W, Below w.heap.size w W → Calls Try.prog 50 #[.agg #[.slice s.h.a T.rule.heat.length s.h.cap, .slice s.w.a T.rule.wet.length s.w.cap, .int .i64 T.rule.own, .int .i64 T.rule.feed, .int .i64 T.rule.g0, .int .i64 T.rule.g1, .int .i64 T.rule.g2, .int .i64 T.rule.lost, .int .i64 T.first, .slice s.d.a T.days.length s.d.cap, .int .i64 T.start.lo, .int .i64 T.start.hi, .slice s.t.a T.tests.length s.t.cap]] W (OpenOut T s W)) := Lib.hid fun W hW => open_any (HT.out.below hW) HE.out.symm
    go_enter Try.func38, Try.ntmps38
    go_wp2_with (fail)
    (with_reducible refine (HO.out _ ?_).mono ?_)
    · repeat' (first | exact Below.refl _ _ | assumption | refine below_drewN ?_ _ | refine Below.drew ?_ | refine Below.alloc ?_ (by first | assumption | omega | (simp <;> omega)) _ | refine Below.setCell ?_ (by first | assumption | omega | (simp <;> omega)) _ | refine Ext2.on (by assumption) ?_)
    rintro e w1 ⟨⟨B, v, rfl, hBge, hr, hOw⟩, hb1⟩
    have x0 : w1.heap[w.heap.size]? = some (Obj.cells #[.slice s.h.a T.rule.heat.length s.h.cap, .slice s.w.a T.rule.wet.length s.w.cap, .int .i64 T.rule.own, .int .i64 T.rule.feed, .int .i64 T.rule.g0, .int .i64 T.rule.g1, .int .i64 T.rule.g2, .int .i64 T.rule.lost, .int .i64 T.first, .slice s.d.a T.days.length s.d.cap, .int .i64 T.start.lo, .int .i64 T.start.hi, .slice s.t.a T.tests.length s.t.cap] 31) := below_blk hb1 (by repeat' (first | (with_reducible assumption) | (with_reducible refine blk_set_ne ?_ ?_) | (with_reducible exact blk_new _ _) | (with_reducible refine blk_new' _ _ (by first | (with_reducible rfl) | (simp; done) | (simp <;> omega))) | (with_reducible refine blk_alloc ?_ _) | (with_reducible refine blk_drew ?_) | (with_reducible refine blk_drewN ?_ _) | (with_reducible refine Ext2.blk (by assumption) ?_) | omega | (simp <;> omega) | exact blk_set (by assumption) _ _)) (by simp)
    have hB1 : Below w.heap.size w w1 := Below.trans (by repeat' (first | exact Below.refl _ _ | assumption | refine below_drewN ?_ _ | refine Below.drew ?_ | refine Below.alloc ?_ (by first | assumption | omega | (simp <;> omega)) _ | refine Below.setCell ?_ (by first | assumption | omega | (simp <;> omega)) _ | refine Ext2.on (by assumption) ?_)) (hb1.mono (by simp))
    rw [World.size_alloc] at hBge
    obtain ⟨f, rfl, hf⟩ := hOw.sl
    have hrl := blk_lt hr
    have HR := Lib.hid hr; have HF := Lib.hid hf
    have HX0 := Lib.hid x0
    clear hb1 hr hOw hf
    have q0c := cell_blk x0
    have q0f := frz_blk x0
    have w1' : IntKind.i64.wrap ((T.days.length : Int) + 1) = (T.days.length : Int) + 1 := IntWalk.i64_in _ (by omega)
    by_cases hlen : l.length = T.days.length + 1
    · have hne : ((l.length : Int) != (T.days.length : Int) + 1) = false := by simp; omega
      have HLEN := Lib.hid hlen
      have HV2 : Hid (V = (ownI T (intD l), 0)) := Lib.hid (by rw [HV.out, if_neg (fun h => h rfl), if_neg (fun h => h hlen)])
      clear hlen
      go_wp2_with (fail)
      clear q0c q0f
      go_loopw [32] (fun i wr => ∃ k : Nat, i = .int .i64 (k : Int) ∧ k ≤ T.days.length + 1 ∧ (∀ j, j < k → ownBad T (intD l) j = false) ∧ Below w1.heap.size w1 wr ∧ w1.heap.size < wr.heap.size ∧ (k ≤ T.days.length → wr.heap[w1.heap.size]? = some (Obj.cells #[.int .i64 (canOf T (intD l) k).lo, .int .i64 (canOf T (intD l) k).hi] 28))) (fun i _ => T.days.length + 1 - (intOf i).toNat)
      case atStart => exact ⟨0, rfl, by omega, fun j h => absurd h (by omega), below_alloc' _ _, by simp, fun _ => blk_new _ _⟩
      case round =>
        obtain ⟨k, rfl, hk, hbad, hE, hz, hbl⟩ := hrel
        have hE1 : Ext2 w1 wr := hE
        have hlen := HLEN.out
        have HBAD := Lib.hid hbad
        clear hbad hE
        by_cases hlt : k ≤ T.days.length
        · have x8 := hbl hlt
          have hlv := can_lev HK.out hlt HBAD.out
          obtain ⟨⟨la, lc⟩, hsc⟩ : ∃ z : Sl, z = sc := ⟨_, rfl⟩
          subst hsc
          obtain ⟨b, off, ha, c0⟩ := ints_at' (HLs.out.below (show Ext2 w wr from hB1.trans (Below.mono hE1 hB1.size))) (i := k) (by omega)
          dsimp only at hlc hlm
          subst ha
          obtain ⟨can, hcan⟩ : ∃ can, can = canOf T (intD l) k := ⟨_, rfl⟩
          obtain ⟨n, hn⟩ : ∃ n, n = intD l k := ⟨_, rfl⟩
          rw [← hcan] at x8 hlv
          rw [← hn] at c0
          obtain ⟨⟨v0, v1⟩, v2, v3⟩ := hlv
          have HCAN := Lib.hid hcan; have HN := Lib.hid hn
          have rB := Ext2.blk hE1 HR.out
          have p0 : (0 : Int) ≤ (k : Int) := by omega
          have p1 : (k : Int) < (l.length : Int) := by omega
          have w2' : IntKind.i64.wrap ((k : Int) + 1) = (k : Int) + 1 := IntWalk.i64_in _ (by omega)
          unfold reelV at rB
          clear hcan hn hbl hlen
          have q8c := cell_blk x8
          have q8f := frz_blk x8
          have qrc := cell_blk rB
          have qrf := frz_blk rB
          by_cases hg : n < can.lo ∨ can.hi < n
          · have HV3 : Hid (V = ((k : Int), 0)) := Lib.hid (by
              rw [HV2.out, ownI, firstDay_some (Int.le_refl 0) (k := k) (by simp only [ownBad]; rw [← HCAN.out, ← HN.out]; exact decide_eq_true hg) HBAD.out (by omega)]; simp)
            have hBr := hB1.trans (Below.mono hE1 hB1.size)
            rcases (show n < can.lo ∨ (¬ n < can.lo ∧ can.hi < n) by omega) with hg | ⟨hg2, hg⟩
            · go_wp2_with (fail)
              go_ret2
              rw [HV3.out]
              exact ⟨rfl, hBr⟩
            · go_wp2_with (fail)
              go_ret2
              rw [HV3.out]
              exact ⟨rfl, hBr⟩
          · have hg1 : ¬ n < can.lo := by omega
            have hg2 : ¬ can.hi < n := by omega
            have HB1 : Hid (ownBad T (intD l) k = false) := Lib.hid (by simp only [ownBad]; rw [← HCAN.out, ← HN.out]; exact decide_eq_false hg)
            clear hg
            by_cases hkd : k < T.days.length
            · have p2 : (k : Int) < (T.days.length : Int) := by omega
              obtain ⟨fb, fo, hfa, hfr⟩ := (HF.out.below hE1).row (by omega) (by omega)
              obtain ⟨fa, fc⟩ := f
              obtain rfl : fa = some ⟨fb, fo, none⟩ := hfa
              obtain ⟨f0, f1⟩ := hfr.two (i := k) hkd
              simp only [spC] at f0 f1
              have hfc1 := HF.out.le
              have hfc2 := HF.out.max
              dsimp only at hfc1 hfc2
              have hgr := (stepOk_at HK.out hkd).g
              obtain ⟨st, hst⟩ : ∃ st, st = spanD (forces T) k := ⟨_, rfl⟩
              rw [← hst] at f0 f1 hgr
              have HST := Lib.hid hst
              have HX : Hid (∀ W, Calls Try.prog 65 #[.agg #[.slice s.h.a T.rule.heat.length s.h.cap, .slice s.w.a T.rule.wet.length s.w.cap, .int .i64 T.rule.own, .int .i64 T.rule.feed, .int .i64 T.rule.g0, .int .i64 T.rule.g1, .int .i64 T.rule.g2, .int .i64 T.rule.lost], .agg #[.int .i64 st.lo, .int .i64 st.hi], .int .i64 n] W fun e w' => e = .returned (.agg #[.int .i64 (least T.rule st n), .int .i64 (most T.rule st n)]) ∧ Below W.heap.size W w') := Lib.hid fun W => gains_any hgr (by omega) (by omega) W
              clear hst hgr hfr
              go_wp2_with (fail)
              refine region_ev [] [0, 1, 2, 3, 4, 5, 6, 7, 8, 9, 10, 11, 12] [] [13] (by kernel_rfl) (by kernel_rfl) (by intro c a d v w h; cases d <;> exact h) ?_
              simp only [picks, List.drop_succ_cons, List.drop_zero]
              repeat (refine wpQ0_step (fun K hK => ?_); go_simp; (refine hK _ ?_; clear hK K))
              refine wpQ0_nil ?_
              repeat ((with_reducible refine wpQ2_step (fun K hK => ?_)); go_simp; first | ((with_reducible refine hK _ ?_); clear hK K) | (apply Exists.intro; refine ⟨fun x => ?_, hK _ ?_⟩; (first | (with_reducible exact HX.out x.1)); clear hK K))
              refine wpQ2_nil ?_
              refine Events.none_ fun w3 hg3 => ?_
              simp only [picks, List.drop_succ_cons, List.drop_zero]
              have hx3 : Ext2 wr w3 := hg3
              have x8 := Ext2.blk hx3 x8
              have hs3 := Ext2.size hx3
              clear q8c q8f qrc qrf f0 f1 c0
              have q8c := cell_blk x8
              have q8f := frz_blk x8
              go_wp2_with (fail)
              go_roundw
              case rel =>
                refine ⟨k + 1, by go_num, by omega, below_succ HBAD.out HB1.out, ?_, by simp only [World.size_setCell]; omega, fun _ => ?_⟩
                · exact below_set (below_set (hE1.trans (Below.mono hx3 hE1.size)) (by omega)) (by omega)
                · have e1 : canOf T (intD l) (k + 1) = ⟨least T.rule st n, most T.rule st n⟩ := by rw [canOf, ← HST.out, ← HN.out]
                  rw [e1]
                  exact Eq.trans (blk_set (blk_set x8 _ _) _ _) rfl
              case measure => simp [intOf]; omega
            · have p2 : ¬ (k : Int) < (T.days.length : Int) := by omega
              go_wp2_with (fail)
              go_roundw
              case rel => exact ⟨k + 1, by go_num, by omega, below_succ HBAD.out HB1.out, hE1, by omega, fun h => absurd h (by omega)⟩
              case measure => simp [intOf]; omega
        · have hkk : k = T.days.length + 1 := by omega
          subst hkk
          have HV3 : Hid (V = (-1, 0)) := Lib.hid (by rw [HV2.out, ownI, firstDay_none HBAD.out])
          have hnl : ¬ ((T.days.length + 1 : Nat) : Int) < (l.length : Int) := by omega
          have hBr := hB1.trans (Below.mono hE1 hB1.size)
          clear hlen hbl hlt hk
          go_wp2_with (fail)
          go_ret2
          rw [HV3.out]
          exact ⟨rfl, hBr⟩
    · have hne : ((l.length : Int) != (T.days.length : Int) + 1) = true := by simp; omega
      have HV2 : Hid (V = (0, 2)) := Lib.hid (by rw [HV.out, if_neg (fun h => h rfl), if_pos hlen])
      clear hlen
      go_wp2_with (fail)
      go_ret2
      rw [HV2.out]
      exact ⟨rfl, hB1⟩
  · have hne : (er == 0) = false := by simp; omega
    have hne2 : (er != 0) = true := by simp; omega
    have HV2 : Hid (V = (0, er)) := Lib.hid (by rw [HV.out, if_pos h0])
    have HO : Hid (∀ W, Below w.heap.size w W → Calls Try.prog 50 #[.agg #[.slice s.h.a T.rule.heat.length s.h.cap, .slice s.w.a T.rule.wet.length s.w.cap, .int .i64 T.rule.own, .int .i64 T.rule.feed, .int .i64 T.rule.g0, .int .i64 T.rule.g1, .int .i64 T.rule.g2, .int .i64 T.rule.lost, .int .i64 T.first, .slice s.d.a T.days.length s.d.cap, .int .i64 T.start.lo, .int .i64 T.start.hi, .slice s.t.a T.tests.length s.t.cap]] W fun e w' => e = .returned (.tuple #[.pointer none, .int .i64 er]) ∧ Below W.heap.size W w') := Lib.hid fun W hW => by
      have h := open_no (HT.out.below hW) (fun h => h0 (HE.out.trans h)); rwa [← HE.out] at h
    clear h0
    go_enter Try.func38, Try.ntmps38
    go_wp2_with (fail)
    (with_reducible refine (HO.out _ ?_).mono ?_)
    · repeat' (first | exact Below.refl _ _ | assumption | refine below_drewN ?_ _ | refine Below.drew ?_ | refine Below.alloc ?_ (by first | assumption | omega | (simp <;> omega)) _ | refine Below.setCell ?_ (by first | assumption | omega | (simp <;> omega)) _ | refine Ext2.on (by assumption) ?_)
    rintro e w1 ⟨rfl, hb1⟩
    have hB1 : Below w.heap.size w w1 := Below.trans (by repeat' (first | exact Below.refl _ _ | assumption | refine below_drewN ?_ _ | refine Below.drew ?_ | refine Below.alloc ?_ (by first | assumption | omega | (simp <;> omega)) _ | refine Below.setCell ?_ (by first | assumption | omega | (simp <;> omega)) _ | refine Ext2.on (by assumption) ?_)) (hb1.mono (by simp))
    clear hb1
    go_wp2_with (fail)
    go_ret2
    rw [HV2.out]
    exact ⟨rfl, hB1⟩
end Go.Proofs.Ytfjbgcaogffiaaa
