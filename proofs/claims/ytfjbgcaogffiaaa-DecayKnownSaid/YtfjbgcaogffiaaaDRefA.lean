/-
  The reference's small functions of the decay layer: what each call returns.
  The reference's checks of the decay layer: what each call returns.
  The reference's Check of the decay layer: what the call returns.
-/
import Derived.Test.YtfjbgcaogffiaaaDBase
namespace Go.Proofs.Ytfjbgcaogffiaaa
open Go.RowKit D
set_option linter.unusedVariables false
set_option linter.unusedSimpArgs false
attribute [local go_sem high] run_minI run_maxI
theorem curve_any {s : Sl} {l : List Pt} (lo hi : Int) {w : World} (hl : PtsS w s l) :
    Calls Try.prog 63 #[.slice s.a l.length s.cap, .int .i64 lo, .int .i64 hi] w fun e w' => e = .returned (.tuple #[.int .i64 (D.curve l lo hi).1, .int .i64 (D.curve l lo hi).2]) ∧ ∃ q, w' = w.drewN q := by
  obtain ⟨a, cap⟩ := s
  have hc : l.length ≤ cap := hl.le
  have hm : cap ≤ 9223372036854775807 := hl.max
  have HL0 := Lib.hid hl; clear hl
  by_cases hlen : 2 ≤ l.length ∧ l.length ≤ 8
  · have hin : inB (l.length : Int) 2 8 = true := inB_t (by omega)
    go_enter Try.func63, Try.ntmps63
    go_wp2_with (go_at_call 54; refine (in_any _ _ _ _).mono ?_; rintro e w' ⟨rfl, rfl⟩)
    go_loopw [8] (fun i wr => ∃ k q : Nat, k ≤ l.length ∧ i = .int .i64 k ∧ wr = w.drewN q ∧ ∀ j, j < k → badPt lo hi l j = 0) (fun i _ => l.length - (intOf i).toNat)
    case atStart => exact ⟨0, 0, Nat.zero_le _, rfl, rfl, fun j h => absurd h (by omega)⟩
    case round =>
      obtain ⟨k, q, hk, rfl, rfl, hbad⟩ := hrel
      have HB := Lib.hid hbad; clear hbad
      by_cases hlt : k < l.length
      · obtain ⟨b, off, rfl, hc0, hc1⟩ := pts_at HL0.out hlt
        obtain ⟨px, hpx⟩ : ∃ x, x = (ptD l k).at_ := ⟨_, rfl⟩
        obtain ⟨pf, hpf⟩ : ∃ x, x = (ptD l k).fac := ⟨_, rfl⟩
        rw [← hpx] at hc0; rw [← hpf] at hc1
        have HX := Lib.hid hpx; clear hpx
        have HF := Lib.hid hpf; clear hpf
        by_cases g1 : inB px lo hi = true
        · by_cases g2 : inB pf 0 1000 = true
          · have hg := And.intro (inB_of g1) (inB_of g2)
            have HG := Lib.hid hg; clear hg
            by_cases g3 : 0 < k
            · obtain ⟨b', off', he, hd0, hd1⟩ := pts_at HL0.out (i := k - 1) (by omega)
              obtain ⟨rfl, rfl⟩ : b' = b ∧ off' = off := by simpa using he.symm
              clear he
              obtain ⟨qx, hqx⟩ : ∃ x, x = (ptD l (k - 1)).at_ := ⟨_, rfl⟩
              obtain ⟨qf, hqf⟩ : ∃ x, x = (ptD l (k - 1)).fac := ⟨_, rfl⟩
              rw [← hqx] at hd0; rw [← hqf] at hd1
              have HQX := Lib.hid hqx; clear hqx
              have HQF := Lib.hid hqf; clear hqf
              have pw1 : IntKind.i64.wrap ((k : Int) - 1) = (k : Int) - 1 := IntWalk.i64_in _ (by omega)
              have pw2 : (1 : Int) ≤ (k : Int) := by omega
              have pw3 : ((k : Int) - 1).toNat = k - 1 := by omega
              have hk0 : decide ((0 : Int) < (k : Int)) = true := by simp; omega
              have w4 : (k : Int) - 1 < (l.length : Int) := by omega
              have w5 : (k : Int) < (l.length : Int) := by omega
              go_wp2_with (go_at_call 54; refine (in_any _ _ _ _).mono ?_; rintro e w' ⟨rfl, rfl⟩)
              by_cases g4 : decide (px ≤ qx) = true
              · go_quiet (fail)
                go_wp2
                go_ret2
                rw [curve_at hlen HB.out hlt (badPt_2 HX.out HF.out HQX.out HQF.out HG.out g3 (.inl (by simpa using g4))) (by omega)]
                exact ⟨rfl, _, World.drewN_drewN _ _ _⟩
              · go_quiet (fail)
                go_wp2
                · have h5 : pf < qf := by assumption
                  go_ret2
                  rw [curve_at hlen HB.out hlt (badPt_2 HX.out HF.out HQX.out HQF.out HG.out g3 (.inr h5)) (by omega)]
                  exact ⟨rfl, _, World.drewN_drewN _ _ _⟩
                · have h5 : ¬ pf < qf := by omega
                  go_roundw
                  case rel => exact ⟨k + 1, _, by omega, by go_num, rfl, below_succ HB.out (badPt_0 HX.out HF.out HQX.out HQF.out HG.out (fun h => h.elim (by simpa using g4) h5))⟩
                  case measure => simp [intOf]; omega
            · have hk0 : decide ((0 : Int) < (k : Int)) = false := by simp; omega
              go_wp2_with (go_at_call 54; refine (in_any _ _ _ _).mono ?_; rintro e w' ⟨rfl, rfl⟩)
              go_quiet (fail)
              go_wp2
              go_roundw
              case rel =>
                obtain rfl : k = 0 := by omega
                exact ⟨1, _, by omega, by go_num, rfl, below_succ HB.out (badPt_00 HX.out HF.out HG.out)⟩
              case measure => simp [intOf]; omega
          · go_wp2_with (go_at_call 54; refine (in_any _ _ _ _).mono ?_; rintro e w' ⟨rfl, rfl⟩)
            go_ret2
            rw [curve_at hlen HB.out hlt (badPt_7 HX.out HF.out (fun h => g2 (inB_t h.2))) (by omega)]
            exact ⟨rfl, _, rfl⟩
        · go_wp2_with (go_at_call 54; refine (in_any _ _ _ _).mono ?_; rintro e w' ⟨rfl, rfl⟩)
          go_ret2
          rw [curve_at hlen HB.out hlt (badPt_7 HX.out HF.out (fun h => g1 (inB_t h.1))) (by omega)]
          exact ⟨rfl, _, rfl⟩
      · go_wp2
        go_ret2
        obtain rfl : k = l.length := by omega
        rw [curve_ok hlen HB.out]
        exact ⟨rfl, _, rfl⟩
  · have hin : inB (l.length : Int) 2 8 = false := inB_f (by omega)
    have hcv : D.curve l lo hi = (0, 3) := by rw [D.curve, if_neg hlen]
    have H := Lib.hid hcv; clear hcv
    go_enter Try.func63, Try.ntmps63
    go_wp2_with (go_at_call 54; refine (in_any _ _ _ _).mono ?_; rintro e w' ⟨rfl, rfl⟩)
    go_ret2
    rw [H.out]
    exact ⟨rfl, 0, rfl⟩
end Go.Proofs.Ytfjbgcaogffiaaa
namespace Go.Proofs.Ytfjbgcaogffiaaa
open Go.RowKit D
set_option linter.unusedVariables false
set_option linter.unusedSimpArgs false
attribute [local go_sem high] run_minI run_maxI
theorem level_any (n : Int) (w : World) : Calls Try.prog 59 #[.int .i64 n] w fun e w' => e = .returned (.bool (inB n 0 1000000)) ∧ w = w' := by
  go_enter Try.func59, Try.ntmps59
  go_wp2_with (go_at_call 54; refine (in_any _ _ _ _).mono ?_; rintro e w' ⟨rfl, rfl⟩)
  go_ret
  exact ⟨rfl, rfl⟩
theorem levels_any (lo hi : Int) (w : World) : Calls Try.prog 56 #[.agg #[.int .i64 lo, .int .i64 hi]] w fun e w' => e = .returned (.int .i64 (levelsE lo hi)) ∧ Below w.heap.size w w' := by
  by_cases g1 : inB lo 0 1000000 = true
  · by_cases g2 : inB hi 0 1000000 = true
    · by_cases g3 : hi < lo
      · have hr : levelsE lo hi = 2 := by rw [levelsE, if_pos ⟨inB_of g1, inB_of g2⟩, if_pos g3]
        have H := Lib.hid hr; clear hr
        go_enter Try.func56, Try.ntmps56
        go_wp2_with (go_at_call 59; refine (level_any _ _).mono ?_; rintro e w' ⟨rfl, rfl⟩)
        go_ret
        rw [H.out]
        exact ⟨rfl, by repeat' (first | exact Below.refl _ _ | assumption | refine below_drewN ?_ _ | refine Below.drew ?_ | refine Below.alloc ?_ (by first | assumption | omega | (simp <;> omega)) _ | refine Below.setCell ?_ (by first | assumption | omega | (simp <;> omega)) _)⟩
      · have hr : levelsE lo hi = 0 := by rw [levelsE, if_pos ⟨inB_of g1, inB_of g2⟩, if_neg g3]
        have H := Lib.hid hr; clear hr
        go_enter Try.func56, Try.ntmps56
        go_wp2_with (go_at_call 59; refine (level_any _ _).mono ?_; rintro e w' ⟨rfl, rfl⟩)
        go_ret
        rw [H.out]
        exact ⟨rfl, by repeat' (first | exact Below.refl _ _ | assumption | refine below_drewN ?_ _ | refine Below.drew ?_ | refine Below.alloc ?_ (by first | assumption | omega | (simp <;> omega)) _ | refine Below.setCell ?_ (by first | assumption | omega | (simp <;> omega)) _)⟩
    · have hr : levelsE lo hi = 7 := by rw [levelsE, if_neg (fun h => g2 (inB_t h.2))]
      have H := Lib.hid hr; clear hr
      go_enter Try.func56, Try.ntmps56
      go_wp2_with (go_at_call 59; refine (level_any _ _).mono ?_; rintro e w' ⟨rfl, rfl⟩)
      go_ret
      rw [H.out]
      exact ⟨rfl, by repeat' (first | exact Below.refl _ _ | assumption | refine below_drewN ?_ _ | refine Below.drew ?_ | refine Below.alloc ?_ (by first | assumption | omega | (simp <;> omega)) _ | refine Below.setCell ?_ (by first | assumption | omega | (simp <;> omega)) _)⟩
  · have hr : levelsE lo hi = 7 := by rw [levelsE, if_neg (fun h => g1 (inB_t h.1))]
    have H := Lib.hid hr; clear hr
    go_enter Try.func56, Try.ntmps56
    go_wp2_with (go_at_call 59; refine (level_any _ _).mono ?_; rintro e w' ⟨rfl, rfl⟩)
    go_ret
    rw [H.out]
    exact ⟨rfl, by repeat' (first | exact Below.refl _ _ | assumption | refine below_drewN ?_ _ | refine Below.drew ?_ | refine Below.alloc ?_ (by first | assumption | omega | (simp <;> omega)) _ | refine Below.setCell ?_ (by first | assumption | omega | (simp <;> omega)) _)⟩
theorem climate_7 {d : Day} (h : ¬ ((((-300 ≤ d.tlo ∧ d.tlo ≤ 600) ∧ (-300 ≤ d.thi ∧ d.thi ≤ 600)) ∧ (0 ≤ d.dlo ∧ d.dlo ≤ 1000)) ∧ (0 ≤ d.dhi ∧ d.dhi ≤ 1000))) : climateE d = 7 := by rw [climateE, if_neg h]
theorem climate_any (d : Day) (w : World) : Calls Try.prog 55 #[.agg #[.int .i64 d.tlo, .int .i64 d.thi, .int .i64 d.dlo, .int .i64 d.dhi]] w fun e w' => e = .returned (.int .i64 (climateE d)) ∧ Below w.heap.size w w' := by
  by_cases g1 : inB d.tlo (-300) 600 = true
  · by_cases g2 : inB d.thi (-300) 600 = true
    · by_cases g3 : inB d.dlo 0 1000 = true
      · by_cases g4 : inB d.dhi 0 1000 = true
        · by_cases g5 : d.thi < d.tlo
          · have hr : climateE d = 2 := by rw [climateE, if_pos ⟨⟨⟨inB_of g1, inB_of g2⟩, inB_of g3⟩, inB_of g4⟩, if_pos (.inl g5)]
            have H := Lib.hid hr; clear hr
            go_enter Try.func55, Try.ntmps55
            go_wp2_with (go_at_call 54; refine (in_any _ _ _ _).mono ?_; rintro e w' ⟨rfl, rfl⟩)
            go_ret
            rw [H.out]
            exact ⟨rfl, by repeat' (first | exact Below.refl _ _ | assumption | refine below_drewN ?_ _ | refine Below.drew ?_ | refine Below.alloc ?_ (by first | assumption | omega | (simp <;> omega)) _ | refine Below.setCell ?_ (by first | assumption | omega | (simp <;> omega)) _)⟩
          · by_cases g6 : d.dhi < d.dlo
            · have hr : climateE d = 2 := by rw [climateE, if_pos ⟨⟨⟨inB_of g1, inB_of g2⟩, inB_of g3⟩, inB_of g4⟩, if_pos (.inr g6)]
              have H := Lib.hid hr; clear hr
              go_enter Try.func55, Try.ntmps55
              go_wp2_with (go_at_call 54; refine (in_any _ _ _ _).mono ?_; rintro e w' ⟨rfl, rfl⟩)
              go_ret
              rw [H.out]
              exact ⟨rfl, by repeat' (first | exact Below.refl _ _ | assumption | refine below_drewN ?_ _ | refine Below.drew ?_ | refine Below.alloc ?_ (by first | assumption | omega | (simp <;> omega)) _ | refine Below.setCell ?_ (by first | assumption | omega | (simp <;> omega)) _)⟩
            · have hr : climateE d = 0 := by rw [climateE, if_pos ⟨⟨⟨inB_of g1, inB_of g2⟩, inB_of g3⟩, inB_of g4⟩, if_neg (by omega)]
              have H := Lib.hid hr; clear hr
              go_enter Try.func55, Try.ntmps55
              go_wp2_with (go_at_call 54; refine (in_any _ _ _ _).mono ?_; rintro e w' ⟨rfl, rfl⟩)
              go_ret
              rw [H.out]
              exact ⟨rfl, by repeat' (first | exact Below.refl _ _ | assumption | refine below_drewN ?_ _ | refine Below.drew ?_ | refine Below.alloc ?_ (by first | assumption | omega | (simp <;> omega)) _ | refine Below.setCell ?_ (by first | assumption | omega | (simp <;> omega)) _)⟩
        · have H := Lib.hid (climate_7 (d := d) (fun h => g4 (inB_t h.2)))
          go_enter Try.func55, Try.ntmps55
          go_wp2_with (go_at_call 54; refine (in_any _ _ _ _).mono ?_; rintro e w' ⟨rfl, rfl⟩)
          go_ret
          rw [H.out]
          exact ⟨rfl, by repeat' (first | exact Below.refl _ _ | assumption | refine below_drewN ?_ _ | refine Below.drew ?_ | refine Below.alloc ?_ (by first | assumption | omega | (simp <;> omega)) _ | refine Below.setCell ?_ (by first | assumption | omega | (simp <;> omega)) _)⟩
      · have H := Lib.hid (climate_7 (d := d) (fun h => g3 (inB_t h.1.2)))
        go_enter Try.func55, Try.ntmps55
        go_wp2_with (go_at_call 54; refine (in_any _ _ _ _).mono ?_; rintro e w' ⟨rfl, rfl⟩)
        go_ret
        rw [H.out]
        exact ⟨rfl, by repeat' (first | exact Below.refl _ _ | assumption | refine below_drewN ?_ _ | refine Below.drew ?_ | refine Below.alloc ?_ (by first | assumption | omega | (simp <;> omega)) _ | refine Below.setCell ?_ (by first | assumption | omega | (simp <;> omega)) _)⟩
    · have H := Lib.hid (climate_7 (d := d) (fun h => g2 (inB_t h.1.1.2)))
      go_enter Try.func55, Try.ntmps55
      go_wp2_with (go_at_call 54; refine (in_any _ _ _ _).mono ?_; rintro e w' ⟨rfl, rfl⟩)
      go_ret
      rw [H.out]
      exact ⟨rfl, by repeat' (first | exact Below.refl _ _ | assumption | refine below_drewN ?_ _ | refine Below.drew ?_ | refine Below.alloc ?_ (by first | assumption | omega | (simp <;> omega)) _ | refine Below.setCell ?_ (by first | assumption | omega | (simp <;> omega)) _)⟩
  · have H := Lib.hid (climate_7 (d := d) (fun h => g1 (inB_t h.1.1.1)))
    go_enter Try.func55, Try.ntmps55
    go_wp2_with (go_at_call 54; refine (in_any _ _ _ _).mono ?_; rintro e w' ⟨rfl, rfl⟩)
    go_ret
    rw [H.out]
    exact ⟨rfl, by repeat' (first | exact Below.refl _ _ | assumption | refine below_drewN ?_ _ | refine Below.drew ?_ | refine Below.alloc ?_ (by first | assumption | omega | (simp <;> omega)) _ | refine Below.setCell ?_ (by first | assumption | omega | (simp <;> omega)) _)⟩
end Go.Proofs.Ytfjbgcaogffiaaa
namespace Go.Proofs.Ytfjbgcaogffiaaa
open Go.RowKit D
set_option linter.unusedVariables false
set_option linter.unusedSimpArgs false
attribute [local go_sem high] run_minI run_maxI
set_option maxHeartbeats 1600000 in
theorem check_any {R : Rule} {hh hv : Sl} {w : World} (hR : RuleAt w R hh hv) :
    Calls Try.prog 36 #[.agg #[.slice hh.a R.heat.length hh.cap, .slice hv.a R.wet.length hv.cap, .int .i64 R.own, .int .i64 R.feed, .int .i64 R.g0, .int .i64 R.g1, .int .i64 R.g2, .int .i64 R.lost]] w fun e w' => e = .returned (.tuple #[.int .i64 (D.check R).1, .int .i64 (D.check R).2.1, .int .i64 (D.check R).2.2]) ∧ Below w.heap.size w w' := by
  obtain ⟨i1, e1, h1⟩ : ∃ i e, D.curve R.heat (-300) 600 = (i, e) := ⟨_, _, rfl⟩
  obtain ⟨i2, e2, h2⟩ : ∃ i e, D.curve R.wet 0 1000 = (i, e) := ⟨_, _, rfl⟩
  have c1 : ∀ W : World, Below w.heap.size w W → Calls Try.prog 63 #[.slice hh.a R.heat.length hh.cap, .int .i64 (-300), .int .i64 600] W fun e w' => e = .returned (.tuple #[.int .i64 i1, .int .i64 e1]) ∧ ∃ q, w' = W.drewN q := fun W hb => by
    have := curve_any (-300) 600 (hR.heat.below hb); rw [h1] at this; exact this
  have c2 : ∀ W : World, Below w.heap.size w W → Calls Try.prog 63 #[.slice hv.a R.wet.length hv.cap, .int .i64 0, .int .i64 1000] W fun e w' => e = .returned (.tuple #[.int .i64 i2, .int .i64 e2]) ∧ ∃ q, w' = W.drewN q := fun W hb => by
    have := curve_any 0 1000 (hR.wet.below hb); rw [h2] at this; exact this
  have C1 := Lib.hid c1; clear c1
  have C2 := Lib.hid c2; clear c2
  clear hR
  by_cases z1 : e1 = 0
  · subst z1
    by_cases z2 : e2 = 0
    · subst z2
      by_cases g1 : inB R.own 0 100000 = true
      · by_cases g2 : inB R.feed 0 999999 = true
        · have hp : Part3 R := ⟨by rw [h1], by rw [h2], inB_of g1, inB_of g2⟩
          have HP := Lib.hid hp; clear hp
          clear h1 h2
          go_enter Try.func36, Try.ntmps36
          go_wp2_with (fail)
          refine (C1.out _ (by repeat' (first | exact Below.refl _ _ | assumption | refine below_drewN ?_ _ | refine Below.drew ?_ | refine Below.alloc ?_ (by first | assumption | omega | (simp <;> omega)) _ | refine Below.setCell ?_ (by first | assumption | omega | (simp <;> omega)) _))).mono ?_; rintro e w' ⟨rfl, q1, rfl⟩
          go_wp2_with (fail)
          refine (C2.out _ (below_drewN (by repeat' (first | exact Below.refl _ _ | assumption | refine below_drewN ?_ _ | refine Below.drew ?_ | refine Below.alloc ?_ (by first | assumption | omega | (simp <;> omega)) _ | refine Below.setCell ?_ (by first | assumption | omega | (simp <;> omega)) _)) _)).mono ?_; rintro e w' ⟨rfl, q2, rfl⟩
          go_wp2_with (go_at_call 54; refine (in_any _ _ _ _).mono ?_; rintro e w' ⟨rfl, rfl⟩)
          clear C1 C2
          go_loopw [7] (fun i wr => ∃ k q : Nat, k ≤ 3 ∧ i = .int .i64 k ∧ wr = (w.alloc (.cells #[.slice hh.a R.heat.length hh.cap, .slice hv.a R.wet.length hv.cap, .int .i64 R.own, .int .i64 R.feed, .int .i64 R.g0, .int .i64 R.g1, .int .i64 R.g2, .int .i64 R.lost] 25)).drewN q ∧ ∀ j, j < k → badGrade R j = 0) (fun i _ => 3 - (intOf i).toNat)
          case atStart => exact ⟨0, _, by omega, rfl, rfl, fun j h => absurd h (by omega)⟩
          case round =>
            obtain ⟨k, q, hk, rfl, rfl, hbad⟩ := hrel
            have HB := Lib.hid hbad; clear hbad
            rcases (by omega : k = 0 ∨ k = 1 ∨ k = 2 ∨ k = 3) with rfl | rfl | rfl | rfl
            · by_cases g3 : inB R.g0 1 1000000 = true
              · have hk0 : decide ((0 : Int) < 0) = false := by simp
                go_wp2_with (go_at_call 54; refine (in_any _ _ _ _).mono ?_; rintro e w' ⟨rfl, rfl⟩)
                go_quiet (fail)
                go_wp2
                go_roundw
                case rel => exact ⟨1, _, by omega, by go_num, rfl, below_succ HB.out (badGrade_0 (inB_of g3) (by omega))⟩
                case measure => simp [intOf]
              · have H := Lib.hid (check_4 HP.out HB.out (by omega) (badGrade_7 (k := 0) (fun h => g3 (inB_t h))) (by omega))
                go_wp2_with (go_at_call 54; refine (in_any _ _ _ _).mono ?_; rintro e w' ⟨rfl, rfl⟩)
                go_ret3
                rw [H.out]
                exact ⟨rfl, by repeat' (first | exact Below.refl _ _ | assumption | refine below_drewN ?_ _ | refine Below.drew ?_ | refine Below.alloc ?_ (by first | assumption | omega | (simp <;> omega)) _ | refine Below.setCell ?_ (by first | assumption | omega | (simp <;> omega)) _)⟩
            · by_cases g3 : inB R.g1 1 1000000 = true
              · by_cases g4 : R.g1 ≤ R.g0
                · have H := Lib.hid (check_4 HP.out HB.out (by omega) (badGrade_2 (k := 1) (inB_of g3) (by omega) g4) (by omega))
                  go_wp2_with (go_at_call 54; refine (in_any _ _ _ _).mono ?_; rintro e w' ⟨rfl, rfl⟩)
                  go_quiet (fail)
                  go_wp2
                  go_ret3
                  rw [H.out]
                  exact ⟨rfl, by repeat' (first | exact Below.refl _ _ | assumption | refine below_drewN ?_ _ | refine Below.drew ?_ | refine Below.alloc ?_ (by first | assumption | omega | (simp <;> omega)) _ | refine Below.setCell ?_ (by first | assumption | omega | (simp <;> omega)) _)⟩
                · go_wp2_with (go_at_call 54; refine (in_any _ _ _ _).mono ?_; rintro e w' ⟨rfl, rfl⟩)
                  go_quiet (fail)
                  go_wp2
                  go_roundw
                  case rel => exact ⟨2, _, by omega, by go_num, rfl, below_succ HB.out (badGrade_0 (k := 1) (inB_of g3) (fun h => Int.not_le.2 g4 h.2))⟩
                  case measure => simp [intOf]
              · have H := Lib.hid (check_4 HP.out HB.out (by omega) (badGrade_7 (k := 1) (fun h => g3 (inB_t h))) (by omega))
                go_wp2_with (go_at_call 54; refine (in_any _ _ _ _).mono ?_; rintro e w' ⟨rfl, rfl⟩)
                go_ret3
                rw [H.out]
                exact ⟨rfl, by repeat' (first | exact Below.refl _ _ | assumption | refine below_drewN ?_ _ | refine Below.drew ?_ | refine Below.alloc ?_ (by first | assumption | omega | (simp <;> omega)) _ | refine Below.setCell ?_ (by first | assumption | omega | (simp <;> omega)) _)⟩
            · by_cases g3 : inB R.g2 1 1000000 = true
              · by_cases g4 : R.g2 ≤ R.g1
                · have H := Lib.hid (check_4 HP.out HB.out (by omega) (badGrade_2 (k := 2) (inB_of g3) (by omega) g4) (by omega))
                  go_wp2_with (go_at_call 54; refine (in_any _ _ _ _).mono ?_; rintro e w' ⟨rfl, rfl⟩)
                  go_quiet (fail)
                  go_wp2
                  go_ret3
                  rw [H.out]
                  exact ⟨rfl, by repeat' (first | exact Below.refl _ _ | assumption | refine below_drewN ?_ _ | refine Below.drew ?_ | refine Below.alloc ?_ (by first | assumption | omega | (simp <;> omega)) _ | refine Below.setCell ?_ (by first | assumption | omega | (simp <;> omega)) _)⟩
                · go_wp2_with (go_at_call 54; refine (in_any _ _ _ _).mono ?_; rintro e w' ⟨rfl, rfl⟩)
                  go_quiet (fail)
                  go_wp2
                  go_roundw
                  case rel => exact ⟨3, _, by omega, by go_num, rfl, below_succ HB.out (badGrade_0 (k := 2) (inB_of g3) (fun h => Int.not_le.2 g4 h.2))⟩
                  case measure => simp [intOf]
              · have H := Lib.hid (check_4 HP.out HB.out (by omega) (badGrade_7 (k := 2) (fun h => g3 (inB_t h))) (by omega))
                go_wp2_with (go_at_call 54; refine (in_any _ _ _ _).mono ?_; rintro e w' ⟨rfl, rfl⟩)
                go_ret3
                rw [H.out]
                exact ⟨rfl, by repeat' (first | exact Below.refl _ _ | assumption | refine below_drewN ?_ _ | refine Below.drew ?_ | refine Below.alloc ?_ (by first | assumption | omega | (simp <;> omega)) _ | refine Below.setCell ?_ (by first | assumption | omega | (simp <;> omega)) _)⟩
            · by_cases g5 : inB R.lost 1 1000000 = true
              · have hf : D.check R = (0, 0, 0) := by rw [check_5 HP.out HB.out, if_neg (fun h => h (inB_of g5))]
                have H := Lib.hid hf; clear hf
                go_wp2_with (go_at_call 54; refine (in_any _ _ _ _).mono ?_; rintro e w' ⟨rfl, rfl⟩)
                go_ret3
                rw [H.out]
                exact ⟨rfl, by repeat' (first | exact Below.refl _ _ | assumption | refine below_drewN ?_ _ | refine Below.drew ?_ | refine Below.alloc ?_ (by first | assumption | omega | (simp <;> omega)) _ | refine Below.setCell ?_ (by first | assumption | omega | (simp <;> omega)) _)⟩
              · have hf : D.check R = (5, 0, 7) := by rw [check_5 HP.out HB.out, if_pos (fun h => g5 (inB_t h))]
                have H := Lib.hid hf; clear hf
                go_wp2_with (go_at_call 54; refine (in_any _ _ _ _).mono ?_; rintro e w' ⟨rfl, rfl⟩)
                go_ret3
                rw [H.out]
                exact ⟨rfl, by repeat' (first | exact Below.refl _ _ | assumption | refine below_drewN ?_ _ | refine Below.drew ?_ | refine Below.alloc ?_ (by first | assumption | omega | (simp <;> omega)) _ | refine Below.setCell ?_ (by first | assumption | omega | (simp <;> omega)) _)⟩
        · have H := Lib.hid (check_3 h1 h2 (fun h => g2 (inB_t h.2)))
          clear h1 h2
          go_enter Try.func36, Try.ntmps36
          go_wp2_with (fail)
          refine (C1.out _ (by repeat' (first | exact Below.refl _ _ | assumption | refine below_drewN ?_ _ | refine Below.drew ?_ | refine Below.alloc ?_ (by first | assumption | omega | (simp <;> omega)) _ | refine Below.setCell ?_ (by first | assumption | omega | (simp <;> omega)) _))).mono ?_; rintro e w' ⟨rfl, q1, rfl⟩
          go_wp2_with (fail)
          refine (C2.out _ (below_drewN (by repeat' (first | exact Below.refl _ _ | assumption | refine below_drewN ?_ _ | refine Below.drew ?_ | refine Below.alloc ?_ (by first | assumption | omega | (simp <;> omega)) _ | refine Below.setCell ?_ (by first | assumption | omega | (simp <;> omega)) _)) _)).mono ?_; rintro e w' ⟨rfl, q2, rfl⟩
          go_wp2_with (go_at_call 54; refine (in_any _ _ _ _).mono ?_; rintro e w' ⟨rfl, rfl⟩)
          go_ret3
          rw [H.out]
          exact ⟨rfl, by repeat' (first | exact Below.refl _ _ | assumption | refine below_drewN ?_ _ | refine Below.drew ?_ | refine Below.alloc ?_ (by first | assumption | omega | (simp <;> omega)) _ | refine Below.setCell ?_ (by first | assumption | omega | (simp <;> omega)) _)⟩
      · have H := Lib.hid (check_3 h1 h2 (fun h => g1 (inB_t h.1)))
        clear h1 h2
        go_enter Try.func36, Try.ntmps36
        go_wp2_with (fail)
        refine (C1.out _ (by repeat' (first | exact Below.refl _ _ | assumption | refine below_drewN ?_ _ | refine Below.drew ?_ | refine Below.alloc ?_ (by first | assumption | omega | (simp <;> omega)) _ | refine Below.setCell ?_ (by first | assumption | omega | (simp <;> omega)) _))).mono ?_; rintro e w' ⟨rfl, q1, rfl⟩
        go_wp2_with (fail)
        refine (C2.out _ (below_drewN (by repeat' (first | exact Below.refl _ _ | assumption | refine below_drewN ?_ _ | refine Below.drew ?_ | refine Below.alloc ?_ (by first | assumption | omega | (simp <;> omega)) _ | refine Below.setCell ?_ (by first | assumption | omega | (simp <;> omega)) _)) _)).mono ?_; rintro e w' ⟨rfl, q2, rfl⟩
        go_wp2_with (go_at_call 54; refine (in_any _ _ _ _).mono ?_; rintro e w' ⟨rfl, rfl⟩)
        go_ret3
        rw [H.out]
        exact ⟨rfl, by repeat' (first | exact Below.refl _ _ | assumption | refine below_drewN ?_ _ | refine Below.drew ?_ | refine Below.alloc ?_ (by first | assumption | omega | (simp <;> omega)) _ | refine Below.setCell ?_ (by first | assumption | omega | (simp <;> omega)) _)⟩
    · have H := Lib.hid (check_2 h1 h2 z2)
      have b1 : (e2 != 0) = true := by simpa using z2
      clear h1 h2
      go_enter Try.func36, Try.ntmps36
      go_wp2_with (fail)
      refine (C1.out _ (by repeat' (first | exact Below.refl _ _ | assumption | refine below_drewN ?_ _ | refine Below.drew ?_ | refine Below.alloc ?_ (by first | assumption | omega | (simp <;> omega)) _ | refine Below.setCell ?_ (by first | assumption | omega | (simp <;> omega)) _))).mono ?_; rintro e w' ⟨rfl, q1, rfl⟩
      go_wp2_with (fail)
      refine (C2.out _ (below_drewN (by repeat' (first | exact Below.refl _ _ | assumption | refine below_drewN ?_ _ | refine Below.drew ?_ | refine Below.alloc ?_ (by first | assumption | omega | (simp <;> omega)) _ | refine Below.setCell ?_ (by first | assumption | omega | (simp <;> omega)) _)) _)).mono ?_; rintro e w' ⟨rfl, q2, rfl⟩
      go_wp2_with (go_at_call 54; refine (in_any _ _ _ _).mono ?_; rintro e w' ⟨rfl, rfl⟩)
      go_ret3
      rw [H.out]
      exact ⟨rfl, by repeat' (first | exact Below.refl _ _ | assumption | refine below_drewN ?_ _ | refine Below.drew ?_ | refine Below.alloc ?_ (by first | assumption | omega | (simp <;> omega)) _ | refine Below.setCell ?_ (by first | assumption | omega | (simp <;> omega)) _)⟩
  · have H := Lib.hid (check_1 h1 z1)
    have b1 : (e1 != 0) = true := by simpa using z1
    clear h1 h2
    go_enter Try.func36, Try.ntmps36
    go_wp2_with (fail)
    refine (C1.out _ (by repeat' (first | exact Below.refl _ _ | assumption | refine below_drewN ?_ _ | refine Below.drew ?_ | refine Below.alloc ?_ (by first | assumption | omega | (simp <;> omega)) _ | refine Below.setCell ?_ (by first | assumption | omega | (simp <;> omega)) _))).mono ?_; rintro e w' ⟨rfl, q1, rfl⟩
    go_wp2_with (go_at_call 54; refine (in_any _ _ _ _).mono ?_; rintro e w' ⟨rfl, rfl⟩)
    go_ret3
    rw [H.out]
    exact ⟨rfl, by repeat' (first | exact Below.refl _ _ | assumption | refine below_drewN ?_ _ | refine Below.drew ?_ | refine Below.alloc ?_ (by first | assumption | omega | (simp <;> omega)) _ | refine Below.setCell ?_ (by first | assumption | omega | (simp <;> omega)) _)⟩
end Go.Proofs.Ytfjbgcaogffiaaa
