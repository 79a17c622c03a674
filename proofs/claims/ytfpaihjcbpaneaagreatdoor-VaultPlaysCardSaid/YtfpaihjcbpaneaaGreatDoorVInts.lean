/-
  ref1.Ints: are two lists of integers equal?
-/
import Derived.Test.YtfpaihjcbpaneaaGreatDoorVExm
namespace Go.Proofs.YtfpaihjcbpaneaaGreatDoor
open Go.RowKit D
set_option linter.unusedVariables false
set_option linter.unusedSimpArgs false
attribute [local go_sem high] run_minI run_maxI
attribute [local go_sem] upon2 cls_cell cls_frozen forall_const exists_eq_left'
attribute [local go_sem] FirstUpon
set_option maxRecDepth 100000 in
set_option maxHeartbeats 8000000 in
theorem ints1_any {s t : Sl} {l m : List Int} {w : World} (hl : RowS w s 1 l.length (intC l)) (hm : RowS w t 1 m.length (intC m)) :
    Calls Tryz.prog 17 #[.slice s.a l.length s.cap, .slice t.a m.length t.cap] w fun e w' => e = .returned (.bool (decide (l = m))) ∧ Below w.heap.size w w' := by
  obtain ⟨a, cap⟩ := s
  obtain ⟨a', cap'⟩ := t
  have hc : l.length ≤ cap := hl.le
  have hcm : cap ≤ 9223372036854775807 := hl.max
  have hc' : m.length ≤ cap' := hm.le
  have hcm' : cap' ≤ 9223372036854775807 := hm.max
  have HL := Lib.hid hl; have HM := Lib.hid hm; clear hl hm
  by_cases hne : l.length = m.length
  · have HN := Lib.hid hne
    have hb : ((l.length : Int) != (m.length : Int)) = false := by simp [hne]
    clear hne
    go_enter Tryz.func17, Tryz.ntmps17
    go_wp2_with (fail)
    go_loopw [5] (fun i wr => ∃ k : Nat, i = .int .i64 k ∧ k ≤ l.length ∧ Below w.heap.size w wr ∧ ∀ j, j < k → intD l j = intD m j) (fun i _ => l.length - (intOf i).toNat)
    case atStart => exact ⟨0, rfl, by omega, Below.refl _ _, fun j h => absurd h (by omega)⟩
    case round =>
      obtain ⟨k, rfl, hk, hB, hall⟩ := hrel
      have HA := Lib.hid hall; have HB := Lib.hid hB; clear hall
      by_cases hlt : k < l.length
      · go_light
        obtain ⟨b, off, h1, x0⟩ := errs_row (HL.out.below hB) hlt
        obtain ⟨b', off', h2, y0⟩ := errs_row (HM.out.below hB) (i := k) (by have := HN.out; omega)
        dsimp only at h1 h2
        subst h1 h2
        have i0 : (0 : Int) ≤ (k : Int) := by omega
        have i1 : (k : Int) < (l.length : Int) := by omega
        have i2 : (k : Int) < (m.length : Int) := by have := HN.out; omega
        have w3' : IntKind.i64.wrap ((k : Int) + 1) = (k : Int) + 1 := IntWalk.i64_in _ (by omega)
        obtain ⟨u0, hu0⟩ : ∃ x, x = (intD l k) := ⟨_, rfl⟩
        obtain ⟨v0, hv0⟩ : ∃ x, x = (intD m k) := ⟨_, rfl⟩
        rw [← hu0] at x0; rw [← hv0] at y0
        have HX : Hid (intD l k = intD m k ↔ u0 = v0) := Lib.hid (by rw [hu0, hv0])
        clear hu0 hv0 hb hB
        go_wp2_with (fail)
        by_cases hq : u0 = v0
        · have HQ := Lib.hid (HX.out.2 hq)
          have hq1 : (u0 != v0) = false := by simp [hq]
          clear hq
          refine region_ev [] [0, 1, 2, 3, 4, 5, 6, 7, 8] [] [] (by kernel_rfl) (by kernel_rfl) (by intro c a d v w h; cases d <;> exact h) ?_
          simp only [picks, List.drop_succ_cons, List.drop_zero]
          repeat (refine wpQ0_step (fun K hK => ?_); go_simp; (refine hK _ ?_; clear hK K))
          refine wpQ0_nil ?_
          repeat ((with_reducible refine wpQ2_step (fun K hK => ?_)); go_simp; first | ((with_reducible refine hK _ ?_); clear hK K) | (apply Exists.intro; refine ⟨fun x => ?_, hK _ ?_⟩; (fail); clear hK K))
          refine wpQ2_nil ?_
          refine Events.none_ fun w3 hg3 => ?_
          simp only [picks, List.drop_succ_cons, List.drop_zero]
          have hB3 := below_ext HB.out hg3
          clear x0 y0 hg3
          go_wp2_with (fail)
          go_roundw
          case rel => exact ⟨k + 1, by go_num, by omega, hB3, fun j hj => by
            by_cases hjk : j = k
            · rw [hjk]; exact HQ.out
            · exact HA.out j (by omega)⟩
          case measure => simp [intOf]; omega
        · have hne : l ≠ m := fun he => hq (HX.out.1 (by rw [he]))
          have HNE := Lib.hid hne
          have hq1 : (u0 != v0) = true := by simp [hq]
          clear hq hne
          refine region_ev [] [0, 1, 2, 3, 4, 5, 6, 7, 8] [] [] (by kernel_rfl) (by kernel_rfl) (by intro c a d v w h; cases d <;> exact h) ?_
          simp only [picks, List.drop_succ_cons, List.drop_zero]
          repeat (refine wpQ0_step (fun K hK => ?_); go_simp; (refine hK _ ?_; clear hK K))
          refine wpQ0_nil ?_
          repeat ((with_reducible refine wpQ2_step (fun K hK => ?_)); go_simp; first | ((with_reducible refine hK _ ?_); clear hK K) | (apply Exists.intro; refine ⟨fun x => ?_, hK _ ?_⟩; (fail); clear hK K))
          refine wpQ2_nil ?_
          refine Events.none_ fun w3 hg3 => ?_
          simp only [picks, List.drop_succ_cons, List.drop_zero]
          have hB3 := below_ext HB.out hg3
          clear x0 y0 hg3
          go_wp2_with (fail)
          go_ret
          exact ⟨ret_bool (by rw [decide_eq_false HNE.out]), hB3⟩
      · obtain rfl : k = l.length := by omega
        have r1 : ¬ (l.length : Int) < (l.length : Int) := by omega
        clear hb
        go_wp2_with (fail)
        go_ret
        exact ⟨ret_bool (decide_eq_true (errs_ext HN.out HA.out)).symm, HB.out⟩
  · have hb : ((l.length : Int) != (m.length : Int)) = true := by simp; omega
    have hd : l ≠ m := fun he => hne (by rw [he])
    have HD := Lib.hid hd
    clear hd
    go_enter Tryz.func17, Tryz.ntmps17
    go_wp2_with (fail)
    go_ret
    exact ⟨ret_bool (decide_eq_false HD.out).symm, Below.refl _ _⟩
end Go.Proofs.YtfpaihjcbpaneaaGreatDoor
