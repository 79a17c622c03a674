/-
  ref.table, ref.vapour; Vapour, wet, of both sides.
-/
import Derived.Test.YtkidicfpfknfoaaDoorVVap
namespace Go.Proofs.YtkidicfpfknfoaaDoor
open Go.RowKit D
set_option linter.unusedVariables false
set_option linter.unusedSimpArgs false
attribute [local go_sem high] run_minI run_maxI
attribute [local go_sem] upon2 cls_cell cls_frozen forall_const exists_eq_left'
attribute [local go_sem] FirstUpon
set_option maxRecDepth 100000 in
set_option maxHeartbeats 2000000 in
theorem tableR_any (w : World) : Calls Tryd.prog 83 #[] w fun e w' => ∃ b, e = .returned (.slice (some ⟨b, 0, none⟩) 19 19) ∧ w'.heap[b]? = some (.cells tabA 3 (0, 0)) ∧ Below w.heap.size w w' := by
  go_enter Tryd.func83, Tryd.ntmps83
  go_wp2_with (fail)
  go_ret
  exact ⟨w.heap.size, rfl, blk_new _ _, below_alloc _ _⟩
set_option maxRecDepth 100000 in
set_option maxHeartbeats 2000000 in
theorem vapourR_any {t : Int} (w : World) (h1 : -300 ≤ t) (h2 : t ≤ 600) : Calls Tryd.prog 64 #[.int .i64 t] w fun e w' => e = .returned (.int .i64 (vap t)) ∧ Below w.heap.size w w' := by
  obtain ⟨i, r, hi, hr, hi18, hr50, hi17, hv⟩ := vap_at h1 h2
  rw [hv]
  obtain ⟨X, hX⟩ : ∃ X, X = intD tabD i := ⟨_, rfl⟩
  obtain ⟨Y, hY⟩ : ∃ Y, Y = intD tabD (i + 1) := ⟨_, rfl⟩
  have bX := tab_bd ⟨i, by omega⟩
  simp only [← hX] at bX
  rw [← hX, ← hY]
  have HX := Lib.hid hX; have HY := Lib.hid hY
  have bY : r ≠ 0 → 0 ≤ Y ∧ Y ≤ 130200 := fun h => by have := tab_bd ⟨i + 1, by have := hi17 h; omega⟩; rw [hY]; exact this
  have BY := Lib.hid bY; have HI17 := Lib.hid hi17
  clear hv hX hY bY hi17
  go_enter Tryd.func64, Tryd.ntmps64
  go_wp2_with (fail)
  (with_reducible refine (tableR_any _).mono ?_)
  rintro e w1 ⟨b, rfl, y3, hB2⟩
  have Y3 := Lib.hid y3
  have c0 := tab_cell y3 (i := i) (by omega)
  rw [← HX.out] at c0
  clear y3
  by_cases hr0 : r = 0
  · subst hr0
    have q5 : (0 : Int) ≤ (i : Int) := by omega
    have q6 : (i : Int) < 19 := by omega
    go_wp2_with (fail)
    go_ret
    exact ⟨rfl, hB2⟩
  · have bY := BY.out hr0
    have i17 := HI17.out hr0
    have hi1 : i + 1 < 19 := by omega
    have hi0 : i < 19 := by omega
    have hrp : 0 < r := by omega
    have HR0 := Lib.hid hr0
    have hXY : X ≤ Y := by have := tab_up ⟨i, by omega⟩; rw [HX.out, HY.out]; exact this
    have wy : IntKind.i64.wrap (Y - X) = Y - X := IntWalk.i64_in _ (by omega)
    have hml : -6510000 ≤ (Y - X) * (r : Int) ∧ (Y - X) * (r : Int) ≤ 6510000 := by
      have h5 : (0 : Int) ≤ (r : Int) := by omega
      rcases Int.le_total 0 (Y - X) with h | h
      · have a1 : (Y - X) * (r : Int) ≤ (Y - X) * 50 := Int.mul_le_mul_of_nonneg_left (by omega) h
        have a2 : 0 ≤ (Y - X) * (r : Int) := Int.mul_nonneg h h5
        omega
      · have a1 : (Y - X) * 50 ≤ (Y - X) * (r : Int) := Int.mul_le_mul_of_nonpos_left h (by omega)
        have a2 : (Y - X) * (r : Int) ≤ 0 := Int.mul_nonpos_of_nonpos_of_nonneg h h5
        omega
    obtain ⟨P, hP⟩ : ∃ P, P = (Y - X) * (r : Int) := ⟨_, rfl⟩
    have hP0 : 0 ≤ P := by rw [hP]; exact Int.mul_nonneg (by omega) (by omega)
    rw [← hP] at hml
    have q1 : IntKind.i64.wrap ((Y - X) * (r : Int)) = P := by rw [← hP]; exact IntWalk.i64_in _ (by omega)
    have q2 : P.tdiv 50 = P / 50 := Int.tdiv_eq_ediv_of_nonneg hP0
    obtain ⟨D, hD⟩ : ∃ D, D = P / 50 := ⟨_, rfl⟩
    have hD0 : 0 ≤ D ∧ D ≤ 200000 := by omega
    rw [← hD] at q2
    have q3 : IntKind.i64.wrap D = D := IntWalk.i64_in _ (by omega)
    have q4 : IntKind.i64.wrap (X + D) = X + D := IntWalk.i64_in _ (by omega)
    have q5 : (0 : Int) ≤ (i : Int) := by omega
    have q6 : (i : Int) < 19 := by omega
    have q7 : IntKind.i64.wrap ((i : Int) + 1) = (i : Int) + 1 := IntWalk.i64_in _ (by omega)
    have q8 : (0 : Int) ≤ (i : Int) + 1 := by omega
    have q9 : (i : Int) + 1 < 19 := by omega
    have q10 : ((i : Int) + 1).toNat = i + 1 := by omega
    have HP := Lib.hid hP; have HD := Lib.hid hD
    clear hP hD hml
    clear hr0
    have c1 := tab_cell Y3.out (i := i + 1) hi1
    rw [← HY.out] at c1
    go_wp2_with (fail)
    refine region_ev [] [0, 1, 2, 3, 4, 5, 6, 7, 8, 9, 10, 11, 12, 13, 14, 15, 16, 17, 18] [] [] (by kernel_rfl) (by kernel_rfl) (by intro c a d v w h; cases d <;> exact h) ?_
    simp only [picks, List.drop_succ_cons, List.drop_zero]
    repeat (refine wpQ0_step (fun K hK => ?_); go_simp; (refine hK _ ?_; clear hK K))
    refine wpQ0_nil ?_
    repeat ((with_reducible refine wpQ2_step (fun K hK => ?_)); go_simp; first | ((with_reducible refine hK _ ?_); clear hK K) | (apply Exists.intro; refine ⟨fun x => ?_, hK _ ?_⟩; (fail); clear hK K))
    refine wpQ2_nil ?_
    refine Events.none_ fun w3 hg3 => ?_
    simp only [picks, List.drop_succ_cons, List.drop_zero]
    have hB3 := below_ext hB2 hg3
    clear c0 c1
    go_wp2_with (fail)
    go_ret
    exact ⟨ret_int (by first | rw [if_neg HR0.out, HD.out, HP.out] | rw [HD.out, HP.out]), hB3⟩
theorem wet_eq {o t d A B : Int} (hA : vap t = A) (hB : vap o = B) : wet o t d = decide (1000 * B < d * A) := by unfold wet; rw [hA, hB]
set_option maxRecDepth 100000 in
set_option maxHeartbeats 2000000 in
theorem wet_any {o t d : Int} (w : World) (h1 : -300 ≤ o) (h2 : o ≤ 600) (h3 : -300 ≤ t) (h4 : t ≤ 600) (h5 : 0 ≤ d) (h6 : d ≤ 1000) : Calls Tryd.prog 67 #[.int .i64 o, .int .i64 t, .int .i64 d] w fun e w' => e = .returned (.bool (wet o t d)) ∧ Below w.heap.size w w' := by
  have HA := Lib.hid fun W => vapour_any (t := t) W h3 h4
  have HB := Lib.hid fun W => vapour_any (t := o) W h1 h2
  have bA := vap_in h3 h4; have bB := vap_in h1 h2
  obtain ⟨A, hA⟩ : ∃ A, A = vap t := ⟨_, rfl⟩
  obtain ⟨B, hB⟩ : ∃ B, B = vap o := ⟨_, rfl⟩
  rw [wet_eq hA.symm hB.symm]
  rw [← hA] at HA bA
  rw [← hB] at HB bB
  have hdA : 0 ≤ d * A ∧ d * A ≤ 130200000 := by
    have a1 : d * A ≤ 1000 * 130200 := Int.mul_le_mul h6 bA.2 (by omega) (by omega)
    have a2 : 0 ≤ d * A := Int.mul_nonneg h5 (by omega)
    omega
  obtain ⟨P, hP⟩ : ∃ P, P = d * A := ⟨_, rfl⟩
  rw [← hP] at hdA ⊢
  have q1 : wrap64 (d * A) = P := by rw [← hP]; exact IntWalk.wrap64_in _ (by omega)
  clear hA hB hP
  go_enter Tryd.func67, Tryd.ntmps67
  go_wp2_with (fail)
  (with_reducible refine (HA.out _).mono ?_)
  rintro e w1 ⟨rfl, hb1⟩
  go_wp2_with (fail)
  (with_reducible refine (HB.out _).mono ?_)
  rintro e w2 ⟨rfl, hb2⟩
  have hB2 := below_ext hb1 hb2
  go_wp2_with (fail)
  go_ret
  exact ⟨rfl, hB2⟩
set_option maxRecDepth 100000 in
set_option maxHeartbeats 2000000 in
theorem vapourA_any {t : Int} (w : World) : Calls Tryd.prog 20 #[.int .i64 t] w fun e w' => e = .returned (.tuple #[.int .i64 (if inB t (-300) 600 then vap t else 0), .int .i64 (if inB t (-300) 600 then 0 else 7)]) ∧ Below w.heap.size w w' := by
  obtain ⟨v, hv⟩ : ∃ v, v = outB t (-300) 600 := ⟨_, rfl⟩
  have hi : inB t (-300) 600 = !v := by rw [hv, outB_in, Bool.not_not]
  have HO : Hid (∀ W, Calls Tryd.prog 40 #[.int .i64 t, .int .i64 (-300), .int .i64 600] W fun e w' => e = .returned (.bool v) ∧ W = w') := Lib.hid fun W => by rw [hv]; exact out_any _ _ _ W
  obtain ⟨A, hA⟩ : ∃ A, A = vap t := ⟨_, rfl⟩
  rw [hi, ← hA]
  have HI := Lib.hid hi; have HA := Lib.hid hA
  clear hv hi hA
  go_enter Tryd.func20, Tryd.ntmps20
  go_wp2_with (fail)
  (with_reducible refine (HO.out _).mono ?_)
  rintro e w' ⟨rfl, rfl⟩
  cases v
  case true =>
    go_wp2_with (fail)
    go_ret2
    exact ⟨rfl, Below.refl _ _⟩
  case false =>
    have ht := inB_iff.1 HI.out
    have HV := Lib.hid fun W => vapour_any (t := t) W ht.1 ht.2
    rw [← HA.out] at HV
    go_wp2_with (fail)
    (with_reducible refine (HV.out _).mono ?_)
    rintro e w1 ⟨rfl, hb1⟩
    go_wp2_with (fail)
    go_ret2
    exact ⟨rfl, hb1⟩
set_option maxRecDepth 100000 in
set_option maxHeartbeats 2000000 in
theorem may_any {t : Span} {r : Rm} (w : World) (ht : TIn t) (hr : RIn r) : Calls Tryd.prog 73 #[.agg #[.int .i64 t.lo, .int .i64 t.hi], .agg #[.string r.name, .int .i64 r.tlo, .int .i64 r.thi, .int .i64 r.dlo, .int .i64 r.dhi, .bool r.people, .bool r.allows, .int .i64 r.most, .int .i64 r.x, .int .i64 r.y]] w fun e w' => e = .returned (.bool (mayS t r)) ∧ Below w.heap.size w w' := by
  have HW := Lib.hid fun W => wet_any (o := t.lo) (t := r.thi) (d := r.dhi) W ht.1 ht.2.1 hr.2.2.1 hr.2.2.2.1 hr.2.2.2.2.2.2.1 hr.2.2.2.2.2.2.2
  obtain ⟨v, hv⟩ : ∃ v, v = mayS t r := ⟨_, rfl⟩
  rw [← hv]
  rw [show wet t.lo r.thi r.dhi = v by rw [hv]; rfl] at HW
  clear hv ht hr
  go_enter Tryd.func73, Tryd.ntmps73
  go_wp2_with (fail)
  refine calls_name ?_
  intro w1 h1
  have hB1 : Below w.heap.size w w1 := by rw [h1]; exact Below.alloc (below_alloc _ _) (by simp) _
  clear h1
  (with_reducible refine (HW.out _).mono ?_)
  rintro e w2 ⟨rfl, hb2⟩
  have hB2 := below_ext hB1 hb2
  go_wp2_with (fail)
  go_ret
  exact ⟨rfl, hB2⟩
end Go.Proofs.YtkidicfpfknfoaaDoor
