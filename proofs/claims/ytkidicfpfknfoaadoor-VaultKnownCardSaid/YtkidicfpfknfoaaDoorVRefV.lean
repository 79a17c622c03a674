/-
  The reference's Vapour and Dew.
-/
import Derived.Test.YtkidicfpfknfoaaDoorVExm
namespace Go.Proofs.YtkidicfpfknfoaaDoor
open Go.RowKit D
set_option linter.unusedVariables false
set_option linter.unusedSimpArgs false
attribute [local go_sem high] run_minI run_maxI
attribute [local go_sem] upon2 cls_cell cls_frozen forall_const exists_eq_left'
attribute [local go_sem] FirstUpon
set_option maxRecDepth 100000 in
set_option maxHeartbeats 2000000 in
theorem vapourRA_any {t : Int} (w : World) : Calls Tryd.prog 21 #[.int .i64 t] w fun e w' => e = .returned (.tuple #[.int .i64 (if inB t (-300) 600 then vap t else 0), .int .i64 (if inB t (-300) 600 then 0 else 7)]) ∧ Below w.heap.size w w' := by
  obtain ⟨v, hv⟩ : ∃ v, v = inB t (-300) 600 := ⟨_, rfl⟩
  have HO : Hid (∀ W, Calls Tryd.prog 63 #[.int .i64 t] W fun e w' => e = .returned (.bool v) ∧ W = w') := Lib.hid fun W => by rw [hv]; exact temp_any _ W
  obtain ⟨A, hA⟩ : ∃ A, A = vap t := ⟨_, rfl⟩
  rw [← hv, ← hA]
  have HI := Lib.hid hv; have HA := Lib.hid hA
  clear hv hA
  go_enter Tryd.func21, Tryd.ntmps21
  go_wp2_with (fail)
  (with_reducible refine (HO.out _).mono ?_)
  rintro e w' ⟨rfl, rfl⟩
  cases v
  case false =>
    go_wp2_with (fail)
    go_ret2
    exact ⟨rfl, Below.refl _ _⟩
  case true =>
    have ht := inB_iff.1 HI.out.symm
    have HV := Lib.hid fun W => vapourR_any (t := t) W ht.1 ht.2
    rw [← HA.out] at HV
    go_wp2_with (fail)
    (with_reducible refine (HV.out _).mono ?_)
    rintro e w1 ⟨rfl, hb1⟩
    go_wp2_with (fail)
    go_ret2
    exact ⟨rfl, hb1⟩
theorem dewK {t d : Int} {k : Nat} (hk : k ≤ (t + 300).toNat) (hall : ∀ i, i < k → wet (-300 + (i : Int)) t d = true) (hend : wet (-300 + (k : Int)) t d = false) : dewP t d = -300 + (k : Int) := by
  unfold dewP
  rcases Nat.lt_or_ge k (t + 300).toNat with h | h
  · rw [firstN_at (k := k) (fun i hi => by rw [hall i hi]; rfl) (by rw [hend]; rfl) h]
  · obtain rfl : k = (t + 300).toNat := by omega
    rw [firstN_none (fun i hi => by rw [hall i hi]; rfl)]
set_option maxRecDepth 100000 in
set_option maxHeartbeats 2000000 in
theorem dewRA_any {t d : Int} (w : World) : Calls Tryd.prog 23 #[.int .i64 t, .int .i64 d] w fun e w' => e = .returned (.tuple #[.int .i64 (dewR t d), .int .i64 (dewE t d)]) ∧ Below w.heap.size w w' := by
  obtain ⟨v1, hv1⟩ : ∃ v, v = inB t (-300) 600 := ⟨_, rfl⟩
  obtain ⟨v2, hv2⟩ : ∃ v, v = inB d 0 1000 := ⟨_, rfl⟩
  have H1 : Hid (∀ W, Calls Tryd.prog 63 #[.int .i64 t] W fun e w' => e = .returned (.bool v1) ∧ W = w') := Lib.hid fun W => by rw [hv1]; exact temp_any _ W
  have H2 : Hid (∀ W, Calls Tryd.prog 50 #[.int .i64 d, .int .i64 0, .int .i64 1000] W fun e w' => e = .returned (.bool v2) ∧ W = w') := Lib.hid fun W => by rw [hv2]; exact in_any _ _ _ W
  obtain ⟨R, hR⟩ : ∃ R, R = dewR t d := ⟨_, rfl⟩
  obtain ⟨E, hE⟩ : ∃ E, E = dewE t d := ⟨_, rfl⟩
  rw [← hR, ← hE]
  unfold dewR at hR
  unfold dewE at hE
  rw [← hv1, ← hv2] at hR hE
  have HR := Lib.hid hR; have HE := Lib.hid hE; have HI1 := Lib.hid hv1; have HI2 := Lib.hid hv2
  clear hv1 hv2 hR hE
  go_enter Tryd.func23, Tryd.ntmps23
  go_wp2_with (fail)
  (with_reducible refine (H1.out _).mono ?_)
  rintro e w' ⟨rfl, rfl⟩
  cases v1
  case false =>
    go_wp2_with (fail)
    go_ret2
    exact ⟨by rw [HR.out, HE.out]; rfl, Below.refl _ _⟩
  go_wp2_with (fail)
  (with_reducible refine (H2.out _).mono ?_)
  rintro e w' ⟨rfl, rfl⟩
  cases v2
  case false =>
    go_wp2_with (fail)
    go_ret2
    exact ⟨by rw [HR.out, HE.out]; rfl, Below.refl _ _⟩
  have ht := inB_iff.1 HI1.out.symm
  have hd := inB_iff.1 HI2.out.symm
  obtain ⟨t1, t2⟩ := ht
  obtain ⟨d1, d2⟩ := hd
  obtain ⟨A, hA⟩ : ∃ A, A = vap t := ⟨_, rfl⟩
  have HA := Lib.hid hA
  have HVT : Hid (∀ W, Calls Tryd.prog 64 #[.int .i64 t] W fun e w' => e = .returned (.int .i64 A) ∧ Below W.heap.size W w') := Lib.hid fun W => by rw [hA]; exact vapourR_any W t1 t2
  have bA : 450 ≤ A ∧ A ≤ 130200 := by rw [hA]; exact vap_in t1 t2
  obtain ⟨P, hP⟩ : ∃ P, P = d * A := ⟨_, rfl⟩
  have bP : 0 ≤ P ∧ P ≤ 130200000 := by
    have a1 : d * A ≤ 1000 * 130200 := Int.mul_le_mul d2 bA.2 (by omega) (by omega)
    have a2 : 0 ≤ d * A := Int.mul_nonneg d1 (by omega)
    omega
  have hPA : P ≤ 1000 * A := by
    have a1 : d * A ≤ 1000 * A := Int.mul_le_mul_of_nonneg_right d2 (by omega)
    omega
  have q1 : IntKind.i64.wrap (d * A) = P := by rw [← hP]; exact IntWalk.i64_in _ (by omega)
  have HP := Lib.hid hP; have HT1 := Lib.hid t1; have HT2 := Lib.hid t2
  clear hA hP
  go_wp2_with (fail)
  go_loopw [6] (fun z wr => ∃ k : Nat, z = .int .i64 (-300 + (k : Int)) ∧ k ≤ (t + 300).toNat ∧ Below w.heap.size w wr ∧ ∀ i, i < k → wet (-300 + (i : Int)) t d = true) (fun z _ => (600 - intOf z).toNat)
  case atStart => exact ⟨0, rfl, by omega, Below.refl _ _, fun i h => absurd h (by omega)⟩
  case round =>
    obtain ⟨k, rfl, hk, hB, hall⟩ := hrel
    have HB := Lib.hid hB; have HAL := Lib.hid hall
    clear hB hall
    have hz : -300 + (k : Int) ≤ t := by omega
    obtain ⟨z, hzz⟩ : ∃ z, z = -300 + (k : Int) := ⟨_, rfl⟩
    rw [← hzz]
    have hz2 : z ≤ t := by omega
    have hz1 : -300 ≤ z := by omega
    obtain ⟨B, hBv⟩ : ∃ B, B = vap z := ⟨_, rfl⟩
    have bB : 450 ≤ B ∧ B ≤ 130200 := by rw [hBv]; exact vap_in hz1 (by omega)
    have hwe : wet z t d = decide (1000 * B < P) := by unfold wet; rw [← hBv, ← HA.out, HP.out]
    have HV : Hid (∀ W, Calls Tryd.prog 64 #[.int .i64 z] W fun e w' => e = .returned (.int .i64 B) ∧ Below W.heap.size W w') := Lib.hid fun W => by rw [hBv]; exact vapourR_any W hz1 (by omega)
    have q2 : IntKind.i64.wrap (1000 * B) = 1000 * B := IntWalk.i64_in _ (by omega)
    have q3 : IntKind.i64.wrap (z + 1) = z + 1 := IntWalk.i64_in _ (by omega)
    have HZZ := Lib.hid hzz; have HWE := Lib.hid hwe; have HBV := Lib.hid hBv
    clear hzz hwe hBv hz
    by_cases hlt : 1000 * B < P
    · have hd1 : decide (1000 * B < P) = true := decide_eq_true hlt
      have hzt : z < t := by
        rcases Int.lt_or_le z t with h | h
        · exact h
        · have e : z = t := by omega
          have : B = A := by rw [HBV.out, HA.out, e]
          omega
      go_wp2_with (fail)
      (with_reducible refine (HV.out _).mono ?_)
      rintro e w1 ⟨rfl, hb1⟩
      go_wp2_with (fail)
      (with_reducible refine (HVT.out _).mono ?_)
      rintro e w2 ⟨rfl, hb2⟩
      have HB2 := Lib.hid (below_ext (below_ext HB.out hb1) hb2)
      clear hb1 hb2
      go_wp2_with (fail)
      go_roundw
      case rel => exact ⟨k + 1, by have := HZZ.out; congr 1; omega, by have := HZZ.out; omega, HB2.out, fun i hi => by
        by_cases hik : i = k
        · rw [hik, ← HZZ.out, HWE.out]; exact hd1
        · exact HAL.out i (by omega)⟩
      case measure => simp only [intOf]; have := HT2.out; omega
    · have hd1 : decide (1000 * B < P) = false := decide_eq_false hlt
      go_wp2_with (fail)
      (with_reducible refine (HV.out _).mono ?_)
      rintro e w1 ⟨rfl, hb1⟩
      go_wp2_with (fail)
      (with_reducible refine (HVT.out _).mono ?_)
      rintro e w2 ⟨rfl, hb2⟩
      have HB2 := Lib.hid (below_ext (below_ext HB.out hb1) hb2)
      clear hb1 hb2
      go_wp2_with (fail)
      go_ret2
      have e1 : dewP t d = z := by rw [HZZ.out]; exact dewK hk HAL.out (by rw [← HZZ.out, HWE.out]; exact hd1)
      exact ⟨by rw [HR.out, HE.out, ← e1]; rfl, HB2.out⟩
end Go.Proofs.YtkidicfpfknfoaaDoor
