/-
  The law VaultDew, walked.
-/
import Derived.Test.YtkidicfpfknfoaaDoorVAwake
namespace Go.Proofs.YtkidicfpfknfoaaDoor
open Go.RowKit D
set_option linter.unusedVariables false
set_option linter.unusedSimpArgs false
attribute [local go_sem high] run_minI run_maxI
attribute [local go_sem] upon2 cls_cell cls_frozen forall_const exists_eq_left'
attribute [local go_sem] FirstUpon
set_option maxRecDepth 100000 in
set_option maxHeartbeats 8000000 in
theorem lawDew_any {x0 x1 d0 d1 o : Int} {w : World} (ho : -9223372036854775808 ≤ o ∧ o ≤ 9223372036854775807) (hm : MaxAt w) : Calls Tryd.prog 6 #[.agg #[.int .i64 x0, .int .i64 x1], .agg #[.int .i64 d0, .int .i64 d1], .int .i64 o] w fun e w' => e = .returned (.bool true) ∧ Below w.heap.size w w' := by
  have HM := Lib.hid hm
  clear hm ho
  have HD1 : Hid (∀ W, Calls Tryd.prog 22 #[.int .i64 (min x0 x1), .int .i64 (min d0 d1)] W fun e w' => e = .returned (.tuple #[.int .i64 (dewR (min x0 x1) (min d0 d1)), .int .i64 (dewE (min x0 x1) (min d0 d1))]) ∧ Below W.heap.size W w') := Lib.hid fun W => dew_any W
  have HD2 : Hid (∀ W, Calls Tryd.prog 22 #[.int .i64 (max x0 x1), .int .i64 (max d0 d1)] W fun e w' => e = .returned (.tuple #[.int .i64 (dewR (max x0 x1) (max d0 d1)), .int .i64 (dewE (max x0 x1) (max d0 d1))]) ∧ Below W.heap.size W w') := Lib.hid fun W => dew_any W
  obtain ⟨ea, hea⟩ : ∃ z, z = dewE (min x0 x1) (min d0 d1) := ⟨_, rfl⟩
  obtain ⟨eb, heb⟩ : ∃ z, z = dewE (max x0 x1) (max d0 d1) := ⟨_, rfl⟩
  obtain ⟨a, ha⟩ : ∃ z, z = dewR (min x0 x1) (min d0 d1) := ⟨_, rfl⟩
  obtain ⟨b, hb⟩ : ∃ z, z = dewR (max x0 x1) (max d0 d1) := ⟨_, rfl⟩
  rw [← hea, ← ha] at HD1
  rw [← heb, ← hb] at HD2
  have HEA := Lib.hid hea; have HEB := Lib.hid heb; have HA := Lib.hid ha; have HB := Lib.hid hb
  clear hea heb ha hb
  go_enter Tryd.func6, Tryd.ntmps6
  go_wp2_with (fail)
  refine calls_name ?_
  intro w1 hw1
  obtain ⟨n3, hn3⟩ : ∃ n, n = w.heap.size := ⟨_, rfl⟩
  obtain ⟨n4, hn4⟩ : ∃ n, n = n3 + 1 := ⟨_, rfl⟩
  have hE1 : Ext2 w w1 := by rw [hw1]; exact ext_trans (below_alloc' _ _) (below_alloc' _ _)
  have X3 : Hid (w1.heap[n3]? = some (.cells #[.int .i64 x0, .int .i64 x1] 59 (0, 0))) := Lib.hid (by rw [hw1, hn3]; exact blk_alloc (blk_new _ _) _)
  have X4 : Hid (w1.heap[n4]? = some (.cells #[.int .i64 d0, .int .i64 d1] 59 (0, 0))) := Lib.hid (by rw [hw1, hn4, hn3]; exact blk_new' _ _ (by simp))
  have HE1 := Lib.hid hE1
  rw [← hn3, ← hn4]
  clear hw1 hn3 hn4 hE1
  (with_reducible refine (HD1.out _).mono ?_)
  rintro e w2 ⟨rfl, hb2⟩
  have x3 := Ext2.blk hb2 X3.out; have x4 := Ext2.blk hb2 X4.out
  have HE2 := Lib.hid (ext_trans HE1.out hb2)
  have X32 := Lib.hid x3; have X42 := Lib.hid x4
  have q3c := cell_blk x3
  have q3f := frz_blk x3
  have q4c := cell_blk x4
  have q4f := frz_blk x4
  clear x3 x4 hb2
  go_wp2_with (fail)
  (with_reducible refine (HD2.out _).mono ?_)
  rintro e w3 ⟨rfl, hb3⟩
  have x3 := Ext2.blk hb3 X32.out
  have HE3 := Lib.hid (ext_trans HE2.out hb3)
  have X33 := Lib.hid x3; have X43 := Lib.hid (Ext2.blk hb3 X42.out)
  clear q3c q3f q4c q4f hb3
  have hAw : Calls Tryd.prog 15 #[] w3 fun e w' => e = .returned (.bool true) ∧ Below w3.heap.size w3 w' := awake_any (HM.out.below HE3.out)
  have HAW := Lib.hid hAw
  clear hAw
  rcases Decidable.em (ea = 0) with h1 | h1
  case inr =>
    have hd : (ea != 0) = true := by simp [h1]
    clear h1 x3
    go_wp2_with (fail)
    refine HAW.out.mono ?_
    rintro e w4 ⟨rfl, hb4⟩
    go_wp2_with (fail)
    go_ret
    exact ⟨rfl, ext_trans HE3.out hb4⟩
  have hd1 : (ea != 0) = false := by simp [h1]
  rcases Decidable.em (eb = 0) with h2 | h2
  case inr =>
    have hd : (eb != 0) = true := by simp [h2]
    clear h1 h2 x3
    go_wp2_with (fail)
    refine HAW.out.mono ?_
    rintro e w4 ⟨rfl, hb4⟩
    go_wp2_with (fail)
    go_ret
    exact ⟨rfl, ext_trans HE3.out hb4⟩
  have hd2 : (eb != 0) = false := by simp [h2]
  have r1 : inB (min x0 x1) (-300) 600 = true ∧ inB (min d0 d1) 0 1000 = true := by
    have := HEA.out
    rw [h1] at this
    unfold dewE at this
    cases h : (inB (min x0 x1) (-300) 600 && inB (min d0 d1) 0 1000)
    · rw [h] at this; cases this
    · simpa using h
  have r2 : inB (max x0 x1) (-300) 600 = true ∧ inB (max d0 d1) 0 1000 = true := by
    have := HEB.out
    rw [h2] at this
    unfold dewE at this
    cases h : (inB (max x0 x1) (-300) 600 && inB (max d0 d1) 0 1000)
    · rw [h] at this; cases this
    · simpa using h
  have ea' : a = dewP (min x0 x1) (min d0 d1) := by rw [HA.out]; unfold dewR; rw [r1.1, r1.2]; rfl
  have eb' : b = dewP (max x0 x1) (max d0 d1) := by rw [HB.out]; unfold dewR; rw [r2.1, r2.2]; rfl
  have g1 := inB_iff.1 r1.1; have g2 := inB_iff.1 r1.2; have g3 := inB_iff.1 r2.1; have g4 := inB_iff.1 r2.2
  have s1 : a ≤ min x0 x1 := by rw [ea']; exact (dew_in g1.1).2
  have s2 : a ≤ b := by rw [ea', eb']; exact dew_mono g1.1 (by omega) g3.2 g2.1 (by omega) g4.2
  have HV1 : Hid (∀ W, Calls Tryd.prog 20 #[.int .i64 (min x0 x1)] W fun e w' => e = .returned (.tuple #[.int .i64 (vap (min x0 x1)), .int .i64 0]) ∧ Below W.heap.size W w') := Lib.hid fun W => by
    have h := vapourA_any (t := min x0 x1) W
    rw [r1.1] at h; exact h
  have HV2 : Hid (∀ W, Calls Tryd.prog 20 #[.int .i64 (max x0 x1)] W fun e w' => e = .returned (.tuple #[.int .i64 (vap (max x0 x1)), .int .i64 0]) ∧ Below W.heap.size W w') := Lib.hid fun W => by
    have h := vapourA_any (t := max x0 x1) W
    rw [r2.1] at h; exact h
  have s3 := vap_mono g1.1 (show min x0 x1 ≤ max x0 x1 by omega) g3.2
  have bq := vap_in g3.1 g3.2
  obtain ⟨p, hp⟩ : ∃ p, p = vap (min x0 x1) := ⟨_, rfl⟩
  obtain ⟨q, hq⟩ : ∃ q, q = vap (max x0 x1) := ⟨_, rfl⟩
  rw [← hp] at HV1 s3
  rw [← hq] at HV2 s3 bq
  have HQ := Lib.hid hq; have HEB' := Lib.hid eb'
  have HG3 := Lib.hid g3; have HG4 := Lib.hid g4
  have HO1 : Hid (∀ W, Calls Tryd.prog 20 #[.int .i64 o] W fun e w' => e = .returned (.tuple #[.int .i64 (if inB o (-300) 600 then vap o else 0), .int .i64 (if inB o (-300) 600 then 0 else 7)]) ∧ Below W.heap.size W w') := Lib.hid fun W => vapourA_any W
  have z1 : ¬ min x0 x1 < a := by omega
  have z1' : decide (min x0 x1 < a) = false := decide_eq_false z1
  have z2 : ¬ b < a := by omega
  have z2' : decide (b < a) = false := decide_eq_false z2
  have z3 : ¬ q < p := by omega
  have z3' : decide (q < p) = false := decide_eq_false z3
  clear h1 h2 r1 r2 ea' eb' g1 g2 g3 g4 hp hq
  have q3c := cell_blk x3
  have q3f := frz_blk x3
  clear x3
  go_wp2_with (fail)
  (with_reducible refine (HV1.out _).mono ?_)
  rintro e w4 ⟨rfl, hb4⟩
  have x3 := Ext2.blk hb4 X33.out
  have HE4 := Lib.hid (ext_trans HE3.out hb4)
  have X34 := Lib.hid x3; have X44 := Lib.hid (Ext2.blk hb4 X43.out)
  clear q3c q3f hb4
  have q3c := cell_blk x3
  have q3f := frz_blk x3
  clear x3
  go_wp2_with (fail)
  (with_reducible refine (HV2.out _).mono ?_)
  rintro e w5 ⟨rfl, hb5⟩
  have x3 := Ext2.blk hb5 X34.out
  have HE5 := Lib.hid (ext_trans HE4.out hb5)
  have X45 := Lib.hid (Ext2.blk hb5 X44.out)
  clear q3c q3f hb5
  have q3c := cell_blk x3
  have q3f := frz_blk x3
  clear x3
  go_wp2_with (fail)
  obtain ⟨iv, hiv⟩ : ∃ v, v = inB o (-300) 600 := ⟨_, rfl⟩
  rw [← hiv] at HO1
  have HIV := Lib.hid hiv
  clear hiv q3c q3f
  cases iv
  case false =>
    (with_reducible refine (HO1.out _).mono ?_)
    rintro e w6 ⟨rfl, hb6⟩
    have HE6 := Lib.hid (ext_trans HE5.out hb6)
    clear hb6
    go_wp2_with (fail)
    refine (awake_any (HM.out.below HE6.out)).mono ?_
    rintro e w7 ⟨rfl, hb7⟩
    go_wp2_with (fail)
    go_ret
    exact ⟨rfl, ext_trans HE6.out hb7⟩
  have go_ := inB_iff.1 HIV.out.symm
  have bo := vap_in go_.1 go_.2
  have hiff := dew_iff (o := o) HG3.out.1 HG3.out.2 go_.1 go_.2 HG4.out.2
  rw [← HEB'.out] at hiff
  unfold wet at hiff
  rw [← HQ.out] at hiff
  obtain ⟨V, hV⟩ : ∃ V, V = vap o := ⟨_, rfl⟩
  rw [← hV] at HO1 bo hiff
  obtain ⟨P, hP⟩ : ∃ P, P = max d0 d1 * q := ⟨_, rfl⟩
  have bP : 0 ≤ P ∧ P ≤ 130200000 := by
    have a1 : max d0 d1 * q ≤ 1000 * 130200 := Int.mul_le_mul HG4.out.2 bq.2 (by omega) (by omega)
    have a2 : 0 ≤ max d0 d1 * q := Int.mul_nonneg HG4.out.1 (by omega)
    omega
  rw [← hP] at hiff
  have q1 : IntKind.i64.wrap (max d0 d1 * q) = P := by rw [← hP]; exact IntWalk.i64_in _ (by omega)
  have q2 : IntKind.i64.wrap (1000 * V) = 1000 * V := IntWalk.i64_in _ (by omega)
  (with_reducible refine (HO1.out _).mono ?_)
  rintro e w6 ⟨rfl, hb6⟩
  have x4 := Ext2.blk hb6 X45.out
  have HE6 := Lib.hid (ext_trans HE5.out hb6)
  have q4c := cell_blk x4
  have q4f := frz_blk x4
  clear hb6 x4 hP hV go_ bo bq bP HO1 HV1 HV2 HD1 HD2
  by_cases hob : o < b
  · have k1 : decide (o < b) = true := decide_eq_true hob
    rw [k1] at hiff
    have k2 : 1000 * V < P := of_decide_eq_true hiff
    go_wp2_with (fail)
    refine (awake_any (HM.out.below HE6.out)).mono ?_
    rintro e w7 ⟨rfl, hb7⟩
    go_wp2_with (fail)
    go_ret
    exact ⟨rfl, ext_trans HE6.out hb7⟩
  · have k1 : decide (o < b) = false := decide_eq_false hob
    rw [k1] at hiff
    have k2 : ¬ 1000 * V < P := of_decide_eq_false hiff
    go_wp2_with (fail)
    refine (awake_any (HM.out.below HE6.out)).mono ?_
    rintro e w7 ⟨rfl, hb7⟩
    go_wp2_with (fail)
    go_ret
    exact ⟨rfl, ext_trans HE6.out hb7⟩
end Go.Proofs.YtkidicfpfknfoaaDoor
