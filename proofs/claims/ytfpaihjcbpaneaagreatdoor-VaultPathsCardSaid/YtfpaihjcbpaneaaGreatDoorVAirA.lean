/-
  vault.odd, share, vapour, wet; ref.temp, vapour, wet, floor, spanned.
  The table of vapour; vapour, of both sides.
  ref.table, ref.vapour; Vapour, wet, of both sides.
  Slices that 'make' lays: program independent.
  A vault in memory; where, amounts.
  warm.
  amounts.
  The functions within near: keep, risk.
  near.
-/
import Derived.Test.YtfpaihjcbpaneaaGreatDoorVSite
import Derived.Test.YtfpaihjcbpaneaaGreatDoorDRegX
import Derived.Deep.Light
import Derived.Laws.Tables
import Derived.Laws.Rows
import Derived.Test.YtfpaihjcbpaneaaGreatDoorDMem
import Derived.OwnWalk
namespace Go.Proofs.YtfpaihjcbpaneaaGreatDoor
open Go.RowKit D
set_option linter.unusedVariables false
set_option linter.unusedSimpArgs false
attribute [local go_sem high] run_minI run_maxI
attribute [local go_sem] upon2 cls_cell cls_frozen forall_const exists_eq_left'
attribute [local go_sem] FirstUpon
theorem hid_ext {w w1 : World} {P : World → Prop} (H : Hid (∀ W, Below w.heap.size w W → P W)) (hB : Below w.heap.size w w1) : Hid (∀ W, Ext2 w1 W → P W) := Lib.hid fun W hW => H.out W (hB.trans (Below.mono hW hB.size))
theorem hid_ext2 {w w1 : World} {P : World → Prop} (H : Hid (∀ W, Ext2 w W → P W)) (hE : Ext2 w w1) : Hid (∀ W, Ext2 w1 W → P W) := Lib.hid fun W hW => H.out W (hE.trans (Below.mono hW hE.size))
theorem ext_trans {w w1 w2 : World} (h : Ext2 w w1) (g : Ext2 w1 w2) : Ext2 w w2 := h.trans (Below.mono g h.size)
theorem below_ext {w w1 w2 : World} (h : Below w.heap.size w w1) (g : Ext2 w1 w2) : Below w.heap.size w w2 := h.trans (Below.mono g h.size)
theorem in_b (n lo hi : Int) (W : World) : Calls Tryz.prog 37 #[.int .i64 n, .int .i64 lo, .int .i64 hi] W fun e w' => e = .returned (.bool (inB n lo hi)) ∧ Below W.heap.size W w' := (in_any n lo hi W).mono fun e w' ⟨he, hw⟩ => ⟨he, by rw [← hw]; exact Below.refl _ _⟩
theorem out_b (n lo hi : Int) (W : World) : Calls Tryz.prog 33 #[.int .i64 n, .int .i64 lo, .int .i64 hi] W fun e w' => e = .returned (.bool (outB n lo hi)) ∧ Below W.heap.size W w' := (out_any n lo hi W).mono fun e w' ⟨he, hw⟩ => ⟨he, by rw [← hw]; exact Below.refl _ _⟩
/-- The error of a span that should lie from one number to another one. -/
def oddV (a b lo hi : Int) : Int := if outB a lo hi || outB b lo hi then 7 else if b < a then 2 else 0
set_option maxRecDepth 100000 in
set_option maxHeartbeats 2000000 in
theorem odd_any (a b lo hi : Int) (w : World) : Calls Tryz.prog 79 #[.agg #[.int .i64 a, .int .i64 b], .int .i64 lo, .int .i64 hi] w fun e w' => e = .returned (.int .i64 (oddV a b lo hi)) ∧ Below w.heap.size w w' := by
  obtain ⟨E, hE⟩ : ∃ E, E = oddV a b lo hi := ⟨_, rfl⟩
  have hE' := hE
  unfold oddV at hE'
  rw [← hE]
  have HE := Lib.hid hE'
  clear hE hE'
  obtain ⟨v1, hv1⟩ : ∃ v, v = outB a lo hi := ⟨_, rfl⟩
  obtain ⟨v2, hv2⟩ : ∃ v, v = outB b lo hi := ⟨_, rfl⟩
  have HV1 := Lib.hid hv1; have HV2 := Lib.hid hv2
  have HO1 : Hid (∀ W, Calls Tryz.prog 33 #[.int .i64 a, .int .i64 lo, .int .i64 hi] W fun e w' => e = .returned (.bool v1) ∧ W = w') := Lib.hid fun W => by rw [hv1]; exact out_any _ _ _ W
  have HO2 : Hid (∀ W, Calls Tryz.prog 33 #[.int .i64 b, .int .i64 lo, .int .i64 hi] W fun e w' => e = .returned (.bool v2) ∧ W = w') := Lib.hid fun W => by rw [hv2]; exact out_any _ _ _ W
  clear hv1 hv2
  go_enter Tryz.func79, Tryz.ntmps79
  go_wp2_with (fail)
  (with_reducible refine (HO1.out _).mono ?_)
  rintro e w' ⟨rfl, rfl⟩
  cases v1
  case true =>
    go_wp2_with (fail)
    go_ret
    exact ⟨ret_int (by rw [HE.out, ← HV1.out]; rfl), below_alloc _ _⟩
  case false =>
    go_wp2_with (fail)
    (with_reducible refine (HO2.out _).mono ?_)
    rintro e w' ⟨rfl, rfl⟩
    cases v2
    case true =>
      go_wp2_with (fail)
      go_ret
      exact ⟨ret_int (by rw [HE.out, ← HV1.out, ← HV2.out]; rfl), below_alloc _ _⟩
    case false =>
      by_cases h : b < a
      · go_wp2_with (fail)
        go_ret
        exact ⟨ret_int (by rw [HE.out, ← HV1.out, ← HV2.out, if_neg (by simp), if_pos (by omega)]), below_alloc _ _⟩
      · go_wp2_with (fail)
        go_ret
        exact ⟨ret_int (by rw [HE.out, ← HV1.out, ← HV2.out, if_neg (by simp), if_neg (by omega)]), below_alloc _ _⟩
theorem share_any (n r : Int) (w : World) (h1 : -90000 ≤ n * r) (h2 : n * r ≤ 90000) : Calls Tryz.prog 90 #[.int .i64 n, .int .i64 r] w fun e w' => e = .returned (.int .i64 (n * r / 100)) ∧ w = w' := by
  obtain ⟨m, hm⟩ : ∃ m, m = n * r := ⟨_, rfl⟩
  rw [← hm] at h1 h2 ⊢
  have hw : wrap64 (n * r) = m := by rw [← hm]; exact IntWalk.wrap64_in _ (by omega)
  clear hm
  by_cases h : m < 0
  · go_enter Tryz.func90, Tryz.ntmps90
    go_wp2_with (fail)
    go_ret
    exact ⟨ret_int (by omega), rfl⟩
  · go_enter Tryz.func90, Tryz.ntmps90
    go_wp2_with (fail)
    go_ret
    exact ⟨ret_int rfl, rfl⟩
theorem temp_any (n : Int) (w : World) : Calls Tryz.prog 81 #[.int .i64 n] w fun e w' => e = .returned (.bool (inB n (-300) 600)) ∧ w = w' := by
  obtain ⟨v, hv⟩ : ∃ v, v = inB n (-300) 600 := ⟨_, rfl⟩
  have HO : Hid (∀ W, Calls Tryz.prog 37 #[.int .i64 n, .int .i64 (-300), .int .i64 600] W fun e w' => e = .returned (.bool v) ∧ W = w') := Lib.hid fun W => by rw [hv]; exact in_any _ _ _ W
  rw [← hv]
  clear hv
  go_enter Tryz.func81, Tryz.ntmps81
  go_wp2_with (fail)
  (with_reducible refine (HO.out _).mono ?_)
  rintro e w' ⟨rfl, rfl⟩
  go_wp2_with (fail)
  go_ret
  exact ⟨rfl, rfl⟩
end Go.Proofs.YtfpaihjcbpaneaaGreatDoor
namespace Go.Proofs.YtfpaihjcbpaneaaGreatDoor
open Go.RowKit D
set_option linter.unusedVariables false
set_option linter.unusedSimpArgs false
attribute [local go_sem high] run_minI run_maxI
attribute [local go_sem] upon2 cls_cell cls_frozen forall_const exists_eq_left'
attribute [local go_sem] FirstUpon
def tabA : Array Value := #[.int .i64 450, .int .i64 700, .int .i64 1070, .int .i64 1600, .int .i64 2360, .int .i64 3410, .int .i64 4850, .int .i64 6800, .int .i64 9400, .int .i64 12830, .int .i64 17300, .int .i64 23050, .int .i64 30400, .int .i64 39600, .int .i64 51200, .int .i64 65400, .int .i64 83000, .int .i64 104300, .int .i64 130200]
theorem tab_cell {W : World} {b : Nat} {t : TypeId} (h : W.heap[b]? = some (.cells tabA t (0, 0))) {i : Nat} (hi : i < 19) : W.cell? ⟨b, i, none⟩ = some (.int .i64 (intD tabD i)) := by
  rw [cell_blk h]
  rcases (by omega : i = 0 ∨ i = 1 ∨ i = 2 ∨ i = 3 ∨ i = 4 ∨ i = 5 ∨ i = 6 ∨ i = 7 ∨ i = 8 ∨ i = 9 ∨ i = 10 ∨ i = 11 ∨ i = 12 ∨ i = 13 ∨ i = 14 ∨ i = 15 ∨ i = 16 ∨ i = 17 ∨ i = 18) with h | h | h | h | h | h | h | h | h | h | h | h | h | h | h | h | h | h | h <;> subst h <;> rfl
theorem tab_one : tabA.all (·.oneCell') = true := by decide +kernel
theorem tab_info : (Tryz.prog.info? 150).map (·.size) = some tabA.size := by kernel_rfl
theorem wpL_name {P : Program} {ops : Array Oper} {Q : Exit → Act → World → Prop} {l : List Oper} {a : Act} {w : World} (h : ∀ w2, w2 = w → wpList P ops Q l a w2) : wpList P ops Q l a w := h w rfl
theorem below_setRow {B : Nat} {a w : World} (h : Below B a w) {g : Nat} (hg : B ≤ g) (cs : Array Value) : Below B a (w.setRow g cs) :=
  h.trans ⟨rfl, rfl, rfl, by simp [World.setRow], fun i hi => setRow_other w g i cs (by omega)⟩
set_option maxRecDepth 100000 in
set_option maxHeartbeats 2000000 in
theorem table_any (w : World) : Calls Tryz.prog 97 #[] w fun e w' => e = .returned (.agg tabA) ∧ Below w.heap.size w w' := by
  go_enter Tryz.func97, Tryz.ntmps97
  go_wp2_with ((with_reducible refine wpList_store_row (o := ⟨none, .store 150 (.tmp 0) (.tmp 1), _, _, _, _⟩) ?a1 150 (.tmp 0) (.tmp 1) ?a2 w.heap.size tabA ?a3 ?a4 150 ?old ?a5 tab_info ?a7 tab_one ?a9); (case a1 => rfl); (case a2 => rfl); (case a3 => rfl); (case a4 => rfl); (case a5 => exact blk_new _ _); (case a7 => rfl))
  refine bodyPost_ret (v := .agg tabA) ?_ rfl ⟨rfl, below_setRow (below_alloc _ _) (Nat.le_refl _) _⟩
  exact results_cell_row (P := Tryz.prog) (fn := Tryz.f97) rfl _ _ w.heap.size 150 tabA (0, 0) _ rfl (setRow_heap _ _ _ _ _ _ (blk_new _ _)) Tryz.underlying150 rfl tab_info
theorem run_tab (W : World) (b i : Nat) (hi : i ≤ 18) : (Instr.sliceAt 150 (.pointer (some ⟨b, 0, none⟩)) (some (.int .i64 (i : Int))) none none).run Tryz.prog W = .ok (.slice (some ⟨b, i, none⟩) (19 - i) (19 - i)) W := by
  have ha : Tryz.prog.arrayLen 150 = 19 := by kernel_rfl
  have hs : ∀ W : World, (sizeOf (Tryz.prog.elem 150)).run Tryz.prog W = .ok 1 W := fun W => by kernel_rfl
  rw [run_sliceAt_array_l W 150 ⟨b, 0, none⟩ (by kernel_rfl) .i64 (i : Int) (by omega) (by rw [ha]; omega), hs, ha]
  simp only [Result.andThen, slicedAt, Int.toNat_natCast]
  rw [if_neg (by omega)]
  have e : (⟨b, 0, none⟩ : Addr).add (i * 1) = ⟨b, i, none⟩ := by
    unfold Addr.add; split
    · rename_i h; simp at h; simp [h]
    · simp
  rw [e]
theorem vap_at {t : Int} (h1 : -300 ≤ t) (h2 : t ≤ 600) : ∃ i r : Nat, (t + 300) / 50 = (i : Int) ∧ (t + 300) % 50 = (r : Int) ∧ i ≤ 18 ∧ r < 50 ∧ (r ≠ 0 → i ≤ 17) ∧ vap t = if r = 0 then intD tabD i else intD tabD i + (intD tabD (i + 1) - intD tabD i) * (r : Int) / 50 := by
  refine ⟨((t + 300) / 50).toNat, ((t + 300) % 50).toNat, by omega, by omega, by omega, by omega, by omega, ?_⟩
  unfold vap
  have e : (((t + 300) % 50).toNat : Int) = (t + 300) % 50 := by omega
  by_cases h : (t + 300) % 50 = 0
  · rw [if_pos h, if_pos (by omega)]
  · rw [if_neg h, if_neg (by omega), e]
theorem tab_up : ∀ i : Fin 18, intD tabD i.val ≤ intD tabD (i.val + 1) := by decide
theorem tab_bd : ∀ i : Fin 19, 0 ≤ intD tabD i.val ∧ intD tabD i.val ≤ 130200 := by decide
set_option maxRecDepth 100000 in
set_option maxHeartbeats 2000000 in
theorem vapour_any {t : Int} (w : World) (h1 : -300 ≤ t) (h2 : t ≤ 600) : Calls Tryz.prog 88 #[.int .i64 t] w fun e w' => e = .returned (.int .i64 (vap t)) ∧ Below w.heap.size w w' := by
  obtain ⟨i, r, hi, hr, hi18, hr50, hi17, hv⟩ := vap_at h1 h2
  rw [hv]
  obtain ⟨X, hX⟩ : ∃ X, X = intD tabD i := ⟨_, rfl⟩
  obtain ⟨Y, hY⟩ : ∃ Y, Y = intD tabD (i + 1) := ⟨_, rfl⟩
  have bX := tab_bd ⟨i, by omega⟩
  simp only [← hX] at bX
  rw [← hX, ← hY]
  have HX := Lib.hid hX; have HY := Lib.hid hY
  have bY : r ≠ 0 → 0 ≤ Y ∧ Y ≤ 130200 := fun h => by have := tab_bd ⟨i + 1, by have := hi17 h; omega⟩; rw [hY]; exact this
  have BY := Lib.hid bY; have HI17 := Lib.hid hi17
  clear hv hX hY bY hi17
  go_enter Tryz.func88, Tryz.ntmps88
  go_wp2_with (fail)
  (with_reducible refine (table_any _).mono ?_)
  rintro e w1 ⟨rfl, hb1⟩
  obtain ⟨tt, htt⟩ : ∃ tt, tt = tabA := ⟨_, rfl⟩
  rw [← htt]
  have HTT := Lib.hid htt
  clear htt
  have hsl := fun (W : World) => run_tab W w1.heap.size i hi18
  have s1 : IntKind.i64.wrap (19 - (i : Int)) = 19 - (i : Int) := IntWalk.i64_in _ (by omega)
  by_cases hr0 : r = 0
  · subst hr0
    go_wp2_with ((with_reducible refine wpList_store_row (o := ⟨none, .store 150 (.tmp 3) (.tmp 6), _, _, _, _⟩) ?a1 150 (.tmp 3) (.tmp 6) ?a2 w1.heap.size tt ?a3 ?a4 150 ?old ?a5 (by rw [HTT.out]; exact tab_info) ?a7 (by rw [HTT.out]; exact tab_one) ?a9); (case a1 => rfl); (case a2 => rfl); (case a3 => rfl); (case a4 => rfl); (case a5 => exact blk_new _ _); (case a7 => rw [HTT.out]; rfl); refine wpL_name ?_; intro w2 h2; have y3 : w2.heap[w1.heap.size]? = some (.cells tabA 150 (0, 0)) := (by rw [h2, ← HTT.out]; exact setRow_heap _ _ _ _ _ _ (blk_new _ _)); have hB2 : Below w.heap.size w w2 := (by rw [h2]; exact below_setRow (Below.alloc hb1 hb1.size _) hb1.size _); clear h2; have c0 := tab_cell y3 (i := i) (by omega); rw [← HX.out] at c0; clear y3)
    go_ret
    exact ⟨rfl, hB2⟩
  · have bY := BY.out hr0
    have i17 := HI17.out hr0
    have hi1 : i + 1 < 19 := by omega
    have hi0 : i < 19 := by omega
    have hrp : 0 < r := by omega
    have HR0 := Lib.hid hr0
    have hXY : X ≤ Y := by have := tab_up ⟨i, by omega⟩; rw [HX.out, HY.out]; exact this
    have wy : IntKind.i64.wrap (Y - X) = Y - X := IntWalk.i64_in _ (by omega)
    have hml : -6510000 ≤ (Y - X) * (r : Int) ∧ (Y - X) * (r : Int) ≤ 6510000 := by
      have h5 : (0 : Int) ≤ (r : Int) := by omega
      rcases Int.le_total 0 (Y - X) with h | h
      · have a1 : (Y - X) * (r : Int) ≤ (Y - X) * 50 := Int.mul_le_mul_of_nonneg_left (by omega) h
        have a2 : 0 ≤ (Y - X) * (r : Int) := Int.mul_nonneg h h5
        omega
      · have a1 : (Y - X) * 50 ≤ (Y - X) * (r : Int) := Int.mul_le_mul_of_nonpos_left h (by omega)
        have a2 : (Y - X) * (r : Int) ≤ 0 := Int.mul_nonpos_of_nonpos_of_nonneg h h5
        omega
    obtain ⟨P, hP⟩ : ∃ P, P = (Y - X) * (r : Int) := ⟨_, rfl⟩
    have hP0 : 0 ≤ P := by rw [hP]; exact Int.mul_nonneg (by omega) (by omega)
    rw [← hP] at hml
    have q1 : IntKind.i64.wrap ((Y - X) * (r : Int)) = P := by rw [← hP]; exact IntWalk.i64_in _ (by omega)
    have q2 : P.tdiv 50 = P / 50 := Int.tdiv_eq_ediv_of_nonneg hP0
    obtain ⟨D, hD⟩ : ∃ D, D = P / 50 := ⟨_, rfl⟩
    have hD0 : 0 ≤ D ∧ D ≤ 200000 := by omega
    rw [← hD] at q2
    have q3 : IntKind.i64.wrap D = D := IntWalk.i64_in _ (by omega)
    have q4 : IntKind.i64.wrap (X + D) = X + D := IntWalk.i64_in _ (by omega)
    have q5 : 0 < 19 - i := by omega
    have q6 : (1 : Int) < ((19 - i : Nat) : Int) := by omega
    have HP := Lib.hid hP; have HD := Lib.hid hD
    clear hP hD hml
    clear hr0
    go_wp2_with ((with_reducible refine wpList_store_row (o := ⟨none, .store 150 (.tmp 3) (.tmp 6), _, _, _, _⟩) ?b1 150 (.tmp 3) (.tmp 6) ?b2 w1.heap.size tt ?b3 ?b4 150 ?bold ?b5 (by rw [HTT.out]; exact tab_info) ?b7 (by rw [HTT.out]; exact tab_one) ?b9); (case b1 => rfl); (case b2 => rfl); (case b3 => rfl); (case b4 => rfl); (case b5 => exact blk_new _ _); (case b7 => rw [HTT.out]; rfl); refine wpL_name ?_; intro w2 h2; have y3 : w2.heap[w1.heap.size]? = some (.cells tabA 150 (0, 0)) := (by rw [h2, ← HTT.out]; exact setRow_heap _ _ _ _ _ _ (blk_new _ _)); have hB2 : Below w.heap.size w w2 := (by rw [h2]; exact below_setRow (Below.alloc hb1 hb1.size _) hb1.size _); clear h2; have c0 := tab_cell y3 (i := i) hi0; rw [← HX.out] at c0; have c1 := tab_cell y3 (i := i + 1) hi1; rw [← HY.out] at c1;clear y3)
    refine region_ev [] [0, 1, 2, 3, 4, 5, 6, 7, 8, 9, 10, 11, 12, 13, 14] [] [] (by kernel_rfl) (by kernel_rfl) (by intro c a d v w h; cases d <;> exact h) ?_
    simp only [picks, List.drop_succ_cons, List.drop_zero]
    repeat (refine wpQ0_step (fun K hK => ?_); go_simp; (refine hK _ ?_; clear hK K))
    refine wpQ0_nil ?_
    repeat ((with_reducible refine wpQ2_step (fun K hK => ?_)); go_simp; first | ((with_reducible refine hK _ ?_); clear hK K) | (apply Exists.intro; refine ⟨fun x => ?_, hK _ ?_⟩; (fail); clear hK K))
    refine wpQ2_nil ?_
    refine Events.none_ fun w3 hg3 => ?_
    simp only [picks, List.drop_succ_cons, List.drop_zero]
    have hB3 := below_ext hB2 hg3
    clear c0 c1 hsl
    go_wp2_with (fail)
    go_ret
    exact ⟨ret_int (by first | rw [if_neg HR0.out, HD.out, HP.out] | rw [HD.out, HP.out]), hB3⟩
end Go.Proofs.YtfpaihjcbpaneaaGreatDoor
namespace Go.Proofs.YtfpaihjcbpaneaaGreatDoor
open Go.RowKit D
set_option linter.unusedVariables false
set_option linter.unusedSimpArgs false
attribute [local go_sem high] run_minI run_maxI
attribute [local go_sem] upon2 cls_cell cls_frozen forall_const exists_eq_left'
attribute [local go_sem] FirstUpon
set_option maxRecDepth 100000 in
set_option maxHeartbeats 2000000 in
theorem tableR_any (w : World) : Calls Tryz.prog 98 #[] w fun e w' => ∃ b, e = .returned (.slice (some ⟨b, 0, none⟩) 19 19) ∧ w'.heap[b]? = some (.cells tabA 3 (0, 0)) ∧ Below w.heap.size w w' := by
  go_enter Tryz.func98, Tryz.ntmps98
  go_wp2_with (fail)
  go_ret
  exact ⟨w.heap.size, rfl, blk_new _ _, below_alloc _ _⟩
set_option maxRecDepth 100000 in
set_option maxHeartbeats 2000000 in
theorem vapourR_any {t : Int} (w : World) (h1 : -300 ≤ t) (h2 : t ≤ 600) : Calls Tryz.prog 89 #[.int .i64 t] w fun e w' => e = .returned (.int .i64 (vap t)) ∧ Below w.heap.size w w' := by
  obtain ⟨i, r, hi, hr, hi18, hr50, hi17, hv⟩ := vap_at h1 h2
  rw [hv]
  obtain ⟨X, hX⟩ : ∃ X, X = intD tabD i := ⟨_, rfl⟩
  obtain ⟨Y, hY⟩ : ∃ Y, Y = intD tabD (i + 1) := ⟨_, rfl⟩
  have bX := tab_bd ⟨i, by omega⟩
  simp only [← hX] at bX
  rw [← hX, ← hY]
  have HX := Lib.hid hX; have HY := Lib.hid hY
  have bY : r ≠ 0 → 0 ≤ Y ∧ Y ≤ 130200 := fun h => by have := tab_bd ⟨i + 1, by have := hi17 h; omega⟩; rw [hY]; exact this
  have BY := Lib.hid bY; have HI17 := Lib.hid hi17
  clear hv hX hY bY hi17
  go_enter Tryz.func89, Tryz.ntmps89
  go_wp2_with (fail)
  (with_reducible refine (tableR_any _).mono ?_)
  rintro e w1 ⟨b, rfl, y3, hB2⟩
  have Y3 := Lib.hid y3
  have c0 := tab_cell y3 (i := i) (by omega)
  rw [← HX.out] at c0
  clear y3
  by_cases hr0 : r = 0
  · subst hr0
    have q5 : (0 : Int) ≤ (i : Int) := by omega
    have q6 : (i : Int) < 19 := by omega
    go_wp2_with (fail)
    go_ret
    exact ⟨rfl, hB2⟩
  · have bY := BY.out hr0
    have i17 := HI17.out hr0
    have hi1 : i + 1 < 19 := by omega
    have hi0 : i < 19 := by omega
    have hrp : 0 < r := by omega
    have HR0 := Lib.hid hr0
    have hXY : X ≤ Y := by have := tab_up ⟨i, by omega⟩; rw [HX.out, HY.out]; exact this
    have wy : IntKind.i64.wrap (Y - X) = Y - X := IntWalk.i64_in _ (by omega)
    have hml : -6510000 ≤ (Y - X) * (r : Int) ∧ (Y - X) * (r : Int) ≤ 6510000 := by
      have h5 : (0 : Int) ≤ (r : Int) := by omega
      rcases Int.le_total 0 (Y - X) with h | h
      · have a1 : (Y - X) * (r : Int) ≤ (Y - X) * 50 := Int.mul_le_mul_of_nonneg_left (by omega) h
        have a2 : 0 ≤ (Y - X) * (r : Int) := Int.mul_nonneg h h5
        omega
      · have a1 : (Y - X) * 50 ≤ (Y - X) * (r : Int) := Int.mul_le_mul_of_nonpos_left h (by omega)
        have a2 : (Y - X) * (r : Int) ≤ 0 := Int.mul_nonpos_of_nonpos_of_nonneg h h5
        omega
    obtain ⟨P, hP⟩ : ∃ P, P = (Y - X) * (r : Int) := ⟨_, rfl⟩
    have hP0 : 0 ≤ P := by rw [hP]; exact Int.mul_nonneg (by omega) (by omega)
    rw [← hP] at hml
    have q1 : IntKind.i64.wrap ((Y - X) * (r : Int)) = P := by rw [← hP]; exact IntWalk.i64_in _ (by omega)
    have q2 : P.tdiv 50 = P / 50 := Int.tdiv_eq_ediv_of_nonneg hP0
    obtain ⟨D, hD⟩ : ∃ D, D = P / 50 := ⟨_, rfl⟩
    have hD0 : 0 ≤ D ∧ D ≤ 200000 := by omega
    rw [← hD] at q2
    have q3 : IntKind.i64.wrap D = D := IntWalk.i64_in _ (by omega)
    have q4 : IntKind.i64.wrap (X + D) = X + D := IntWalk.i64_in _ (by omega)
    have q5 : (0 : Int) ≤ (i : Int) := by omega
    have q6 : (i : Int) < 19 := by omega
    have q7 : IntKind.i64.wrap ((i : Int) + 1) = (i : Int) + 1 := IntWalk.i64_in _ (by omega)
    have q8 : (0 : Int) ≤ (i : Int) + 1 := by omega
    have q9 : (i : Int) + 1 < 19 := by omega
    have q10 : ((i : Int) + 1).toNat = i + 1 := by omega
    have HP := Lib.hid hP; have HD := Lib.hid hD
    clear hP hD hml
    clear hr0
    have c1 := tab_cell Y3.out (i := i + 1) hi1
    rw [← HY.out] at c1
    go_wp2_with (fail)
    refine region_ev [] [0, 1, 2, 3, 4, 5, 6, 7, 8, 9, 10, 11, 12, 13, 14, 15, 16, 17, 18] [] [] (by kernel_rfl) (by kernel_rfl) (by intro c a d v w h; cases d <;> exact h) ?_
    simp only [picks, List.drop_succ_cons, List.drop_zero]
    repeat (refine wpQ0_step (fun K hK => ?_); go_simp; (refine hK _ ?_; clear hK K))
    refine wpQ0_nil ?_
    repeat ((with_reducible refine wpQ2_step (fun K hK => ?_)); go_simp; first | ((with_reducible refine hK _ ?_); clear hK K) | (apply Exists.intro; refine ⟨fun x => ?_, hK _ ?_⟩; (fail); clear hK K))
    refine wpQ2_nil ?_
    refine Events.none_ fun w3 hg3 => ?_
    simp only [picks, List.drop_succ_cons, List.drop_zero]
    have hB3 := below_ext hB2 hg3
    clear c0 c1
    go_wp2_with (fail)
    go_ret
    exact ⟨ret_int (by first | rw [if_neg HR0.out, HD.out, HP.out] | rw [HD.out, HP.out]), hB3⟩
theorem wet_eq {o t d A B : Int} (hA : vap t = A) (hB : vap o = B) : wet o t d = decide (1000 * B < d * A) := by unfold wet; rw [hA, hB]
set_option maxRecDepth 100000 in
set_option maxHeartbeats 2000000 in
theorem wet_any {o t d : Int} (w : World) (h1 : -300 ≤ o) (h2 : o ≤ 600) (h3 : -300 ≤ t) (h4 : t ≤ 600) (h5 : 0 ≤ d) (h6 : d ≤ 1000) : Calls Tryz.prog 60 #[.int .i64 o, .int .i64 t, .int .i64 d] w fun e w' => e = .returned (.bool (wet o t d)) ∧ Below w.heap.size w w' := by
  have HA := Lib.hid fun W => vapour_any (t := t) W h3 h4
  have HB := Lib.hid fun W => vapour_any (t := o) W h1 h2
  have bA := vap_in h3 h4; have bB := vap_in h1 h2
  obtain ⟨A, hA⟩ : ∃ A, A = vap t := ⟨_, rfl⟩
  obtain ⟨B, hB⟩ : ∃ B, B = vap o := ⟨_, rfl⟩
  rw [wet_eq hA.symm hB.symm]
  rw [← hA] at HA bA
  rw [← hB] at HB bB
  have hdA : 0 ≤ d * A ∧ d * A ≤ 130200000 := by
    have a1 : d * A ≤ 1000 * 130200 := Int.mul_le_mul h6 bA.2 (by omega) (by omega)
    have a2 : 0 ≤ d * A := Int.mul_nonneg h5 (by omega)
    omega
  obtain ⟨P, hP⟩ : ∃ P, P = d * A := ⟨_, rfl⟩
  rw [← hP] at hdA ⊢
  have q1 : wrap64 (d * A) = P := by rw [← hP]; exact IntWalk.wrap64_in _ (by omega)
  clear hA hB hP
  go_enter Tryz.func60, Tryz.ntmps60
  go_wp2_with (fail)
  (with_reducible refine (HA.out _).mono ?_)
  rintro e w1 ⟨rfl, hb1⟩
  go_wp2_with (fail)
  (with_reducible refine (HB.out _).mono ?_)
  rintro e w2 ⟨rfl, hb2⟩
  have hB2 := below_ext hb1 hb2
  go_wp2_with (fail)
  go_ret
  exact ⟨rfl, hB2⟩
set_option maxRecDepth 100000 in
set_option maxHeartbeats 2000000 in
theorem may_any {t : Span} {r : Rm} (w : World) (ht : TIn t) (hr : RIn r) : Calls Tryz.prog 61 #[.agg #[.int .i64 t.lo, .int .i64 t.hi], .agg #[.string r.name, .int .i64 r.tlo, .int .i64 r.thi, .int .i64 r.dlo, .int .i64 r.dhi, .bool r.people, .bool r.allows, .int .i64 r.most, .int .i64 r.x, .int .i64 r.y]] w fun e w' => e = .returned (.bool (mayS t r)) ∧ Below w.heap.size w w' := by
  have HW := Lib.hid fun W => wet_any (o := t.lo) (t := r.thi) (d := r.dhi) W ht.1 ht.2.1 hr.2.2.1 hr.2.2.2.1 hr.2.2.2.2.2.2.1 hr.2.2.2.2.2.2.2
  obtain ⟨v, hv⟩ : ∃ v, v = mayS t r := ⟨_, rfl⟩
  rw [← hv]
  rw [show wet t.lo r.thi r.dhi = v by rw [hv]; rfl] at HW
  clear hv ht hr
  go_enter Tryz.func61, Tryz.ntmps61
  go_wp2_with (fail)
  refine calls_name ?_
  intro w1 h1
  have hB1 : Below w.heap.size w w1 := by rw [h1]; exact Below.alloc (below_alloc _ _) (by simp) _
  clear h1
  (with_reducible refine (HW.out _).mono ?_)
  rintro e w2 ⟨rfl, hb2⟩
  have hB2 := below_ext hB1 hb2
  go_wp2_with (fail)
  go_ret
  exact ⟨rfl, hB2⟩
end Go.Proofs.YtfpaihjcbpaneaaGreatDoor
namespace Go.Proofs.YtfpaihjcbpaneaaGreatDoor
open Go.RowKit D
set_option linter.unusedVariables false
theorem run_mk {P : Program} {t e : TypeId} {z : Value} {sz bytes : Nat} (E : Elem P t e z sz bytes) (W : World) (n : Nat) (hn : n ≤ 1000000000) :
    (Instr.makeSlice t (.int .i64 (n : Int)) (.int .i64 (n : Int))).run P W = .ok (.slice (some ⟨W.heap.size, 0, none⟩) n n) (W.alloc (.cells (madeCells z.cells (n * sz)) e)) := by
  obtain ⟨i0, hi, hz0, hz1, hz2⟩ := info_parts E.info
  have hb : i0.bytes * n ≤ 281474976710656 := by
    have h1 := E.by_
    rw [hz2]
    calc bytes * n ≤ 1000 * 1000000000 := Nat.mul_le_mul h1 hn
      _ ≤ 281474976710656 := by omega
  have hb' : (i0.bytes : Int) * (n : Int) ≤ 281474976710656 := by
    have h : ((i0.bytes * n : Nat) : Int) ≤ 281474976710656 := by omega
    rwa [Int.natCast_mul] at h
  have hr := run_make (P := P) W t e i0 z E.und hi hz0 .i64 .i64 n n (by omega) (Int.le_refl _) hb' (by omega)
  simp only [Int.toNat_natCast] at hr
  rw [hr, hz1]
theorem wpList_mk {P : Program} {t e : TypeId} {z : Value} {sz bytes : Nat} (E : Elem P t e z sz bytes) {w : World} {ops : Array Oper} {rest : List Oper} {o : Oper} {a : Act} {Q : Exit → Act → World → Prop}
    (hg : o.guard = none) (l : Operand) (hop : o.op = Op.makeSlice t l l) (n : Nat) (hl : a.eval l = .int .i64 (n : Int)) (hn : n ≤ 1000000000)
    (hK : wpList P ops Q rest (a.put o.dst (.slice (some ⟨w.heap.size, 0, none⟩) n n)) (w.alloc (.cells (madeCells z.cells (n * sz)) e))) :
    wpList P ops Q (o :: rest) a w := by
  refine wpList_plain hg fun K hK' => ?_
  have hrun := run_mk E w n hn
  unfold Oper.wp
  simp [execOp, hop, hl, hrun, Result.andThen]
  exact hK' _ _ hK
theorem exec_mk {P : Program} {t e : TypeId} {z : Value} {sz bytes : Nat} (E : Elem P t e z sz bytes) {o : Oper} {ρ : Operand → Value} {l : Operand} (hop : o.op = Op.makeSlice t l l) (n : Nat) (hl : ρ l = .int .i64 (n : Int)) (hn : n ≤ 1000000000) (W : World) :
    (execOp ρ o).run P W = .ok (.value (.slice (some ⟨W.heap.size, 0, none⟩) n n)) (W.alloc (.cells (madeCells z.cells (n * sz)) e)) := by
  have h := run_mk E W n hn
  simp [execOp, hop, hl, h, Result.andThen]
theorem made_at (z : Array Value) (n k : Nat) (h : k < n) : (madeCells z n).toList[k]? = some (z[k % z.size]!) := by
  simp [madeCells, h]
theorem own_made {w : World} {base e sz n g : Nat} {z : Array Value} (hz : z.size = sz) (h0 : 0 < sz) (hn : n ≤ maxLen) (hb : base ≤ g) (hg : w.heap[g]? = some (.cells (madeCells z (n * sz)) e (0, 0))) :
    OwnR w base e sz (.slice (some ⟨g, 0, none⟩) n n) n (fun _ j => z[j]!) := by
  refine ⟨cellsOf_len _ _ _, .inr ⟨g, n, _, rfl, hb, hg, Nat.le_refl _, hn, size_madeCells _ _, ?_⟩⟩
  rw [List.take_of_length_le (by rw [Array.length_toList, size_madeCells]; exact Nat.le_refl _)]
  apply List.ext_getElem?
  intro k
  by_cases hk : k < n * sz
  · have e1 : k = (k / sz) * sz + k % sz := by rw [Nat.mul_comm]; exact (Nat.div_add_mod k sz).symm
    have e2 : k / sz < n := Nat.div_lt_of_lt_mul (by rw [Nat.mul_comm]; exact hk)
    have a1 := cellsOf_at (c := fun _ j => z[j]!) e2 (Nat.mod_lt k h0)
    rw [← e1] at a1
    rw [made_at _ _ _ hk, a1, hz]
  · rw [List.getElem?_eq_none (by rw [Array.length_toList, size_madeCells]; omega), List.getElem?_eq_none (by rw [cellsOf_len]; omega)]
theorem made_one {z : Value} {m k : Nat} (h : k < m) : (madeCells #[z] m)[k]? = some z := by simp [madeCells, Nat.mod_one, h]
/-- One cell of a slice of one's own that has one cell an element. -/
theorem OwnR.cell1 {w : World} {base g cap : Nat} {e : TypeId} {n i : Nat} {c : Nat → Nat → Value} (h : OwnR w base e 1 (.slice (some ⟨g, 0, none⟩) n cap) n c) (hi : i < n) : w.cell? ⟨g, i, none⟩ = some (c i 0) ∧ w.frozen? ⟨g, i, none⟩ = false ∧ g < w.heap.size ∧ base ≤ g := by
  rcases h.forms with ⟨_, h0⟩ | ⟨g', cp', he, hb, -, -, hr, hfz, -⟩
  · omega
  · obtain ⟨rfl, rfl⟩ : g = g' ∧ cap = cp' := by simpa using he
    have := hr.one hi
    rw [Nat.zero_add] at this
    exact ⟨this, hfz _, hr.1, hb⟩
theorem OwnR.set1 {w : World} {base g cap : Nat} {e : TypeId} {n i : Nat} {c c' : Nat → Nat → Value} (h : OwnR w base e 1 (.slice (some ⟨g, 0, none⟩) n cap) n c) (hi : i < n) (u : Value) (hc : ∀ i', i' < n → c' i' 0 = if i' = i then u else c i' 0) : OwnR (w.setCell ⟨g, i, none⟩ u) base e 1 (.slice (some ⟨g, 0, none⟩) n cap) n c' := by
  have h1 := h.set (j := 0) hi (by omega) u
  rw [Nat.mul_one, Nat.add_zero] at h1
  refine h1.congr fun i' j' hi' hj' => ?_
  obtain rfl : j' = 0 := by omega
  rw [hc i' hi']
  by_cases hii : i' = i
  · simp [hii]
  · simp [hii]
/-- A block of another type stays as it was behind an append. -/
theorem app_blk {w w' : World} {base : Nat} {e : TypeId} {sz : Nat} {v : Value} {n : Nat} {c : Nat → Nat → Value} {o : Obj} (hO : OwnR w base e sz v n c) (hg : (w.alloc o).grownBy w' v.ownBlock) {b : Nat} {cs : Array Value} {t : TypeId} {f : Nat × Nat} (hb : w.heap[b]? = some (.cells cs t f)) (ht : t ≠ e) : w'.heap[b]? = some (.cells cs t f) := by
  have h1 := blk_alloc hb o
  rw [hg.block b (blk_lt h1) ?_]
  · exact h1
  · intro he
    rcases hO.forms with ⟨rfl, -⟩ | ⟨g, cap, rfl, -, -, -, -, -, cur, hcur⟩
    · cases he
    · obtain rfl : b = g := by simpa [Value.ownBlock] using he
      rw [hb] at hcur
      simp only [Option.some.injEq, Obj.cells.injEq] at hcur
      exact ht hcur.2.1
theorem own_app {w w' : World} {base base2 : Nat} {e e2 : TypeId} {sz sz2 : Nat} {v v2 : Value} {n n2 : Nat} {c c2 : Nat → Nat → Value} {o : Obj} (hO : OwnR w base e sz v n c) (hg : (w.alloc o).grownBy w' v.ownBlock) (h2 : OwnR w base2 e2 sz2 v2 n2 c2) (ht : e2 ≠ e) : OwnR w' base2 e2 sz2 v2 n2 c2 := by
  refine (h2.below (below_alloc' w o)).kept hg ?_
  rcases h2.forms with ⟨rfl, -⟩ | ⟨g2, cap2, rfl, -, -, -, -, -, cur2, hcur2⟩
  · exact .inl rfl
  · refine .inr fun he => ?_
    rcases hO.forms with ⟨rfl, -⟩ | ⟨g, cap, rfl, -, -, -, -, -, cur, hcur⟩
    · cases he
    · obtain rfl : g2 = g := by simpa [Value.ownBlock] using he
      rw [hcur2] at hcur
      simp only [Option.some.injEq, Obj.cells.injEq] at hcur
      exact ht hcur.2.1
end Go.Proofs.YtfpaihjcbpaneaaGreatDoor
namespace Go.Proofs.YtfpaihjcbpaneaaGreatDoor
open Go.RowKit D
set_option linter.unusedVariables false
set_option linter.unusedSimpArgs false
attribute [local go_sem high] run_minI run_maxI
attribute [local go_sem] upon2 cls_cell cls_frozen forall_const exists_eq_left'
attribute [local go_sem] FirstUpon
structure VltAt (w : World) (S : Site) (s : SSl) (b : Nat) (M : List Mv) (k : Sl) : Prop where
  blk : w.heap[b]? = some (Obj.cells #[.slice s.r.a S.rooms.length s.r.cap, .slice s.c.a S.cans.length s.c.cap, .int .i64 S.rlo, .int .i64 S.rhi, .slice s.p.a S.steps.length s.p.cap, (.slice k.a M.length k.cap)] 76)
  site : SiteAt w S s
  kept : MovesS w k M
theorem VltAt.below {w w' : World} {S : Site} {s : SSl} {b : Nat} {M : List Mv} {k : Sl} (h : VltAt w S s b M k) (hb : Below w.heap.size w w') : VltAt w' S s b M k := ⟨below_blk hb h.blk (blk_lt h.blk), h.site.below hb, h.kept.below hb⟩
theorem elInt : Elem Tryz.prog 43 3 (.int .i64 0) 1 8 := ⟨by kernel_rfl, by kernel_rfl, rfl, by omega, by omega⟩
theorem calls_drop {P : Program} {f : FuncId} {args : Array Value} {w : World} {R : Ending → World → Prop} (h : Calls P f args w R) : Calls P f args w R := h
/-- Where the cans are, in memory. -/
def WhOut (w : World) (n : Nat) (l : List Int) (e : Ending) (w' : World) : Prop := ∃ g cap, e = .returned (.slice (some ⟨g, 0, none⟩) n cap) ∧ OwnR w' w.heap.size 3 1 (.slice (some ⟨g, 0, none⟩) n cap) n (intC l) ∧ Below w.heap.size w w'
set_option maxRecDepth 100000 in
set_option maxHeartbeats 2000000 in
theorem where_any {S : Site} {s : SSl} {b : Nat} {M : List Mv} {k : Sl} {h : Int} {w : World} (hV : VltAt w S s b M k) (hn : S.cans.length ≤ 30) (hM : ∀ m ∈ M, 0 ≤ m.can ∧ m.can < S.cans.length) (hML : M.length ≤ 60) :
    Calls Tryz.prog 46 #[.pointer (some ⟨b, 0, none⟩), .int .i64 h] w (WhOut w S.cans.length (whereV S M h)) := by
  have HV := Lib.hid hV
  have x0 := hV.blk
  have hb := blk_lt x0
  have hcl := hV.site.cn.le; have hcm := hV.site.cn.max
  have hkl := hV.kept.le; have hkm := hV.kept.max
  obtain ⟨rs, ⟨ca, cc⟩, ps⟩ := s
  obtain ⟨ka, kc⟩ := k
  dsimp only at hcl hcm hkl hkm
  have HM := Lib.hid hM
  obtain ⟨n, hn'⟩ : ∃ n, n = S.cans.length := ⟨_, rfl⟩
  have HN := Lib.hid hn'
  simp only [← hn'] at hcl hn x0 ⊢
  clear hM hV hn'
  go_enter Tryz.func46, Tryz.ntmps46
  have q0c := cell_blk x0
  have q0f := frz_blk x0
  go_wp2_with (at_make; refine wpList_mk elInt rfl _ rfl n rfl (by omega) ?_)
  clear q0c q0f
  refine wp_name ?_
  intro w1 h1
  obtain ⟨g, hg⟩ : ∃ g, g = w.heap.size := ⟨_, rfl⟩
  have hE1 : Ext2 w w1 := by rw [h1]; exact below_alloc' _ _
  have hO1 : OwnR w1 w.heap.size 3 1 (.slice (some ⟨g, 0, none⟩) n n) n (fun i' _ => if i' < 0 then .int .i64 (cnD S.cans i').room else .int .i64 0) := OwnR.congr (own_made (z := #[.int .i64 0]) rfl (by omega) (by unfold maxLen; omega) (by omega) (by rw [h1, hg, Nat.mul_one]; exact blk_new _ _)) fun i j hi hj => by
    obtain rfl : j = 0 := by omega
    rfl
  have HO1 := Lib.hid hO1
  have x1 := Ext2.blk hE1 x0
  rw [← hg]
  clear h1 hO1 hg
  have q0c := cell_blk x1
  have q0f := frz_blk x1
  clear x1
  go_wp2_with (fail)
  clear q0c q0f
  go_loopw [23] (fun p wr => ∃ i : Nat, p = .int .i64 (i : Int) ∧ i ≤ n ∧ Ext2 w wr ∧ OwnR wr w.heap.size 3 1 (.slice (some ⟨g, 0, none⟩) n n) n (fun i' _ => if i' < i then .int .i64 (cnD S.cans i').room else .int .i64 0)) (fun p _ => n - (intOf p).toNat)
  case atStart => exact ⟨0, rfl, by omega, hE1, HO1.out⟩
  case round =>
    obtain ⟨i, rfl, hi, hE, hO⟩ := hrel
    have HO := Lib.hid hO; clear hO
    by_cases hlt : i < n
    · go_light
      have hlc : i < S.cans.length := by rw [← HN.out]; exact hlt
      obtain ⟨cb, coff, hca, c0, c1, c2, c3⟩ := cn_cells (HV.out.site.below hE).cn hlc
      dsimp only at hca
      subst hca
      obtain ⟨c, hc⟩ : ∃ c, c = cnD S.cans i := ⟨_, rfl⟩
      rw [← hc] at c0 c1 c2 c3
      have HC := Lib.hid hc
      obtain ⟨d0, d1, d2, d3⟩ := HO.out.cell1 hlt
      have hneq : ¬ g = wr.heap.size := by omega
      have p0 : (0 : Int) ≤ (i : Int) := by omega
      have p1 : (i : Int) < (n : Int) := by omega
      have w3 : IntKind.i64.wrap ((i : Int) + 1) = (i : Int) + 1 := IntWalk.i64_in _ (by omega)
      clear hc hlc
      go_wp2_with (fail)
      go_roundw
      case rel =>
        refine ⟨i + 1, by go_num, by omega, ?_, ?_⟩
        · exact Below.alloc (below_set hE d3) (by have := hE.size; simp; omega) _
        · refine OwnR.below (HO.out.set1 hlt _ fun i' hi' => ?_) (below_alloc' _ _)
          by_cases he : i' = i
          · subst he; rw [if_pos (by omega), if_pos rfl, ← HC.out]
          · rw [if_neg he]
            by_cases h2 : i' < i
            · rw [if_pos h2, if_pos (by omega)]
            · rw [if_neg h2, if_neg (by omega)]
      case measure => simp [intOf]; omega
    · obtain rfl : i = n := by omega
      have hO2 : OwnR wr w.heap.size 3 1 (.slice (some ⟨g, 0, none⟩) i i) i (fun i' _ => .int .i64 (atK S M i' h 0)) := HO.out.congr fun i' j hi' hj => by rw [if_pos hi']; rfl
      have HO2 := Lib.hid hO2
      have x0 := Ext2.blk hE x0
      have hr9 : ¬ (i : Int) < (i : Int) := by omega
      clear hO2 HO hE1 HO1 hlt
      have q0c := cell_blk x0
      have q0f := frz_blk x0
      go_wp2_with (fail)
      clear q0c q0f
      obtain ⟨wo, hwo⟩ : ∃ wo, wo = wr := ⟨_, rfl⟩
      go_loopw [39] (fun p wr => ∃ j : Nat, p = .int .i64 (j : Int) ∧ j ≤ M.length ∧ Ext2 w wr ∧ OwnR wr w.heap.size 3 1 (.slice (some ⟨g, 0, none⟩) i i) i (fun i' _ => .int .i64 (atK S M i' h j))) (fun p _ => M.length - (intOf p).toNat)
      case atStart => exact ⟨0, rfl, by omega, hE, HO2.out⟩
      case round =>
        obtain ⟨j, rfl, hj, hE, hO⟩ := hrel
        have HO := Lib.hid hO; clear hO
        by_cases hlt : j < M.length
        · go_light
          obtain ⟨mb, moff, hka, m0, m1, m2⟩ := mv_cells (HV.out.kept.below hE) hlt
          dsimp only at hka
          subst hka
          have hmc := HM.out _ (mvD_mem hlt)
          obtain ⟨m, hm⟩ : ∃ m, m = mvD M j := ⟨_, rfl⟩
          rw [← hm] at m0 m1 m2 hmc
          have HMJ := Lib.hid hm
          obtain ⟨c, hc⟩ : ∃ c : Nat, m.can = (c : Int) := ⟨m.can.toNat, by omega⟩
          have hcl2 : c < i := by rw [HN.out]; omega
          rw [hc] at m1
          have HCC := Lib.hid hc
          obtain ⟨d0, d1, d2, d3⟩ := HO.out.cell1 hcl2
          have hneq : ¬ g = wr.heap.size := by omega
          have p0 : (0 : Int) ≤ (j : Int) := by omega
          have p1 : (j : Int) < (M.length : Int) := by omega
          have p2 : (0 : Int) ≤ (c : Int) := by omega
          have p3 : (c : Int) < (i : Int) := by omega
          have w3 : IntKind.i64.wrap ((j : Int) + 1) = (j : Int) + 1 := IntWalk.i64_in _ (by omega)
          clear hm hc hmc
          by_cases hh : m.hour ≤ h
          · go_wp2_with (fail)
            go_roundw
            case rel =>
              refine ⟨j + 1, by go_num, by omega, ?_, ?_⟩
              · exact Below.alloc (below_set hE d3) (by have := hE.size; simp; omega) _
              · refine OwnR.below (HO.out.set1 hcl2 _ fun i' hi' => ?_) (below_alloc' _ _)
                rw [atK, ← HMJ.out, HCC.out]
                by_cases he : i' = c
                · subst he; rw [if_pos ⟨rfl, hh⟩, if_pos rfl]
                · rw [if_neg he, if_neg (fun h => he (by omega))]
            case measure => simp [intOf]; omega
          · go_wp2_with (fail)
            go_roundw
            case rel =>
              refine ⟨j + 1, by go_num, by omega, hE.trans (Below.mono (below_alloc' _ _) hE.size), ?_⟩
              refine (HO.out.below (below_alloc' _ _)).congr fun i' j' hi' hj' => ?_
              rw [atK, ← HMJ.out, if_neg (fun h => hh h.2)]
            case measure => simp [intOf]; omega
        · obtain rfl : j = M.length := by omega
          have hout : WhOut w i (whereV S M h) (.returned (.slice (some ⟨g, 0, none⟩) i i)) wr := ⟨g, i, rfl, HO.out.congr fun i' j' hi' hj' => by
            unfold intC; rw [whereV_at (by rw [← HN.out]; exact hi')]; rfl, hE⟩
          have HOUT := Lib.hid hout
          have hr8 : ¬ (M.length : Int) < (M.length : Int) := by omega
          clear hout HO
          go_wp2_with (fail)
          go_ret
          exact HOUT.out
end Go.Proofs.YtfpaihjcbpaneaaGreatDoor
namespace Go.Proofs.YtfpaihjcbpaneaaGreatDoor
open Go.RowKit D
set_option linter.unusedVariables false
set_option linter.unusedSimpArgs false
attribute [local go_sem high] run_minI run_maxI
attribute [local go_sem] upon2 cls_cell cls_frozen forall_const exists_eq_left'
attribute [local go_sem] FirstUpon
theorem ext_cell' {w W : World} (h : Below w.heap.size w W) {b o : Nat} {x : Value} (hc : w.cell? ⟨b, o, none⟩ = some x) : W.cell? ⟨b, o, none⟩ = some x := (Below.cell (p := ⟨b, o, none⟩) h (cell_lt hc)).trans hc
theorem share_b (n r : Int) (W : World) (h1 : -90000 ≤ n * r) (h2 : n * r ≤ 90000) : Calls Tryz.prog 90 #[.int .i64 n, .int .i64 r] W fun e w' => e = .returned (.int .i64 (n * r / 100)) ∧ Below W.heap.size W w' := (share_any n r W h1 h2).mono fun e w' ⟨he, hw⟩ => ⟨he, by rw [← hw]; exact Below.refl _ _⟩
theorem turn_two {b : Nat} {W : World} {x y : Value} {t : TypeId} (hb : W.heap[b]? = some (.cells #[x, y] t (0, 0))) (u v : Value) : Turn b (.cells #[u, v] t (0, 0)) W ((W.setCell ⟨b, 0, none⟩ u).setCell ⟨b, 1, none⟩ v) := by
  have h := (turn_set (o := 0) hb u).set (o := 1) v
  simpa using h
set_option maxRecDepth 100000 in
set_option maxHeartbeats 8000000 in
theorem warm_any {S : Site} {s : SSl} {b : Nat} {M : List Mv} {k : Sl} {t : Span} {r : Nat} {w : World} (hV : VltAt w S s b M k) (hr : r < S.rooms.length) (hR : RateIn S) (hI : RIn (rmD S.rooms r)) (ht : TIn t) :
    Calls Tryz.prog 65 #[.pointer (some ⟨b, 0, none⟩), .agg #[.int .i64 t.lo, .int .i64 t.hi], .int .i64 (r : Int)] w fun e w' => e = .returned (.agg #[.int .i64 (warmV S (rmD S.rooms r) t).lo, .int .i64 (warmV S (rmD S.rooms r) t).hi]) ∧ Below w.heap.size w w' := by
  have x0 := hV.blk
  have hrl := hV.site.rm.le; have hrm := hV.site.rm.max
  obtain ⟨rb, roff, hra, hc⟩ := rm_cells hV.site.rm hr
  have c1 := hc.c1; have c2 := hc.c2
  obtain ⟨⟨ra, rc⟩, cs, ps⟩ := s
  dsimp only at hra hrl hrm
  subst hra
  obtain ⟨lo, hlo⟩ : ∃ x, x = (rmD S.rooms r).tlo := ⟨_, rfl⟩
  obtain ⟨hi, hhi⟩ : ∃ x, x = (rmD S.rooms r).thi := ⟨_, rfl⟩
  obtain ⟨i1, i2, i3, i4, -, -, -, -⟩ := hI
  obtain ⟨t1, t2, t3, t4⟩ := ht
  obtain ⟨s1, s2, s3, s4⟩ := hR
  unfold warmV
  rw [← hlo] at c1 i1 i2 ⊢
  rw [← hhi] at c2 i3 i4 ⊢
  simp only
  have p0 : (0 : Int) ≤ (r : Int) := by omega
  have p1 : (r : Int) < (S.rooms.length : Int) := by omega
  clear hlo hhi hc hV
  have hlb := blk_lt x0
  have lrb := cell_lt c1
  dsimp only at lrb
  have key : ∀ (A B : Int), (A = S.rlo ∨ A = S.rhi) → (B = S.rlo ∨ B = S.rhi) → (A = if lo < t.lo then S.rhi else S.rlo) → (B = if t.hi < hi then S.rhi else S.rlo) → Calls Tryz.prog 65 #[.pointer (some ⟨b, 0, none⟩), .agg #[.int .i64 t.lo, .int .i64 t.hi], .int .i64 (r : Int)] w fun e w' => e = .returned (.agg #[.int .i64 (t.lo + (lo - t.lo) * A / 100), .int .i64 (t.hi - (t.hi - hi) * B / 100)]) ∧ Below w.heap.size w w' := by
    intro A B hA hB hA2 hB2
    have mA := mul_in (n := lo - t.lo) (r := A) (by omega) (by omega) (by omega)
    have mB := mul_in (n := t.hi - hi) (r := B) (by omega) (by omega) (by omega)
    have HA := Lib.hid fun W => share_b (lo - t.lo) A W mA.1 mA.2
    have HB := Lib.hid fun W => share_b (t.hi - hi) B W mB.1 mB.2
    obtain ⟨P, hP⟩ : ∃ P, P = (lo - t.lo) * A / 100 := ⟨_, rfl⟩
    obtain ⟨Q, hQ⟩ : ∃ Q, Q = (t.hi - hi) * B / 100 := ⟨_, rfl⟩
    have bP : -900 ≤ P ∧ P ≤ 900 := by omega
    have bQ : -900 ≤ Q ∧ Q ≤ 900 := by omega
    rw [← hP] at HA ⊢
    rw [← hQ] at HB ⊢
    have e1 : IntKind.i64.wrap (lo - t.lo) = lo - t.lo := IntWalk.i64_in _ (by omega)
    have e2 : IntKind.i64.wrap (t.hi - hi) = t.hi - hi := IntWalk.i64_in _ (by omega)
    have e3 : IntKind.i64.wrap (t.lo + P) = t.lo + P := IntWalk.i64_in _ (by omega)
    have e4 : IntKind.i64.wrap (t.hi - Q) = t.hi - Q := IntWalk.i64_in _ (by omega)
    have HA2 := Lib.hid hA2; have HB2 := Lib.hid hB2
    clear hP hQ mA mB hA hB hA2 hB2
    go_enter Tryz.func65, Tryz.ntmps65
    go_wp2_with (fail)
    refine wp_name ?_
    intro w1 h1
    obtain ⟨b4, hb4⟩ : ∃ b, b = w.heap.size := ⟨_, rfl⟩
    obtain ⟨b6, hb6⟩ : ∃ b, b = w.heap.size + 1 := ⟨_, rfl⟩
    have y4 : w1.heap[b4]? = some (Obj.cells #[.int .i64 t.lo, .int .i64 t.hi] 25) := by rw [h1, hb4]; exact blk_alloc (blk_new _ _) _
    have y6 : w1.heap[b6]? = some (Obj.cells #[.int .i64 0, .int .i64 0] 25) := by rw [h1, hb6]; exact blk_new' _ _ (by simp)
    have hB1 : Below w.heap.size w w1 := by rw [h1]; exact Below.alloc (below_alloc _ _) (by simp) _
    have hle6 : w.heap.size ≤ b6 := by omega
    have hb46 : b4 ≠ b6 := by omega
    have x1 := below_blk hB1 x0 hlb
    have d1 := ext_cell' hB1 c1; have d2 := ext_cell' hB1 c2
    rw [← hb6, ← hb4]
    have Y4 := Lib.hid y4; have Y6 := Lib.hid y6
    clear h1 hb4 hb6 x0 c1 c2 y4 y6
    have q0c := cell_blk x1
    have q0f := frz_blk x1
    refine region_ev [] [0, 1, 2, 3, 4, 5, 6, 7, 8, 9, 10, 11, 12, 13] [(14, 7, some 16), (15, 8, some 17)] [] (by kernel_rfl) (by kernel_rfl) (by intro c a d v w h; cases d <;> exact h) ?_
    simp only [picks, List.drop_succ_cons, List.drop_zero]
    repeat (refine wpQ0_step (fun K hK => ?_); go_simp; (refine hK _ ?_; clear hK K))
    refine wpQ0_nil ?_
    repeat ((with_reducible refine wpQ2_step (fun K hK => ?_)); go_simp; first | ((with_reducible refine hK _ ?_); clear hK K) | (apply Exists.intro; refine ⟨fun x => ?_, hK _ ?_⟩; (fail); clear hK K))
    refine wpQ2_nil ?_
    refine Events.fill2 (fun b => .pointer (some ⟨b, 0, none⟩)) (Obj.cells #[.int .i64 0, .int .i64 0] 25) (Obj.cells #[.int .i64 lo, .int .i64 hi] 25) (fun b => .pointer (some ⟨b, 0, none⟩)) (Obj.cells #[.int .i64 0, .int .i64 0] 25) (Obj.cells #[.int .i64 S.rlo, .int .i64 S.rhi] 25) ⟨_, rfl, rfl, rfl, fun W => by kernel_rfl⟩ ⟨_, rfl, rfl, rfl, fun b W hb => ?_⟩ ⟨_, rfl, rfl, rfl, fun W => by kernel_rfl⟩ ⟨_, rfl, rfl, rfl, fun b W hb => ?_⟩ (by omega) fun b7 b8 w2 hb7 hb8 hneb7 hg2 nb7 nb8 => ?_
    · have hbc := cell_blk hb; have hbf := frz_blk hb; go_simp; exact turn_two hb _ _
    · have hbc := cell_blk hb; have hbf := frz_blk hb; go_simp; exact turn_two hb _ _
    simp only [picks, List.drop_succ_cons, List.drop_zero]
    have hB2 := below_ext hB1 hg2
    have Y42 := Lib.hid (Ext2.blk hg2 Y4.out); have Y62 := Lib.hid (Ext2.blk hg2 Y6.out)
    have N7 := Lib.hid nb7; have N8 := Lib.hid nb8
    clear q0c q0f x1 d1 d2 hg2 Y4 Y6
    have q8c := cell_blk nb8
    have q8f := frz_blk nb8
    go_wp2_with (fail)
    refine region_ev [] [0, 1, 2, 3, 4, 5] [] [] (by kernel_rfl) (by kernel_rfl) (by intro c a d v w h; cases d <;> exact h) ?_
    simp only [picks, List.drop_succ_cons, List.drop_zero]
    repeat (refine wpQ0_step (fun K hK => ?_); go_simp; (refine hK _ ?_; clear hK K))
    refine wpQ0_nil ?_
    repeat ((with_reducible refine wpQ2_step (fun K hK => ?_)); go_simp; first | ((with_reducible refine hK _ ?_); clear hK K) | (apply Exists.intro; refine ⟨fun x => ?_, hK _ ?_⟩; (fail); clear hK K))
    refine wpQ2_nil ?_
    refine Events.none_ fun w3 hg3 => ?_
    simp only [picks, List.drop_succ_cons, List.drop_zero]
    have hB3 := below_ext hB2 hg3
    have z4 := Ext2.blk hg3 Y42.out; have z6 := Ext2.blk hg3 Y62.out; have z7 := Ext2.blk hg3 N7.out; have z8 := Ext2.blk hg3 N8.out
    have Z4 := Lib.hid z4; have Z6 := Lib.hid z6; have Z7 := Lib.hid z7
    clear q8c q8f nb7 nb8 Y42 Y62 N7 N8 hg3
    have q4c := cell_blk z4
    have q4f := frz_blk z4
    have q7c := cell_blk z7
    have q7f := frz_blk z7
    have q8c := cell_blk z8
    have q8f := frz_blk z8
    have hfin : ∀ w5 w6 : World, Ext2 w3 w5 → w6 = (w5.setCell ⟨b6, 0, none⟩ (.int .i64 (t.lo + P))).setCell ⟨b6, 1, none⟩ (.int .i64 (t.hi - Q)) → w6.heap[b6]? = some (Obj.cells #[.int .i64 (t.lo + P), .int .i64 (t.hi - Q)] 25) ∧ Below w.heap.size w w6 := fun w5 w6 h5 h6 => by
      rw [h6]
      exact ⟨Eq.trans (blk_set (blk_set (Ext2.blk h5 z6) _ _) _ _) rfl, below_set (below_set (below_ext hB3 h5) hle6) hle6⟩
    have HFIN := Lib.hid hfin
    clear hfin z4 z6 z7 z8
    by_cases hc1 : lo < t.lo <;> by_cases hc2 : t.hi < hi
    · obtain rfl : A = S.rhi := by rw [HA2.out, if_pos hc1]
      obtain rfl : B = S.rhi := by rw [HB2.out, if_pos hc2]
      clear HA2 HB2
      go_wp2_with (fail)
      refine region_ev [] [0, 1, 2, 3, 4, 5, 6, 7, 8, 9, 10, 11, 12, 13, 14, 15, 16, 17, 18, 19, 20] [] [21] (by kernel_rfl) (by kernel_rfl) (by intro c a d v w h; cases d <;> exact h) ?_
      simp only [picks, List.drop_succ_cons, List.drop_zero]
      repeat (refine wpQ0_step (fun K hK => ?_); go_simp; (refine hK _ ?_; clear hK K))
      refine wpQ0_nil ?_
      repeat ((with_reducible refine wpQ2_step (fun K hK => ?_)); go_simp; first | ((with_reducible refine hK _ ?_); clear hK K) | (apply Exists.intro; refine ⟨fun x => ?_, hK _ ?_⟩; (first | (with_reducible exact HA.out x.1) | (with_reducible exact HB.out x.1)); clear hK K))
      refine wpQ2_nil ?_
      refine Events.none_ fun w5 hg5 => ?_
      simp only [picks, List.drop_succ_cons, List.drop_zero]
      have z6 := Ext2.blk hg5 Z6.out
      clear q4c q4f q7c q7f q8c q8f
      have q6c := cell_blk z6
      have q6f := frz_blk z6
      go_wp2_with (fail)
      obtain ⟨y6, hB6⟩ := HFIN.out w5 _ hg5 rfl
      clear q6c q6f
      have q6c := cell_blk y6
      have q6f := frz_blk y6
      refine bodyPost_ret (v := .agg #[.int .i64 (t.lo + P), .int .i64 (t.hi - Q)]) ?_ rfl ⟨rfl, hB6⟩
      simp [results, Tryz.results65, go_sem, q6c]
    · obtain rfl : A = S.rhi := by rw [HA2.out, if_pos hc1]
      obtain rfl : B = S.rlo := by rw [HB2.out, if_neg hc2]
      clear HA2 HB2
      go_wp2_with (fail)
      refine region_ev [] [0, 1, 2, 3, 4, 5, 6, 7, 8, 9, 10, 11, 12, 13, 14, 15, 16, 17, 18, 19, 20] [] [21] (by kernel_rfl) (by kernel_rfl) (by intro c a d v w h; cases d <;> exact h) ?_
      simp only [picks, List.drop_succ_cons, List.drop_zero]
      repeat (refine wpQ0_step (fun K hK => ?_); go_simp; (refine hK _ ?_; clear hK K))
      refine wpQ0_nil ?_
      repeat ((with_reducible refine wpQ2_step (fun K hK => ?_)); go_simp; first | ((with_reducible refine hK _ ?_); clear hK K) | (apply Exists.intro; refine ⟨fun x => ?_, hK _ ?_⟩; (first | (with_reducible exact HA.out x.1) | (with_reducible exact HB.out x.1)); clear hK K))
      refine wpQ2_nil ?_
      refine Events.none_ fun w5 hg5 => ?_
      simp only [picks, List.drop_succ_cons, List.drop_zero]
      have z6 := Ext2.blk hg5 Z6.out
      clear q4c q4f q7c q7f q8c q8f
      have q6c := cell_blk z6
      have q6f := frz_blk z6
      go_wp2_with (fail)
      obtain ⟨y6, hB6⟩ := HFIN.out w5 _ hg5 rfl
      clear q6c q6f
      have q6c := cell_blk y6
      have q6f := frz_blk y6
      refine bodyPost_ret (v := .agg #[.int .i64 (t.lo + P), .int .i64 (t.hi - Q)]) ?_ rfl ⟨rfl, hB6⟩
      simp [results, Tryz.results65, go_sem, q6c]
    · obtain rfl : A = S.rlo := by rw [HA2.out, if_neg hc1]
      obtain rfl : B = S.rhi := by rw [HB2.out, if_pos hc2]
      clear HA2 HB2
      go_wp2_with (fail)
      refine region_ev [] [0, 1, 2, 3, 4, 5, 6, 7, 8, 9, 10, 11, 12, 13, 14, 15, 16, 17, 18, 19, 20] [] [21] (by kernel_rfl) (by kernel_rfl) (by intro c a d v w h; cases d <;> exact h) ?_
      simp only [picks, List.drop_succ_cons, List.drop_zero]
      repeat (refine wpQ0_step (fun K hK => ?_); go_simp; (refine hK _ ?_; clear hK K))
      refine wpQ0_nil ?_
      repeat ((with_reducible refine wpQ2_step (fun K hK => ?_)); go_simp; first | ((with_reducible refine hK _ ?_); clear hK K) | (apply Exists.intro; refine ⟨fun x => ?_, hK _ ?_⟩; (first | (with_reducible exact HA.out x.1) | (with_reducible exact HB.out x.1)); clear hK K))
      refine wpQ2_nil ?_
      refine Events.none_ fun w5 hg5 => ?_
      simp only [picks, List.drop_succ_cons, List.drop_zero]
      have z6 := Ext2.blk hg5 Z6.out
      clear q4c q4f q7c q7f q8c q8f
      have q6c := cell_blk z6
      have q6f := frz_blk z6
      go_wp2_with (fail)
      obtain ⟨y6, hB6⟩ := HFIN.out w5 _ hg5 rfl
      clear q6c q6f
      have q6c := cell_blk y6
      have q6f := frz_blk y6
      refine bodyPost_ret (v := .agg #[.int .i64 (t.lo + P), .int .i64 (t.hi - Q)]) ?_ rfl ⟨rfl, hB6⟩
      simp [results, Tryz.results65, go_sem, q6c]
    · obtain rfl : A = S.rlo := by rw [HA2.out, if_neg hc1]
      obtain rfl : B = S.rlo := by rw [HB2.out, if_neg hc2]
      clear HA2 HB2
      go_wp2_with (fail)
      refine region_ev [] [0, 1, 2, 3, 4, 5, 6, 7, 8, 9, 10, 11, 12, 13, 14, 15, 16, 17, 18, 19, 20] [] [21] (by kernel_rfl) (by kernel_rfl) (by intro c a d v w h; cases d <;> exact h) ?_
      simp only [picks, List.drop_succ_cons, List.drop_zero]
      repeat (refine wpQ0_step (fun K hK => ?_); go_simp; (refine hK _ ?_; clear hK K))
      refine wpQ0_nil ?_
      repeat ((with_reducible refine wpQ2_step (fun K hK => ?_)); go_simp; first | ((with_reducible refine hK _ ?_); clear hK K) | (apply Exists.intro; refine ⟨fun x => ?_, hK _ ?_⟩; (first | (with_reducible exact HA.out x.1) | (with_reducible exact HB.out x.1)); clear hK K))
      refine wpQ2_nil ?_
      refine Events.none_ fun w5 hg5 => ?_
      simp only [picks, List.drop_succ_cons, List.drop_zero]
      have z6 := Ext2.blk hg5 Z6.out
      clear q4c q4f q7c q7f q8c q8f
      have q6c := cell_blk z6
      have q6f := frz_blk z6
      go_wp2_with (fail)
      obtain ⟨y6, hB6⟩ := HFIN.out w5 _ hg5 rfl
      clear q6c q6f
      have q6c := cell_blk y6
      have q6f := frz_blk y6
      refine bodyPost_ret (v := .agg #[.int .i64 (t.lo + P), .int .i64 (t.hi - Q)]) ?_ rfl ⟨rfl, hB6⟩
      simp [results, Tryz.results65, go_sem, q6c]
  exact key _ _ (by split <;> simp) (by split <;> simp) rfl rfl
end Go.Proofs.YtfpaihjcbpaneaaGreatDoor
namespace Go.Proofs.YtfpaihjcbpaneaaGreatDoor.D
def amtsV (S : Site) (wh : List Int) : List Int := (List.range S.rooms.length).map fun r => amt S wh r
theorem amtsV_at {S : Site} {wh : List Int} {r : Nat} (h : r < S.rooms.length) : intD (amtsV S wh) r = amt S wh r := by
  unfold intD amtsV; rw [List.getD_eq_getElem?_getD, List.getElem?_map]; simp [h]
end Go.Proofs.YtfpaihjcbpaneaaGreatDoor.D
namespace Go.Proofs.YtfpaihjcbpaneaaGreatDoor
open Go.RowKit D
set_option linter.unusedVariables false
set_option linter.unusedSimpArgs false
attribute [local go_sem high] run_minI run_maxI
attribute [local go_sem] upon2 cls_cell cls_frozen forall_const exists_eq_left'
attribute [local go_sem] FirstUpon
theorem int_cell {w : World} {s : Sl} {l : List Int} (h : IntsS w s l) {i : Nat} (hi : i < l.length) : ∃ b off, s.a = some ⟨b, off, none⟩ ∧ w.cell? ⟨b, off + i, none⟩ = some (.int .i64 (intD l i)) := by
  obtain ⟨b, off, ha, h0⟩ := h.cell i 0 hi (by omega)
  rw [Nat.mul_one, Nat.add_zero] at h0
  exact ⟨b, off, ha, h0⟩
set_option maxRecDepth 100000 in
set_option maxHeartbeats 2000000 in
theorem amounts_any {S : Site} {s : SSl} {b : Nat} {M : List Mv} {k t : Sl} {wh : List Int} {w : World} (hV : VltAt w S s b M k) (hC : CansOk S) (hn : S.cans.length ≤ 30) (hr : S.rooms.length ≤ 12) (hT : IntsS w t wh) (hl : wh.length = S.cans.length) (hw : ∀ i, i < S.cans.length → 0 ≤ intD wh i ∧ intD wh i < S.rooms.length) :
    Calls Tryz.prog 83 #[.pointer (some ⟨b, 0, none⟩), .slice t.a S.cans.length t.cap] w (WhOut w S.rooms.length (amtsV S wh)) := by
  have HV := Lib.hid hV; have HT := Lib.hid hT
  have x0 := hV.blk
  have hb := blk_lt x0
  have hcl := hV.site.cn.le; have hcm := hV.site.cn.max
  have htl := hT.le; have htm := hT.max
  obtain ⟨rs, ⟨ca, cc⟩, ps⟩ := s
  obtain ⟨ta, tc⟩ := t
  dsimp only at hcl hcm htl htm
  have HW := Lib.hid hw; have HL := Lib.hid hl; have HC := Lib.hid hC
  obtain ⟨n, hn'⟩ : ∃ n, n = S.rooms.length := ⟨_, rfl⟩
  have HN := Lib.hid hn'
  simp only [← hn'] at hr x0 ⊢
  obtain ⟨m, hm'⟩ : ∃ m, m = S.cans.length := ⟨_, rfl⟩
  have HMM := Lib.hid hm'
  rw [hl] at htl
  simp only [← hm'] at hcl hn x0 htl ⊢
  clear hw hV hn' hm' hT hl hC
  go_enter Tryz.func83, Tryz.ntmps83
  have q0c := cell_blk x0
  have q0f := frz_blk x0
  go_wp2_with (at_make; refine wpList_mk elInt rfl _ rfl n rfl (by omega) ?_)
  clear q0c q0f
  refine wp_name ?_
  intro w1 h1
  obtain ⟨g, hg⟩ : ∃ g, g = w.heap.size := ⟨_, rfl⟩
  have hE1 : Ext2 w w1 := by rw [h1]; exact below_alloc' _ _
  have hO1 : OwnR w1 w.heap.size 3 1 (.slice (some ⟨g, 0, none⟩) n n) n (fun r _ => .int .i64 (amtK S.cans wh (r : Int) 0)) := OwnR.congr (own_made (z := #[.int .i64 0]) rfl (by omega) (by unfold maxLen; omega) (by omega) (by rw [h1, hg, Nat.mul_one]; exact blk_new _ _)) fun i j hi hj => by
    obtain rfl : j = 0 := by omega
    rfl
  have HO1 := Lib.hid hO1
  have x1 := Ext2.blk hE1 x0
  rw [← hg]
  clear h1 hO1 hg
  have q0c := cell_blk x1
  have q0f := frz_blk x1
  clear x1
  go_wp2_with (fail)
  clear q0c q0f
  go_loopw [21] (fun p wr => ∃ i : Nat, p = .int .i64 (i : Int) ∧ i ≤ m ∧ Ext2 w wr ∧ OwnR wr w.heap.size 3 1 (.slice (some ⟨g, 0, none⟩) n n) n (fun r _ => .int .i64 (amtK S.cans wh (r : Int) i))) (fun p _ => m - (intOf p).toNat)
  case atStart => exact ⟨0, rfl, by omega, hE1, HO1.out⟩
  case round =>
    obtain ⟨i, rfl, hi, hE, hO⟩ := hrel
    have HO := Lib.hid hO; clear hO
    by_cases hlt : i < m
    · go_light
      have hlc : i < S.cans.length := by rw [← HMM.out]; exact hlt
      obtain ⟨cb, coff, hca, c0, c1, c2, c3⟩ := cn_cells (HV.out.site.below hE).cn hlc
      dsimp only at hca
      subst hca
      obtain ⟨c, hc⟩ : ∃ c, c = cnD S.cans i := ⟨_, rfl⟩
      have hfr := HC.out.frames i hlc
      have hac := amtK_nonneg HC.out (wh := wh) (r := intD wh i) (k := i) (by omega)
      rw [← hc] at c0 c1 c2 c3 hfr
      have hwi := HW.out i hlc
      obtain ⟨tb, toff, hta, t0⟩ := int_cell (HT.out.below hE) (i := i) (by rw [HL.out]; exact hlc)
      dsimp only at hta
      subst hta
      obtain ⟨r, hr0⟩ : ∃ r : Nat, intD wh i = (r : Int) := ⟨(intD wh i).toNat, by omega⟩
      rw [hr0] at t0 hwi hac
      have HR0 := Lib.hid hr0
      have HCI := Lib.hid hc
      have hrn : r < n := by rw [HN.out]; omega
      obtain ⟨d0, d1, d2, d3⟩ := HO.out.cell1 hrn
      obtain ⟨A, hA⟩ : ∃ A, A = amtK S.cans wh (r : Int) i := ⟨_, rfl⟩
      rw [← hA] at d0 hac
      have HA := Lib.hid hA
      have hneq : ¬ g = wr.heap.size := by omega
      have p0 : (0 : Int) ≤ (i : Int) := by omega
      have p1 : (i : Int) < (m : Int) := by omega
      have p2 : (0 : Int) ≤ (r : Int) := by omega
      have p3 : (r : Int) < (n : Int) := by omega
      have w3 : IntKind.i64.wrap ((i : Int) + 1) = (i : Int) + 1 := IntWalk.i64_in _ (by omega)
      have w4 : IntKind.i64.wrap (A + c.frames) = A + c.frames := IntWalk.i64_in _ (by omega)
      clear hc hlc hr0 hA hwi
      by_cases hbs : c.base = 1
      · have hb1 : (c.base == 1) = true := by simp [hbs]
        have HB := Lib.hid hbs; clear hbs
        go_wp2_with (fail)
        refine wp_name ?_
        intro w2 h2
        have hB2 : Below wr.heap.size wr w2 := by rw [h2]; exact below_alloc _ _
        have hE2 := ext_trans hE hB2
        have y2 : w2.heap[wr.heap.size]? = some (Obj.cells #[.string c.name, .int .i64 c.base, .int .i64 c.frames, .int .i64 c.room] 124) := by rw [h2]; exact blk_new _ _
        have t2 := (hB2.cell (p := ⟨tb, toff + i, none⟩) (cell_lt t0)).trans t0
        have HO2 := Lib.hid (HO.out.below hB2)
        obtain ⟨f0, f1, f2, f3⟩ := HO2.out.cell1 hrn
        rw [← HA.out] at f0
        obtain ⟨yb, hyb⟩ : ∃ yb, yb = wr.heap.size := ⟨_, rfl⟩
        rw [← hyb] at y2 ⊢
        have hgy : ¬ yb = g := by omega
        clear h2 t0 d0 d1 c0 c1 c2 c3 hyb
        have q0c := cell_blk y2
        have q0f := frz_blk y2
        refine region_ev [] [0, 1, 2, 3, 4, 5, 6, 7, 8, 9, 10] [] [11] (by kernel_rfl) (by kernel_rfl) (by intro c a d v w h; cases d <;> exact h) ?_
        simp only [picks, List.drop_succ_cons, List.drop_zero]
        repeat (refine wpQ0_step (fun K hK => ?_); go_simp; (refine hK _ ?_; clear hK K))
        refine wpQ0_nil ?_
        repeat ((with_reducible refine wpQ2_step (fun K hK => ?_)); go_simp; first | ((with_reducible refine hK _ ?_); clear hK K) | (apply Exists.intro; refine ⟨fun x => ?_, hK _ ?_⟩; (fail); clear hK K))
        refine wpQ2_nil ?_
        refine Events.none_ fun w3 hg3 => ?_
        simp only [picks, List.drop_succ_cons, List.drop_zero]
        have hE3 := ext_trans hE2 hg3
        have HO3 := Lib.hid (HO2.out.below hg3)
        clear f0 f1 f2 f3 q0c q0f t2
        obtain ⟨f0, f1, f2, f3⟩ := HO3.out.cell1 hrn
        go_wp2_with (fail)
        go_roundw
        case rel =>
          refine ⟨i + 1, by go_num, by omega, below_set hE3 f3, HO3.out.set1 hrn _ fun r' hr' => ?_⟩
          rw [amtK, HR0.out, ← HCI.out]
          by_cases he : r' = r
          · subst he; rw [if_pos ⟨rfl, HB.out⟩, if_pos rfl, HA.out]
          · rw [if_neg (fun h => he (by omega)), if_neg he, Int.add_zero]
        case measure => simp [intOf]; omega
      · have hb1 : (c.base == 1) = false := by simp [hbs]
        have HB := Lib.hid hbs; clear hbs
        go_wp2_with (fail)
        go_roundw
        case rel =>
          refine ⟨i + 1, by go_num, by omega, hE.trans (Below.mono (below_alloc' _ _) hE.size), ?_⟩
          refine (HO.out.below (below_alloc' _ _)).congr fun i' j' hi' hj' => ?_
          rw [amtK, ← HCI.out, if_neg (fun h => HB.out h.2), Int.add_zero]
        case measure => simp [intOf]; omega
    · obtain rfl : i = m := by omega
      have hout : WhOut w n (amtsV S wh) (.returned (.slice (some ⟨g, 0, none⟩) n n)) wr := ⟨g, n, rfl, HO.out.congr fun r j hr' hj => by
        unfold intC; rw [amtsV_at (by rw [← HN.out]; exact hr')]; unfold amt; rw [← HMM.out], hE⟩
      have HOUT := Lib.hid hout
      have hr8 : ¬ (i : Int) < (i : Int) := by omega
      clear hout HO
      go_wp2_with (fail)
      go_ret
      exact HOUT.out
end Go.Proofs.YtfpaihjcbpaneaaGreatDoor
namespace Go.Proofs.YtfpaihjcbpaneaaGreatDoor
open Go.RowKit D
set_option linter.unusedVariables false
set_option linter.unusedSimpArgs false
attribute [local go_sem high] run_minI run_maxI
attribute [local go_sem] upon2 cls_cell cls_frozen forall_const exists_eq_left'
attribute [local go_sem] FirstUpon
/-- The boxes that near's functions share: the vault, and the amounts. -/
structure NrBox (w : World) (S : Site) (s : SSl) (b b1 b2 : Nat) (am : List Int) (t : Sl) : Prop where
  vlt : ∃ M k, VltAt w S s b M k
  box1 : w.heap[b1]? = some (.cells #[.pointer (some ⟨b, 0, none⟩)] 66 (0, 0))
  box2 : w.heap[b2]? = some (.cells #[.slice t.a am.length t.cap] 43 (0, 0))
  am : IntsS w t am
theorem NrBox.below {w w' : World} {S : Site} {s : SSl} {b b1 b2 : Nat} {am : List Int} {t : Sl} (h : NrBox w S s b b1 b2 am t) (hb : Below w.heap.size w w') : NrBox w' S s b b1 b2 am t := by
  obtain ⟨⟨M, k, hv⟩, h1, h2, h3⟩ := h
  exact ⟨⟨M, k, hv.below hb⟩, below_blk hb h1 (blk_lt h1), below_blk hb h2 (blk_lt h2), h3.below hb⟩
set_option maxRecDepth 100000 in
set_option maxHeartbeats 2000000 in
theorem keep_any {S : Site} {s : SSl} {b b1 b2 : Nat} {am : List Int} {t : Sl} {a : Nat} {w : World} (hB : NrBox w S s b b1 b2 am t) (ha : a < am.length) (hs : S.steps.length ≤ 8) :
    Calls Tryz.prog 84 (#[.int .i64 (a : Int)] ++ #[.pointer (some ⟨b1, 0, none⟩), .pointer (some ⟨b2, 0, none⟩)]) w fun e w' => e = .returned (.int .i64 (met S (intD am a))) ∧ Below w.heap.size w w' := by
  have HB := Lib.hid hB
  obtain ⟨⟨M, k, hv⟩, x1, x2, hI⟩ := hB
  have x0 := hv.blk
  have hpl := hv.site.st.le; have hpm := hv.site.st.max
  obtain ⟨tb, toff, hta, t0⟩ := int_cell hI ha
  have htl := hI.le; have htm := hI.max
  obtain ⟨ta, tc⟩ := t
  dsimp only at hta htl htm
  subst hta
  obtain ⟨rs, cs, ⟨pa, pc⟩⟩ := s
  dsimp only at hpl hpm
  have X0 := Lib.hid x0; have X1 := Lib.hid x1; have X2 := Lib.hid x2; have HV := Lib.hid hv; have HI := Lib.hid hI
  obtain ⟨A, hA⟩ : ∃ A, A = intD am a := ⟨_, rfl⟩
  rw [← hA]
  have HA := Lib.hid hA
  clear hv hI t0 hA
  go_enter Tryz.func84, Tryz.ntmps84
  have q0c := cell_blk x0
  have q0f := frz_blk x0
  have q1c := cell_blk x1
  have q1f := frz_blk x1
  go_wp2_with (fail)
  clear q0c q0f q1c q1f x0 x1 x2
  go_loopw [4, 13] (fun v p wr => ∃ i : Nat, p = .int .i64 (i : Int) ∧ i ≤ S.steps.length ∧ v = .int .i64 (metK S.steps A i) ∧ Ext2 w wr) (fun _ p _ => S.steps.length - (intOf p).toNat)
  case atStart => exact ⟨0, rfl, by omega, rfl, Below.refl _ _⟩
  case round =>
    obtain ⟨i, rfl, hi, rfl, hE⟩ := hrel
    by_cases hlt : i < S.steps.length
    · go_light
      obtain ⟨pb, poff, hpa, c0, c1⟩ := st_cells (HV.out.site.below hE).st hlt
      dsimp only at hpa
      subst hpa
      obtain ⟨c, hc⟩ : ∃ c, c = stD S.steps i := ⟨_, rfl⟩
      rw [← hc] at c0 c1
      have HC := Lib.hid hc
      have p0 : (0 : Int) ≤ (i : Int) := by omega
      have p1 : (i : Int) < (S.steps.length : Int) := by omega
      have p2 : (0 : Int) ≤ (a : Int) := by omega
      have p3 : (a : Int) < (am.length : Int) := by omega
      have w3 : IntKind.i64.wrap ((i : Int) + 1) = (i : Int) + 1 := IntWalk.i64_in _ (by omega)
      clear hc
      go_wp2_with (fail)
      refine wp_name ?_
      intro w2 h2
      have hB2 : Ext2 wr w2 := by rw [h2]; exact below_alloc _ _
      have y2 : w2.heap[wr.heap.size]? = some (Obj.cells #[.int .i64 c.over, .int .i64 c.metres] 128) := by rw [h2]; exact blk_new _ _
      have hE2 := ext_trans hE hB2
      have x2 := Ext2.blk hE2 X2.out
      obtain ⟨_, _, e0, t0⟩ := int_cell (HI.out.below hE2) ha
      obtain ⟨rfl, rfl⟩ : tb = _ ∧ toff = _ := by simpa using e0
      rw [← HA.out] at t0
      obtain ⟨yb, hyb⟩ : ∃ yb, yb = wr.heap.size := ⟨_, rfl⟩
      rw [← hyb] at y2 ⊢
      clear h2 c0 c1 e0 hyb
      by_cases hlo : c.over < A
      · have hd : decide (c.over < A) = true := decide_eq_true hlo
        have HLO := Lib.hid hlo; clear hlo
        have q0c := cell_blk y2
        have q0f := frz_blk y2
        have q2c := cell_blk x2
        have q2f := frz_blk x2
        refine region_ev [] [0, 1, 2, 3, 4, 5, 6] [] [] (by kernel_rfl) (by kernel_rfl) (by intro c a d v w h; cases d <;> exact h) ?_
        simp only [picks, List.drop_succ_cons, List.drop_zero]
        repeat (refine wpQ0_step (fun K hK => ?_); go_simp; (refine hK _ ?_; clear hK K))
        refine wpQ0_nil ?_
        repeat ((with_reducible refine wpQ2_step (fun K hK => ?_)); go_simp; first | ((with_reducible refine hK _ ?_); clear hK K) | (apply Exists.intro; refine ⟨fun x => ?_, hK _ ?_⟩; (fail); clear hK K))
        refine wpQ2_nil ?_
        refine Events.none_ fun w3 hg3 => ?_
        simp only [picks, List.drop_succ_cons, List.drop_zero]
        have hE3 := ext_trans hE2 hg3
        have y3 := Ext2.blk hg3 y2
        clear q0c q0f q2c q2f t0 x2 y2
        have q0c := cell_blk y3
        have q0f := frz_blk y3
        go_wp2_with (fail)
        go_roundw
        case rel => exact ⟨i + 1, by go_num, by omega, by rw [metK, ← HC.out, if_pos HLO.out], hE3⟩
        case measure => simp [intOf]; omega
      · have hd : decide (c.over < A) = false := decide_eq_false hlo
        have HLO := Lib.hid hlo; clear hlo
        have q0c := cell_blk y2
        have q0f := frz_blk y2
        have q2c := cell_blk x2
        have q2f := frz_blk x2
        refine region_ev [] [0, 1, 2, 3, 4, 5, 6] [] [] (by kernel_rfl) (by kernel_rfl) (by intro c a d v w h; cases d <;> exact h) ?_
        simp only [picks, List.drop_succ_cons, List.drop_zero]
        repeat (refine wpQ0_step (fun K hK => ?_); go_simp; (refine hK _ ?_; clear hK K))
        refine wpQ0_nil ?_
        repeat ((with_reducible refine wpQ2_step (fun K hK => ?_)); go_simp; first | ((with_reducible refine hK _ ?_); clear hK K) | (apply Exists.intro; refine ⟨fun x => ?_, hK _ ?_⟩; (fail); clear hK K))
        refine wpQ2_nil ?_
        refine Events.none_ fun w3 hg3 => ?_
        simp only [picks, List.drop_succ_cons, List.drop_zero]
        have hE3 := ext_trans hE2 hg3
        clear q0c q0f q2c q2f t0 x2 y2
        go_wp2_with (fail)
        go_roundw
        case rel => exact ⟨i + 1, by go_num, by omega, by rw [metK, ← HC.out, if_neg HLO.out], hE3⟩
        case measure => simp [intOf]; omega
    · obtain rfl : i = S.steps.length := by omega
      have hr8 : ¬ (S.steps.length : Int) < (S.steps.length : Int) := by omega
      go_wp2_with (fail)
      go_ret
      exact ⟨rfl, hE⟩
set_option maxRecDepth 100000 in
set_option maxHeartbeats 2000000 in
theorem risk_any {S : Site} {s : SSl} {b b1 b2 : Nat} {am : List Int} {t : Sl} {p q : Nat} {w : World} (hB : NrBox w S s b b1 b2 am t) (hp : p < am.length) (hq : q < am.length) (hl : am.length = S.rooms.length) :
    Calls Tryz.prog 85 (#[.int .i64 (p : Int), .int .i64 (q : Int)] ++ #[.pointer (some ⟨b2, 0, none⟩), .pointer (some ⟨b1, 0, none⟩)]) w fun e w' => e = .returned (.bool (decide (0 < intD am p) && (decide (0 < intD am q) || (rmD S.rooms q).people))) ∧ w = w' := by
  obtain ⟨⟨M, k, hv⟩, x1, x2, hI⟩ := hB
  have x0 := hv.blk
  have hrl := hv.site.rm.le; have hrm := hv.site.rm.max
  obtain ⟨rb, roff, hra, hc⟩ := rm_cells hv.site.rm (i := q) (by omega)
  have c5 := hc.c5
  obtain ⟨tb, toff, hta, t0⟩ := int_cell hI hp
  obtain ⟨_, _, e0, t1⟩ := int_cell hI hq
  rw [hta] at e0
  obtain ⟨rfl, rfl⟩ : tb = _ ∧ toff = _ := by simpa using e0
  have htl := hI.le; have htm := hI.max
  obtain ⟨ta, tc⟩ := t
  dsimp only at hta htl htm
  subst hta
  obtain ⟨⟨ra, rc⟩, cs, ps⟩ := s
  dsimp only at hra hrl hrm
  subst hra
  obtain ⟨A, hA⟩ : ∃ A, A = intD am p := ⟨_, rfl⟩
  obtain ⟨B, hB⟩ : ∃ B, B = intD am q := ⟨_, rfl⟩
  obtain ⟨u, hu⟩ : ∃ u, u = (rmD S.rooms q).people := ⟨_, rfl⟩
  rw [← hA] at t0 ⊢
  rw [← hB] at t1 ⊢
  rw [← hu] at c5 ⊢
  rw [hl] at htl hp hq x2
  have p0 : (0 : Int) ≤ (p : Int) := by omega
  have p1 : (p : Int) < (S.rooms.length : Int) := by omega
  have p2 : (0 : Int) ≤ (q : Int) := by omega
  have p3 : (q : Int) < (S.rooms.length : Int) := by omega
  clear hA hB hu e0 hc hI hv hl
  by_cases h1 : 0 < A
  · by_cases h2 : 0 < B
    · go_enter Tryz.func85, Tryz.ntmps85
      have q0c := cell_blk x0
      have q0f := frz_blk x0
      have q1c := cell_blk x1
      have q1f := frz_blk x1
      have q2c := cell_blk x2
      have q2f := frz_blk x2
      go_wp2_with (fail)
      go_ret
      exact ⟨ret_bool (by simp [h1, h2]), rfl⟩
    · have hd : decide (0 < B) = false := decide_eq_false h2
      have H2 := Lib.hid h2; clear h2
      go_enter Tryz.func85, Tryz.ntmps85
      have q0c := cell_blk x0
      have q0f := frz_blk x0
      have q1c := cell_blk x1
      have q1f := frz_blk x1
      have q2c := cell_blk x2
      have q2f := frz_blk x2
      go_wp2_with (fail)
      go_ret
      exact ⟨ret_bool (by simp [h1, H2.out]), rfl⟩
  · have hd : decide (0 < A) = false := decide_eq_false h1
    have H1 := Lib.hid h1; clear h1
    go_enter Tryz.func85, Tryz.ntmps85
    have q0c := cell_blk x0
    have q0f := frz_blk x0
    have q1c := cell_blk x1
    have q1f := frz_blk x1
    have q2c := cell_blk x2
    have q2f := frz_blk x2
    go_wp2_with (fail)
    go_ret
    exact ⟨ret_bool (by simp [H1.out]), rfl⟩
end Go.Proofs.YtfpaihjcbpaneaaGreatDoor
namespace Go.Proofs.YtfpaihjcbpaneaaGreatDoor.D
set_option linter.unusedVariables false
/-- What near needs of a site. -/
structure NrOk (S : Site) : Prop where
  cans : CansOk S
  rooms : S.rooms.length ≤ 12
  cl : S.cans.length ≤ 30
  sl : S.steps.length ≤ 8
  at_ : ∀ i, i < S.rooms.length → (0 ≤ (rmD S.rooms i).x ∧ (rmD S.rooms i).x ≤ 10000) ∧ 0 ≤ (rmD S.rooms i).y ∧ (rmD S.rooms i).y ≤ 10000
  met : ∀ i, i < S.steps.length → 0 ≤ (stD S.steps i).metres ∧ (stD S.steps i).metres ≤ 10000
theorem Chk.nrOk {S : Site} (h : Chk S) : NrOk S :=
  ⟨h.cans, h.len.1.2, h.len.2.1, h.len.2.2, fun i hi => ⟨(h.room hi).2.2.2.2.1, (h.room hi).2.2.2.2.2⟩, fun i hi => (h.step hi).1.2⟩
theorem met_in {S : Site} (h : ∀ i, i < S.steps.length → 0 ≤ (stD S.steps i).metres ∧ (stD S.steps i).metres ≤ 10000) (a : Int) : 0 ≤ met S a ∧ met S a ≤ 10000 := by
  unfold met
  have : ∀ k, k ≤ S.steps.length → 0 ≤ metK S.steps a k ∧ metK S.steps a k ≤ 10000 := fun k hk => by
    induction k with
    | zero => simp [metK]
    | succ k ih =>
      rw [metK]
      split
      · exact h k (by omega)
      · exact ih (by omega)
  exact this _ (Nat.le_refl _)
theorem sq_in {a b : Int} (ha : 0 ≤ a ∧ a ≤ 10000) (hb : 0 ≤ b ∧ b ≤ 10000) : 0 ≤ (a - b) * (a - b) ∧ (a - b) * (a - b) ≤ 100000000 := by
  rcases Int.le_total a b with h | h
  · have h1 : 0 ≤ (b - a) * (b - a) := Int.mul_nonneg (by omega) (by omega)
    have h2 : (b - a) * (b - a) ≤ 10000 * 10000 := Int.mul_le_mul (by omega) (by omega) (by omega) (by omega)
    have e : (a - b) * (a - b) = (b - a) * (b - a) := by rw [← Int.neg_mul_neg]; congr 1 <;> omega
    rw [e]; omega
  · have h1 : 0 ≤ (a - b) * (a - b) := Int.mul_nonneg (by omega) (by omega)
    have h2 : (a - b) * (a - b) ≤ 10000 * 10000 := Int.mul_le_mul (by omega) (by omega) (by omega) (by omega)
    omega
theorem sq_in' {a : Int} (ha : 0 ≤ a ∧ a ≤ 10000) : 0 ≤ a * a ∧ a * a ≤ 100000000 := by
  have h1 : 0 ≤ a * a := Int.mul_nonneg ha.1 ha.1
  have h2 : a * a ≤ 10000 * 10000 := Int.mul_le_mul ha.2 ha.2 ha.1 (by omega)
  omega
theorem nearRow_len (S : Site) (wh : List Int) (a : Nat) : ∀ k, (nearRow S wh a k).length ≤ k
  | 0 => Nat.le_refl _
  | k + 1 => by
    rw [nearRow, List.length_append]
    have := nearRow_len S wh a k
    split
    · simp; omega
    · simp; omega
theorem nearK_len (S : Site) (wh : List Int) : ∀ a, (nearK S wh a).length ≤ a * S.rooms.length
  | 0 => Nat.zero_le _
  | a + 1 => by
    rw [nearK, List.length_append, Nat.succ_mul]
    have := nearK_len S wh a
    have := nearRow_len S wh a (S.rooms.length - (a + 1))
    omega
end Go.Proofs.YtfpaihjcbpaneaaGreatDoor.D
namespace Go.Proofs.YtfpaihjcbpaneaaGreatDoor
open Go.RowKit D
set_option linter.unusedVariables false
set_option linter.unusedSimpArgs false
attribute [local go_sem high] run_minI run_maxI
attribute [local go_sem] upon2 cls_cell cls_frozen forall_const exists_eq_left'
attribute [local go_sem] FirstUpon
theorem elNr : Elem Tryz.prog 55 115 (.agg #[.int .i64 0, .int .i64 0]) 2 16 := ⟨by kernel_rfl, by kernel_rfl, rfl, by omega, by omega⟩
def NrsOut (w : World) (l : List Nr) (e : Ending) (w' : World) : Prop := ∃ v, e = .returned v ∧ OwnR w' w.heap.size 115 2 v l.length (nrC l) ∧ Below w.heap.size w w'
theorem nrC_snoc {l : List Nr} {x : Nr} {i j : Nat} (hi : i < l.length + 1) (hj : j < 2) : upd (nrC l) l.length [.int .i64 x.a, .int .i64 x.b] i j = nrC (l ++ [x]) i j := by
  by_cases h : i = l.length
  · subst h
    rw [upd_at]
    have e : nrD (l ++ [x]) l.length = x := by simp [nrD]
    rcases (by omega : j = 0 ∨ j = 1) with rfl | rfl <;> simp [nrC, e]
  · rw [upd_lt (by omega)]
    have e : nrD (l ++ [x]) i = nrD l i := by unfold nrD; rw [List.getD_eq_getElem?_getD, List.getD_eq_getElem?_getD, List.getElem?_append_left (by omega)]
    rcases (by omega : j = 0 ∨ j = 1) with rfl | rfl <;> simp [nrC, e]
theorem OwnR.sl2 {w : World} {base : Nat} {e : TypeId} {n : Nat} {g cap : Nat} {l : List Int} (h : OwnR w base e 1 (.slice (some ⟨g, 0, none⟩) n cap) n (intC l)) (hl : l.length = n) : IntsS w ⟨some ⟨g, 0, none⟩, cap⟩ l := by
  obtain ⟨s, hs, hr⟩ := h.sl
  simp only [Value.slice.injEq, true_and] at hs
  obtain ⟨h1, h2⟩ := hs
  obtain ⟨sa, sc⟩ := s
  dsimp only at h1 h2
  subst h1; subst h2
  unfold IntsS; rw [hl]; exact hr
/-- What near keeps while it works. -/
structure NrSt (w0 W : World) (b b1 b2 : Nat) (am : List Int) (g cap : Nat) : Prop where
  bel : Below w0.heap.size w0 W
  box1 : W.heap[b1]? = some (.cells #[.pointer (some ⟨b, 0, none⟩)] 66 (0, 0))
  box2 : W.heap[b2]? = some (.cells #[.slice (some ⟨g, 0, none⟩) am.length cap] 43 (0, 0))
  am : OwnR W w0.heap.size 3 1 (.slice (some ⟨g, 0, none⟩) am.length cap) am.length (intC am)
theorem NrSt.below {w0 W W' : World} {b b1 b2 : Nat} {am : List Int} {g cap : Nat} (h : NrSt w0 W b b1 b2 am g cap) (hb : Below W.heap.size W W') : NrSt w0 W' b b1 b2 am g cap :=
  ⟨h.bel.trans (hb.mono h.bel.size), below_blk hb h.box1 (blk_lt h.box1), below_blk hb h.box2 (blk_lt h.box2), h.am.below hb⟩
theorem NrSt.box {w0 W : World} {b b1 b2 : Nat} {am : List Int} {g cap : Nat} {S : Site} {s : SSl} {M : List Mv} {k : Sl} (h : NrSt w0 W b b1 b2 am g cap) (hV : VltAt w0 S s b M k) : NrBox W S s b b1 b2 am ⟨some ⟨g, 0, none⟩, cap⟩ :=
  ⟨⟨M, k, hV.below h.bel⟩, h.box1, h.box2, h.am.sl2 rfl⟩
theorem NrSt.app {w0 W W' : World} {b b1 b2 : Nat} {am : List Int} {g cap : Nat} {v : Value} {n : Nat} {c : Nat → Nat → Value} {o : Obj} (h : NrSt w0 W b b1 b2 am g cap) (hO : OwnR W w0.heap.size 115 2 v n c) (hg : (W.alloc o).grownBy W' v.ownBlock) : NrSt w0 W' b b1 b2 am g cap :=
  ⟨below_app h.bel hO h.bel.size hg, app_blk hO hg h.box1 (by decide), app_blk hO hg h.box2 (by decide), own_app hO hg h.am (by decide)⟩
set_option maxRecDepth 100000 in
set_option maxHeartbeats 8000000 in
theorem near_any {S : Site} {s : SSl} {b : Nat} {M : List Mv} {k t : Sl} {wh : List Int} {w : World} (hV : VltAt w S s b M k) (hN : NrOk S) (hT : IntsS w t wh) (hl : wh.length = S.cans.length) (hw : ∀ i, i < S.cans.length → 0 ≤ intD wh i ∧ intD wh i < S.rooms.length) :
    Calls Tryz.prog 58 #[.pointer (some ⟨b, 0, none⟩), .slice t.a S.cans.length t.cap] w (NrsOut w (nears S wh)) := by
  have HV := Lib.hid hV; have HN := Lib.hid hN
  have x0 := hV.blk
  have hrl := hV.site.rm.le; have hrm := hV.site.rm.max
  have HAM : Hid (∀ W, Below w.heap.size w W → Calls Tryz.prog 83 #[.pointer (some ⟨b, 0, none⟩), .slice t.a S.cans.length t.cap] W (WhOut W S.rooms.length (amtsV S wh))) := Lib.hid fun W hW => amounts_any (hV.below hW) hN.cans hN.cl hN.rooms (hT.below hW) hl hw
  have hlen : (amtsV S wh).length = S.rooms.length := by simp [amtsV]
  have hn12 := hN.rooms
  have hout : ∀ W v, OwnR W w.heap.size 115 2 v (nearK S wh S.rooms.length).length (nrC (nearK S wh S.rooms.length)) → Below w.heap.size w W → NrsOut w (nears S wh) (.returned v) W := fun W v h1 h2 => ⟨v, rfl, h1, h2⟩
  have HOUT := Lib.hid hout
  have hat : ∀ r, r < S.rooms.length → intD (amtsV S wh) r = amt S wh r := fun r hr => amtsV_at hr
  have HAT := Lib.hid hat; have HLEN := Lib.hid hlen
  obtain ⟨am, ham⟩ : ∃ am, am = amtsV S wh := ⟨_, rfl⟩
  rw [← ham] at HAM HLEN HAT
  obtain ⟨⟨ra, rc⟩, cs, ps⟩ := s
  dsimp only at hrl hrm
  clear hV hN hT hl hw hlen hout ham hat
  go_enter Tryz.func58, Tryz.ntmps58
  go_wp2_with (fail)
  refine calls_name ?_
  intro w1 h1
  have y1 : w1.heap[w.heap.size]? = some (.cells #[.pointer (some ⟨b, 0, none⟩)] 66 (0, 0)) := by rw [h1]; exact blk_new _ _
  have hE1 : Ext2 w w1 := by rw [h1]; exact below_alloc' _ _
  have hB1 : Below w.heap.size w w1 := hE1
  obtain ⟨b1, hb1⟩ : ∃ b1, b1 = w.heap.size := ⟨_, rfl⟩
  rw [← hb1] at y1 ⊢
  have H1 := Lib.hid hb1
  clear h1
  (with_reducible refine (HAM.out _ hB1).mono ?_)
  rintro e w2 ⟨g, cap, rfl, hO2, hb2⟩
  have hE2 := ext_trans hE1 hb2
  have y1 := Ext2.blk hb2 y1
  have HI2 := Lib.hid hO2
  clear hO2 hb2 hE1 hb1
  have x2 := Ext2.blk hE2 x0
  have l1 := blk_lt y1; have l0 := blk_lt x2
  have n1 : ¬ b1 = w2.heap.size := by omega
  have n0 : ¬ b = w2.heap.size := by omega
  have q1c := cell_blk y1
  have q1f := frz_blk y1
  have q0c := cell_blk x2
  have q0f := frz_blk x2
  go_wp2_with (fail)
  clear q1c q1f q0c q0f
  refine wp_name ?_
  intro w3 h3
  obtain ⟨b2, hb2⟩ : ∃ b2, b2 = w2.heap.size := ⟨_, rfl⟩
  have hE23 : Ext2 w2 w3 := by rw [h3]; exact below_alloc' _ _
  have y2 : w3.heap[b2]? = some (.cells #[.slice (some ⟨g, 0, none⟩) am.length cap] 43 (0, 0)) := by rw [h3, hb2, HLEN.out]; exact blk_new _ _
  have hE3 := ext_trans hE2 hE23
  have hO3 : OwnR w3 w.heap.size 3 1 (.slice (some ⟨g, 0, none⟩) am.length cap) am.length (intC am) := by
    rw [HLEN.out]; exact (HI2.out.below hE23).base hB1.size
  have hNS : NrSt w w3 b b1 b2 am g cap := ⟨hE3, Ext2.blk hE23 y1, y2, hO3⟩
  have HNS := Lib.hid hNS
  rw [← hb2]
  have HKEEP : Hid (∀ W (a : Nat), NrSt w W b b1 b2 am g cap → a < S.rooms.length → Calls Tryz.prog 84 #[.int .i64 (a : Int), .pointer (some ⟨b1, 0, none⟩), .pointer (some ⟨b2, 0, none⟩)] W fun e w' => e = .returned (.int .i64 (met S (amt S wh a))) ∧ Below W.heap.size W w') := Lib.hid fun W a hW ha => by
    have h := keep_any (hW.box HV.out) (a := a) (by rw [HLEN.out]; exact ha) HN.out.sl
    rw [HAT.out a ha] at h; exact h
  have HRISK : Hid (∀ W (p q : Nat), p < S.rooms.length → q < S.rooms.length → NrSt w W b b1 b2 am g cap → Calls Tryz.prog 85 #[.int .i64 (p : Int), .int .i64 (q : Int), .pointer (some ⟨b2, 0, none⟩), .pointer (some ⟨b1, 0, none⟩)] W fun e w' => e = .returned (.bool (risk S wh p q)) ∧ W = w') := Lib.hid fun W p q hp hq hW => by
    have h := risk_any (hW.box HV.out) (p := p) (q := q) (by rw [HLEN.out]; exact hp) (by rw [HLEN.out]; exact hq) HLEN.out
    rw [HAT.out p hp, HAT.out q hq] at h; exact h
  clear y1 y2 hNS hE2 hE23 x2 h3 hb2 n1 n0 l1 l0 HI2 hE3 hO3 hB1
  go_loopw [4, 25] (fun v p wr => ∃ a : Nat, p = .int .i64 (a : Int) ∧ a ≤ S.rooms.length ∧ NrSt w wr b b1 b2 am g cap ∧ OwnR wr w.heap.size 115 2 v (nearK S wh a).length (nrC (nearK S wh a))) (fun _ p _ => S.rooms.length - (intOf p).toNat)
  case atStart => exact ⟨0, rfl, by omega, HNS.out, own_nil _ _ _ _ _⟩
  case round =>
    obtain ⟨a, rfl, ha, hE, hO⟩ := hrel
    have HO := Lib.hid hO; clear hO
    have HS := Lib.hid hE; clear hE
    by_cases hlt : a < S.rooms.length
    · go_light
      obtain ⟨rb, roff, hra, hc⟩ := rm_cells (HV.out.site.below HS.out.bel).rm hlt
      dsimp only at hra
      subst hra
      obtain ⟨p, hp⟩ : ∃ p, p = rmD S.rooms a := ⟨_, rfl⟩
      obtain ⟨c0, c1, c2, c3, c4, c5, c6, c7, c8, c9⟩ := hc
      rw [← hp] at c0 c1 c2 c3 c4 c5 c6 c7 c8 c9
      have HP := Lib.hid hp
      have p0 : (0 : Int) ≤ (a : Int) := by omega
      have p1 : (a : Int) < (S.rooms.length : Int) := by omega
      have w4 : IntKind.i64.wrap ((a : Int) + 1) = (a : Int) + 1 := IntWalk.i64_in _ (by omega)
      clear hp
      go_wp2_with (fail)
      refine wp_name ?_
      intro w4' h4
      obtain ⟨b9, hb9⟩ : ∃ b9, b9 = wr.heap.size := ⟨_, rfl⟩
      have hE4 : Ext2 wr w4' := by rw [h4]; exact below_alloc' _ _
      have y9 : w4'.heap[b9]? = some (Obj.cells #[.string p.name, .int .i64 p.tlo, .int .i64 p.thi, .int .i64 p.dlo, .int .i64 p.dhi, .bool p.people, .bool p.allows, .int .i64 p.most, .int .i64 p.x, .int .i64 p.y] 74) := by rw [h4, hb9]; exact blk_new _ _
      have HS4 := Lib.hid (HS.out.below hE4)
      have Y9 := Lib.hid y9
      have HO4 := Lib.hid (HO.out.below hE4)
      rw [← hb9]
      have e0 : ((a : Int) + 1) = ((a + 1 + 0 : Nat) : Int) := by omega
      have E0 := Lib.hid e0
      clear h4 hb9 c0 c1 c2 c3 c4 c5 c6 c7 c8 c9 y9 hE4 HO e0 HS
      obtain ⟨wo, hwo⟩ : ∃ wo, wo = wr := ⟨_, rfl⟩
      go_loopw [4, 10] (fun v z wr => ∃ j c : Nat, z = .int .i64 (c : Int) ∧ c = a + 1 + j ∧ c ≤ S.rooms.length ∧ NrSt w wr b b1 b2 am g cap ∧ wr.heap[b9]? = some (Obj.cells #[.string p.name, .int .i64 p.tlo, .int .i64 p.thi, .int .i64 p.dlo, .int .i64 p.dhi, .bool p.people, .bool p.allows, .int .i64 p.most, .int .i64 p.x, .int .i64 p.y] 74) ∧ OwnR wr w.heap.size 115 2 v (nearK S wh a ++ nearRow S wh a j).length (nrC (nearK S wh a ++ nearRow S wh a j))) (fun _ z _ => S.rooms.length - (intOf z).toNat)
      case atStart => exact ⟨0, _, by rw [E0.out], rfl, by omega, HS4.out, Y9.out, by simpa [nearRow] using HO4.out⟩
      case round =>
        obtain ⟨j, c, rfl, hcj, hcn, hE, y9, hO⟩ := hrel
        have HO := Lib.hid hO; have HCJ := Lib.hid hcj
        have HS := Lib.hid hE
        have y1 := hE.box1
        obtain ⟨M', k', hv'⟩ := (hE.box HV.out).vlt
        have x0' := hv'.blk
        clear hO hcj hv' hE
        by_cases hlt2 : c < S.rooms.length
        · obtain ⟨_, _, hra, hc⟩ := rm_cells (HV.out.site.below HS.out.bel).rm hlt2
          obtain ⟨rfl, rfl⟩ : rb = _ ∧ roff = _ := by simpa using hra
          obtain ⟨q, hq⟩ : ∃ q, q = rmD S.rooms c := ⟨_, rfl⟩
          obtain ⟨c0, c1, c2, c3, c4, c5, c6, c7, c8, c9⟩ := hc
          rw [← hq] at c0 c1 c2 c3 c4 c5 c6 c7 c8 c9
          have HQ := Lib.hid hq
          have z0 : (0 : Int) ≤ (c : Int) := by omega
          have z1 : (c : Int) < (S.rooms.length : Int) := by omega
          have z2 : IntKind.i64.wrap ((c : Int) + 1) = (c : Int) + 1 := IntWalk.i64_in _ (by omega)
          have px := HN.out.at_ a hlt
          have qx := HN.out.at_ c hlt2
          rw [← HP.out] at px
          rw [← hq] at qx
          clear hq hra
          obtain ⟨X, hX⟩ : ∃ X, X = (p.x - q.x) * (p.x - q.x) := ⟨_, rfl⟩
          obtain ⟨Y, hY⟩ : ∃ Y, Y = (p.y - q.y) * (p.y - q.y) := ⟨_, rfl⟩
          have bX := sq_in px.1 qx.1
          have bY := sq_in px.2 qx.2
          rw [← hX] at bX
          rw [← hY] at bY
          have wX : wrap64 ((p.x - q.x) * (p.x - q.x)) = X := by rw [← hX]; exact IntWalk.wrap64_in _ (by omega)
          have wY : wrap64 ((p.y - q.y) * (p.y - q.y)) = Y := by rw [← hY]; exact IntWalk.wrap64_in _ (by omega)
          have hF : far (rmD S.rooms a) (rmD S.rooms c) = X + Y := by rw [← HP.out, ← HQ.out, hX, hY]; rfl
          have HF := Lib.hid hF
          have l9 := blk_lt y9
          have n9 : ¬ b9 = wr.heap.size := by omega
          clear hX hY hF
          have q1c := cell_blk y1
          have q1f := frz_blk y1
          have q0c := cell_blk x0'
          have q0f := frz_blk x0'
          have q9c := cell_blk y9
          have q9f := frz_blk y9
          go_wp2_with (fail)
          clear q1c q1f q0c q0f q9c q9f
          refine calls_name ?_
          intro w5 h5
          have hE5 : Ext2 wr w5 := by rw [h5]; exact below_alloc' _ _
          have HS5 := Lib.hid (HS.out.below hE5)
          have y95 := Ext2.blk hE5 y9
          clear h5 c0 c1 c2 c3 c4 c5 c6 c7 c8 c9 x0' y1 y9 l9 n9
          (with_reducible refine (HKEEP.out _ a HS5.out hlt).mono ?_)
          rintro e w6 ⟨rfl, hb6⟩
          have HS6 := Lib.hid (HS5.out.below hb6)
          obtain ⟨K1, hK1⟩ : ∃ K1, K1 = met S (amt S wh a) := ⟨_, rfl⟩
          have bK1 := met_in HN.out.met (amt S wh a)
          rw [← hK1] at bK1 ⊢
          have HK1 := Lib.hid hK1
          clear hK1
          go_wp2_with (fail)
          (with_reducible refine (HKEEP.out _ c HS6.out hlt2).mono ?_)
          rintro e w7 ⟨rfl, hb7⟩
          have HS7 := Lib.hid (HS6.out.below hb7)
          have y97 := Ext2.blk (ext_trans hb6 hb7) y95
          obtain ⟨K2, hK2⟩ : ∃ K2, K2 = met S (amt S wh c) := ⟨_, rfl⟩
          have bK2 := met_in HN.out.met (amt S wh c)
          rw [← hK2] at bK2 ⊢
          obtain ⟨K, hK⟩ : ∃ K, K = max K1 K2 := ⟨_, rfl⟩
          have bK : 0 ≤ K ∧ K ≤ 10000 := by omega
          obtain ⟨KK, hKK⟩ : ∃ KK, KK = K * K := ⟨_, rfl⟩
          have bKK := sq_in' bK
          rw [← hKK] at bKK
          have wK : wrap64 (max K1 K2 * max K1 K2) = KK := by rw [← hK, ← hKK]; exact IntWalk.wrap64_in _ (by omega)
          have hNB2 : nearB S wh a c = ((risk S wh a c || risk S wh c a) && decide (X + Y < KK)) := by unfold nearB; rw [HF.out, ← HK1.out, ← hK2, ← hK, ← hKK]
          obtain ⟨r1, hr1⟩ : ∃ r, r = risk S wh a c := ⟨_, rfl⟩
          obtain ⟨r2, hr2⟩ : ∃ r, r = risk S wh c a := ⟨_, rfl⟩
          rw [← hr1, ← hr2] at hNB2
          have HB2 := Lib.hid hNB2
          have HR1 : Hid (∀ W, NrSt w W b b1 b2 am g cap → Calls Tryz.prog 85 #[.int .i64 (a : Int), .int .i64 (c : Int), .pointer (some ⟨b2, 0, none⟩), .pointer (some ⟨b1, 0, none⟩)] W fun e w' => e = .returned (.bool r1) ∧ W = w') := Lib.hid fun W hW => by rw [hr1]; exact HRISK.out W a c hlt hlt2 hW
          have HR2 : Hid (∀ W, NrSt w W b b1 b2 am g cap → Calls Tryz.prog 85 #[.int .i64 (c : Int), .int .i64 (a : Int), .pointer (some ⟨b2, 0, none⟩), .pointer (some ⟨b1, 0, none⟩)] W fun e w' => e = .returned (.bool r2) ∧ W = w') := Lib.hid fun W hW => by rw [hr2]; exact HRISK.out W c a hlt2 hlt hW
          have HO7 := Lib.hid (HO.out.below (ext_trans hE5 (ext_trans hb6 hb7)))
          have hE7B : Below w.heap.size w w7 := HS7.out.bel
          have hlen9 : (nearK S wh a ++ nearRow S wh a j).length ≤ 1000 := by
            rw [List.length_append]
            have h1 := nearK_len S wh a
            have h2 := nearRow_len S wh a j
            have h3 : a * S.rooms.length ≤ 12 * 12 := Nat.mul_le_mul (by omega) (by omega)
            have := HCJ.out
            omega
          clear hNB2 hr1 hr2 hKK hK hK2 HO hE5 hb6 hb7 y95 HS5 HS6 HS
          go_wp2_with (fail)
          (with_reducible refine (HR1.out _ HS7.out).mono ?_)
          rintro e w' ⟨rfl, rfl⟩
          by_cases hlt3 : X + Y < KK
          · have hd : decide (X + Y < KK) = true := decide_eq_true hlt3
            have HD := Lib.hid hd
            clear hd
            cases r1
            · go_wp2_with (fail)
              (with_reducible refine (HR2.out _ HS7.out).mono ?_)
              rintro e w' ⟨rfl, rfl⟩
              cases r2
              · skip
                have hO9 : OwnR w7 w.heap.size 115 2 u4 (nearK S wh a ++ nearRow S wh a (j + 1)).length (nrC (nearK S wh a ++ nearRow S wh a (j + 1))) := by
                  have e1 : nearK S wh a ++ nearRow S wh a (j + 1) = nearK S wh a ++ nearRow S wh a j := by
                    rw [nearRow, ← HCJ.out, HB2.out, HD.out]; simp
                  rw [e1]; exact HO7.out
                have HO9 := Lib.hid hO9
                clear hO9
                go_wp2_with (fail)
                go_roundw
                case rel => exact ⟨j + 1, c + 1, by go_num, by rw [HCJ.out]; omega, by omega, HS7.out, y97, HO9.out⟩
                case measure => simp [intOf]; omega
              · skip
                go_wp2_with (at_builtin; refine app_one [.int .i64 (a : Int), .int .i64 (c : Int)] elNr rfl _ _ rfl w.heap.size rfl (HO7.out.below (below_alloc' _ _)) w7.heap.size 1 rfl (blk_new _ _) (by simp [Value.oneCell']) (by omega) (by have := hE7B.size; simp; omega) ?_; intro v' w8 hO8 hg8)
                have HS8 := Lib.hid (HS7.out.app HO7.out hg8)
                have y98 := app_blk HO7.out hg8 y97 (by decide)
                have hO9 : OwnR w8 w.heap.size 115 2 v' (nearK S wh a ++ nearRow S wh a (j + 1)).length (nrC (nearK S wh a ++ nearRow S wh a (j + 1))) := by
                  have e1 : nearK S wh a ++ nearRow S wh a (j + 1) = (nearK S wh a ++ nearRow S wh a j) ++ [⟨(a : Int), (c : Int)⟩] := by
                    rw [nearRow, ← HCJ.out, HB2.out, HD.out]; simp
                  rw [e1, List.length_append, List.length_singleton]
                  exact hO8.congr fun i' j' h1 h2 => nrC_snoc (x := ⟨(a : Int), (c : Int)⟩) h1 h2
                have HO9 := Lib.hid hO9
                clear hO8 hO9 hg8
                go_wp2_with (fail)
                go_roundw
                case rel => exact ⟨j + 1, c + 1, by go_num, by rw [HCJ.out]; omega, by omega, HS8.out, y98, HO9.out⟩
                case measure => simp [intOf]; omega
            · skip
              go_wp2_with (at_builtin; refine app_one [.int .i64 (a : Int), .int .i64 (c : Int)] elNr rfl _ _ rfl w.heap.size rfl (HO7.out.below (below_alloc' _ _)) w7.heap.size 1 rfl (blk_new _ _) (by simp [Value.oneCell']) (by omega) (by have := hE7B.size; simp; omega) ?_; intro v' w8 hO8 hg8)
              have HS8 := Lib.hid (HS7.out.app HO7.out hg8)
              have y98 := app_blk HO7.out hg8 y97 (by decide)
              have hO9 : OwnR w8 w.heap.size 115 2 v' (nearK S wh a ++ nearRow S wh a (j + 1)).length (nrC (nearK S wh a ++ nearRow S wh a (j + 1))) := by
                have e1 : nearK S wh a ++ nearRow S wh a (j + 1) = (nearK S wh a ++ nearRow S wh a j) ++ [⟨(a : Int), (c : Int)⟩] := by
                  rw [nearRow, ← HCJ.out, HB2.out, HD.out]; simp
                rw [e1, List.length_append, List.length_singleton]
                exact hO8.congr fun i' j' h1 h2 => nrC_snoc (x := ⟨(a : Int), (c : Int)⟩) h1 h2
              have HO9 := Lib.hid hO9
              clear hO8 hO9 hg8
              go_wp2_with (fail)
              go_roundw
              case rel => exact ⟨j + 1, c + 1, by go_num, by rw [HCJ.out]; omega, by omega, HS8.out, y98, HO9.out⟩
              case measure => simp [intOf]; omega
          · have hd : decide (X + Y < KK) = false := decide_eq_false hlt3
            have HD := Lib.hid hd
            clear hd
            cases r1
            · go_wp2_with (fail)
              (with_reducible refine (HR2.out _ HS7.out).mono ?_)
              rintro e w' ⟨rfl, rfl⟩
              cases r2
              · skip
                have hO9 : OwnR w7 w.heap.size 115 2 u4 (nearK S wh a ++ nearRow S wh a (j + 1)).length (nrC (nearK S wh a ++ nearRow S wh a (j + 1))) := by
                  have e1 : nearK S wh a ++ nearRow S wh a (j + 1) = nearK S wh a ++ nearRow S wh a j := by
                    rw [nearRow, ← HCJ.out, HB2.out, HD.out]; simp
                  rw [e1]; exact HO7.out
                have HO9 := Lib.hid hO9
                clear hO9
                go_wp2_with (fail)
                go_roundw
                case rel => exact ⟨j + 1, c + 1, by go_num, by rw [HCJ.out]; omega, by omega, HS7.out, y97, HO9.out⟩
                case measure => simp [intOf]; omega
              · skip
                have hO9 : OwnR w7 w.heap.size 115 2 u4 (nearK S wh a ++ nearRow S wh a (j + 1)).length (nrC (nearK S wh a ++ nearRow S wh a (j + 1))) := by
                  have e1 : nearK S wh a ++ nearRow S wh a (j + 1) = nearK S wh a ++ nearRow S wh a j := by
                    rw [nearRow, ← HCJ.out, HB2.out, HD.out]; simp
                  rw [e1]; exact HO7.out
                have HO9 := Lib.hid hO9
                clear hO9
                go_wp2_with (fail)
                go_roundw
                case rel => exact ⟨j + 1, c + 1, by go_num, by rw [HCJ.out]; omega, by omega, HS7.out, y97, HO9.out⟩
                case measure => simp [intOf]; omega
            · skip
              have hO9 : OwnR w7 w.heap.size 115 2 u4 (nearK S wh a ++ nearRow S wh a (j + 1)).length (nrC (nearK S wh a ++ nearRow S wh a (j + 1))) := by
                have e1 : nearK S wh a ++ nearRow S wh a (j + 1) = nearK S wh a ++ nearRow S wh a j := by
                  rw [nearRow, ← HCJ.out, HB2.out, HD.out]; simp
                rw [e1]; exact HO7.out
              have HO9 := Lib.hid hO9
              clear hO9
              go_wp2_with (fail)
              go_roundw
              case rel => exact ⟨j + 1, c + 1, by go_num, by rw [HCJ.out]; omega, by omega, HS7.out, y97, HO9.out⟩
              case measure => simp [intOf]; omega
        · obtain rfl : c = S.rooms.length := by omega
          have hfin : OwnR wr w.heap.size 115 2 u4 (nearK S wh (a + 1)).length (nrC (nearK S wh (a + 1))) := by
            rw [nearK, show S.rooms.length - (a + 1) = j by have := HCJ.out; omega]; exact HO.out
          have HFIN := Lib.hid hfin
          have hz : ¬ (S.rooms.length : Int) < (S.rooms.length : Int) := by omega
          clear hfin HO
          have q1c := cell_blk y1
          have q1f := frz_blk y1
          have q0c := cell_blk x0'
          have q0f := frz_blk x0'
          go_wp2_with (fail)
          go_roundw
          case rel => exact ⟨a + 1, by go_num, by omega, HS.out, HFIN.out⟩
          case measure => simp [intOf]; omega
    · obtain rfl : a = S.rooms.length := by omega
      have hfin := HOUT.out wr u4 HO.out HS.out.bel
      have HFIN := Lib.hid hfin
      have hz : ¬ (S.rooms.length : Int) < (S.rooms.length : Int) := by omega
      clear hfin HO
      go_wp2_with (fail)
      go_ret
      exact HFIN.out
end Go.Proofs.YtfpaihjcbpaneaaGreatDoor
