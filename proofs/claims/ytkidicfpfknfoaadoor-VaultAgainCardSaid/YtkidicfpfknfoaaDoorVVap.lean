/-
  The table of vapour; vapour, of both sides.
-/
import Derived.Test.YtkidicfpfknfoaaDoorVAir
import Derived.Laws.Tables
import Derived.Laws.Rows
namespace Go.Proofs.YtkidicfpfknfoaaDoor
open Go.RowKit D
set_option linter.unusedVariables false
set_option linter.unusedSimpArgs false
attribute [local go_sem high] run_minI run_maxI
attribute [local go_sem] upon2 cls_cell cls_frozen forall_const exists_eq_left'
attribute [local go_sem] FirstUpon
def tabA : Array Value := #[.int .i64 450, .int .i64 700, .int .i64 1070, .int .i64 1600, .int .i64 2360, .int .i64 3410, .int .i64 4850, .int .i64 6800, .int .i64 9400, .int .i64 12830, .int .i64 17300, .int .i64 23050, .int .i64 30400, .int .i64 39600, .int .i64 51200, .int .i64 65400, .int .i64 83000, .int .i64 104300, .int .i64 130200]
theorem tab_cell {W : World} {b : Nat} {t : TypeId} (h : W.heap[b]? = some (.cells tabA t (0, 0))) {i : Nat} (hi : i < 19) : W.cell? ⟨b, i, none⟩ = some (.int .i64 (intD tabD i)) := by
  rw [cell_blk h]
  rcases (by omega : i = 0 ∨ i = 1 ∨ i = 2 ∨ i = 3 ∨ i = 4 ∨ i = 5 ∨ i = 6 ∨ i = 7 ∨ i = 8 ∨ i = 9 ∨ i = 10 ∨ i = 11 ∨ i = 12 ∨ i = 13 ∨ i = 14 ∨ i = 15 ∨ i = 16 ∨ i = 17 ∨ i = 18) with h | h | h | h | h | h | h | h | h | h | h | h | h | h | h | h | h | h | h <;> subst h <;> rfl
theorem tab_one : tabA.all (·.oneCell') = true := by decide +kernel
theorem tab_info : (Tryd.prog.info? 146).map (·.size) = some tabA.size := by kernel_rfl
theorem wpL_name {P : Program} {ops : Array Oper} {Q : Exit → Act → World → Prop} {l : List Oper} {a : Act} {w : World} (h : ∀ w2, w2 = w → wpList P ops Q l a w2) : wpList P ops Q l a w := h w rfl
theorem below_setRow {B : Nat} {a w : World} (h : Below B a w) {g : Nat} (hg : B ≤ g) (cs : Array Value) : Below B a (w.setRow g cs) :=
  h.trans ⟨rfl, rfl, rfl, by simp [World.setRow], fun i hi => setRow_other w g i cs (by omega)⟩
set_option maxRecDepth 100000 in
set_option maxHeartbeats 2000000 in
theorem table_any (w : World) : Calls Tryd.prog 82 #[] w fun e w' => e = .returned (.agg tabA) ∧ Below w.heap.size w w' := by
  go_enter Tryd.func82, Tryd.ntmps82
  go_wp2_with ((with_reducible refine wpList_store_row (o := ⟨none, .store 146 (.tmp 0) (.tmp 1), _, _, _, _⟩) ?a1 146 (.tmp 0) (.tmp 1) ?a2 w.heap.size tabA ?a3 ?a4 146 ?old ?a5 tab_info ?a7 tab_one ?a9); (case a1 => rfl); (case a2 => rfl); (case a3 => rfl); (case a4 => rfl); (case a5 => exact blk_new _ _); (case a7 => rfl))
  refine bodyPost_ret (v := .agg tabA) ?_ rfl ⟨rfl, below_setRow (below_alloc _ _) (Nat.le_refl _) _⟩
  exact results_cell_row (P := Tryd.prog) (fn := Tryd.f82) rfl _ _ w.heap.size 146 tabA (0, 0) _ rfl (setRow_heap _ _ _ _ _ _ (blk_new _ _)) Tryd.underlying146 rfl tab_info
theorem run_tab (W : World) (b i : Nat) (hi : i ≤ 18) : (Instr.sliceAt 146 (.pointer (some ⟨b, 0, none⟩)) (some (.int .i64 (i : Int))) none none).run Tryd.prog W = .ok (.slice (some ⟨b, i, none⟩) (19 - i) (19 - i)) W := by
  have ha : Tryd.prog.arrayLen 146 = 19 := by kernel_rfl
  have hs : ∀ W : World, (sizeOf (Tryd.prog.elem 146)).run Tryd.prog W = .ok 1 W := fun W => by kernel_rfl
  rw [run_sliceAt_array_l W 146 ⟨b, 0, none⟩ (by kernel_rfl) .i64 (i : Int) (by omega) (by rw [ha]; omega), hs, ha]
  simp only [Result.andThen, slicedAt, Int.toNat_natCast]
  rw [if_neg (by omega)]
  have e : (⟨b, 0, none⟩ : Addr).add (i * 1) = ⟨b, i, none⟩ := by
    unfold Addr.add; split
    · rename_i h; simp at h; simp [h]
    · simp
  rw [e]
theorem vap_at {t : Int} (h1 : -300 ≤ t) (h2 : t ≤ 600) : ∃ i r : Nat, (t + 300) / 50 = (i : Int) ∧ (t + 300) % 50 = (r : Int) ∧ i ≤ 18 ∧ r < 50 ∧ (r ≠ 0 → i ≤ 17) ∧ vap t = if r = 0 then intD tabD i else intD tabD i + (intD tabD (i + 1) - intD tabD i) * (r : Int) / 50 := by
  refine ⟨((t + 300) / 50).toNat, ((t + 300) % 50).toNat, by omega, by omega, by omega, by omega, by omega, ?_⟩
  unfold vap
  have e : (((t + 300) % 50).toNat : Int) = (t + 300) % 50 := by omega
  by_cases h : (t + 300) % 50 = 0
  · rw [if_pos h, if_pos (by omega)]
  · rw [if_neg h, if_neg (by omega), e]
theorem tab_up : ∀ i : Fin 18, intD tabD i.val ≤ intD tabD (i.val + 1) := by decide
theorem tab_bd : ∀ i : Fin 19, 0 ≤ intD tabD i.val ∧ intD tabD i.val ≤ 130200 := by decide
set_option maxRecDepth 100000 in
set_option maxHeartbeats 2000000 in
theorem vapour_any {t : Int} (w : World) (h1 : -300 ≤ t) (h2 : t ≤ 600) : Calls Tryd.prog 62 #[.int .i64 t] w fun e w' => e = .returned (.int .i64 (vap t)) ∧ Below w.heap.size w w' := by
  obtain ⟨i, r, hi, hr, hi18, hr50, hi17, hv⟩ := vap_at h1 h2
  rw [hv]
  obtain ⟨X, hX⟩ : ∃ X, X = intD tabD i := ⟨_, rfl⟩
  obtain ⟨Y, hY⟩ : ∃ Y, Y = intD tabD (i + 1) := ⟨_, rfl⟩
  have bX := tab_bd ⟨i, by omega⟩
  simp only [← hX] at bX
  rw [← hX, ← hY]
  have HX := Lib.hid hX; have HY := Lib.hid hY
  have bY : r ≠ 0 → 0 ≤ Y ∧ Y ≤ 130200 := fun h => by have := tab_bd ⟨i + 1, by have := hi17 h; omega⟩; rw [hY]; exact this
  have BY := Lib.hid bY; have HI17 := Lib.hid hi17
  clear hv hX hY bY hi17
  go_enter Tryd.func62, Tryd.ntmps62
  go_wp2_with (fail)
  (with_reducible refine (table_any _).mono ?_)
  rintro e w1 ⟨rfl, hb1⟩
  obtain ⟨tt, htt⟩ : ∃ tt, tt = tabA := ⟨_, rfl⟩
  rw [← htt]
  have HTT := Lib.hid htt
  clear htt
  have hsl := fun (W : World) => run_tab W w1.heap.size i hi18
  have s1 : IntKind.i64.wrap (19 - (i : Int)) = 19 - (i : Int) := IntWalk.i64_in _ (by omega)
  by_cases hr0 : r = 0
  · subst hr0
    go_wp2_with ((with_reducible refine wpList_store_row (o := ⟨none, .store 146 (.tmp 3) (.tmp 6), _, _, _, _⟩) ?a1 146 (.tmp 3) (.tmp 6) ?a2 w1.heap.size tt ?a3 ?a4 146 ?old ?a5 (by rw [HTT.out]; exact tab_info) ?a7 (by rw [HTT.out]; exact tab_one) ?a9); (case a1 => rfl); (case a2 => rfl); (case a3 => rfl); (case a4 => rfl); (case a5 => exact blk_new _ _); (case a7 => rw [HTT.out]; rfl); refine wpL_name ?_; intro w2 h2; have y3 : w2.heap[w1.heap.size]? = some (.cells tabA 146 (0, 0)) := (by rw [h2, ← HTT.out]; exact setRow_heap _ _ _ _ _ _ (blk_new _ _)); have hB2 : Below w.heap.size w w2 := (by rw [h2]; exact below_setRow (Below.alloc hb1 hb1.size _) hb1.size _); clear h2; have c0 := tab_cell y3 (i := i) (by omega); rw [← HX.out] at c0; clear y3)
    go_ret
    exact ⟨rfl, hB2⟩
  · have bY := BY.out hr0
    have i17 := HI17.out hr0
    have hi1 : i + 1 < 19 := by omega
    have hi0 : i < 19 := by omega
    have hrp : 0 < r := by omega
    have HR0 := Lib.hid hr0
    have hXY : X ≤ Y := by have := tab_up ⟨i, by omega⟩; rw [HX.out, HY.out]; exact this
    have wy : IntKind.i64.wrap (Y - X) = Y - X := IntWalk.i64_in _ (by omega)
    have hml : -6510000 ≤ (Y - X) * (r : Int) ∧ (Y - X) * (r : Int) ≤ 6510000 := by
      have h5 : (0 : Int) ≤ (r : Int) := by omega
      rcases Int.le_total 0 (Y - X) with h | h
      · have a1 : (Y - X) * (r : Int) ≤ (Y - X) * 50 := Int.mul_le_mul_of_nonneg_left (by omega) h
        have a2 : 0 ≤ (Y - X) * (r : Int) := Int.mul_nonneg h h5
        omega
      · have a1 : (Y - X) * 50 ≤ (Y - X) * (r : Int) := Int.mul_le_mul_of_nonpos_left h (by omega)
        have a2 : (Y - X) * (r : Int) ≤ 0 := Int.mul_nonpos_of_nonpos_of_nonneg h h5
        omega
    obtain ⟨P, hP⟩ : ∃ P, P = (Y - X) * (r : Int) := ⟨_, rfl⟩
    have hP0 : 0 ≤ P := by rw [hP]; exact Int.mul_nonneg (by omega) (by omega)
    rw [← hP] at hml
    have q1 : IntKind.i64.wrap ((Y - X) * (r : Int)) = P := by rw [← hP]; exact IntWalk.i64_in _ (by omega)
    have q2 : P.tdiv 50 = P / 50 := Int.tdiv_eq_ediv_of_nonneg hP0
    obtain ⟨D, hD⟩ : ∃ D, D = P / 50 := ⟨_, rfl⟩
    have hD0 : 0 ≤ D ∧ D ≤ 200000 := by omega
    rw [← hD] at q2
    have q3 : IntKind.i64.wrap D = D := IntWalk.i64_in _ (by omega)
    have q4 : IntKind.i64.wrap (X + D) = X + D := IntWalk.i64_in _ (by omega)
    have q5 : 0 < 19 - i := by omega
    have q6 : (1 : Int) < ((19 - i : Nat) : Int) := by omega
    have HP := Lib.hid hP; have HD := Lib.hid hD
    clear hP hD hml
    clear hr0
    go_wp2_with ((with_reducible refine wpList_store_row (o := ⟨none, .store 146 (.tmp 3) (.tmp 6), _, _, _, _⟩) ?b1 146 (.tmp 3) (.tmp 6) ?b2 w1.heap.size tt ?b3 ?b4 146 ?bold ?b5 (by rw [HTT.out]; exact tab_info) ?b7 (by rw [HTT.out]; exact tab_one) ?b9); (case b1 => rfl); (case b2 => rfl); (case b3 => rfl); (case b4 => rfl); (case b5 => exact blk_new _ _); (case b7 => rw [HTT.out]; rfl); refine wpL_name ?_; intro w2 h2; have y3 : w2.heap[w1.heap.size]? = some (.cells tabA 146 (0, 0)) := (by rw [h2, ← HTT.out]; exact setRow_heap _ _ _ _ _ _ (blk_new _ _)); have hB2 : Below w.heap.size w w2 := (by rw [h2]; exact below_setRow (Below.alloc hb1 hb1.size _) hb1.size _); clear h2; have c0 := tab_cell y3 (i := i) hi0; rw [← HX.out] at c0; have c1 := tab_cell y3 (i := i + 1) hi1; rw [← HY.out] at c1;clear y3)
    refine region_ev [] [0, 1, 2, 3, 4, 5, 6, 7, 8, 9, 10, 11, 12, 13, 14] [] [] (by kernel_rfl) (by kernel_rfl) (by intro c a d v w h; cases d <;> exact h) ?_
    simp only [picks, List.drop_succ_cons, List.drop_zero]
    repeat (refine wpQ0_step (fun K hK => ?_); go_simp; (refine hK _ ?_; clear hK K))
    refine wpQ0_nil ?_
    repeat ((with_reducible refine wpQ2_step (fun K hK => ?_)); go_simp; first | ((with_reducible refine hK _ ?_); clear hK K) | (apply Exists.intro; refine ⟨fun x => ?_, hK _ ?_⟩; (fail); clear hK K))
    refine wpQ2_nil ?_
    refine Events.none_ fun w3 hg3 => ?_
    simp only [picks, List.drop_succ_cons, List.drop_zero]
    have hB3 := below_ext hB2 hg3
    clear c0 c1 hsl
    go_wp2_with (fail)
    go_ret
    exact ⟨ret_int (by first | rw [if_neg HR0.out, HD.out, HP.out] | rw [HD.out, HP.out]), hB3⟩
end Go.Proofs.YtkidicfpfknfoaaDoor
