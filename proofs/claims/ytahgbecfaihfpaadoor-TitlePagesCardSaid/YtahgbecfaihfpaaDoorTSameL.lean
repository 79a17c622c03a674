/-
  ref.SameLines: are two lists of lines equal?
-/
import Derived.Test.YtahgbecfaihfpaaDoorTAwM
namespace Go.Proofs.YtahgbecfaihfpaaDoor
open Go.RowKit D
set_option linter.unusedVariables false
set_option linter.unusedSimpArgs false
attribute [local go_sem high] run_minI run_maxI
attribute [local go_sem] upon2 cls_cell cls_frozen forall_const exists_eq_left'
attribute [local go_sem] FirstUpon
theorem lines_ext {l m : List Ln} (h : l.length = m.length) (h' : ∀ j, j < l.length → lnD l j = lnD m j) : l = m := by
  refine List.ext_getElem h fun i h1 h2 => ?_
  have := h' i h1
  rwa [lnD, lnD, List.getD_eq_getElem?_getD, List.getD_eq_getElem?_getD, List.getElem?_eq_getElem h1, List.getElem?_eq_getElem h2] at this
theorem line_cells4 {w : World} {s : Sl} {l : List Ln} (h : RowS w s 4 l.length (fun i => lnV (lnD l i))) {i : Nat} (hi : i < l.length) : ∃ b off, s.a = some ⟨b, off, none⟩ ∧ w.cell? ⟨b, off + i * 4, none⟩ = some (.int .i64 (lnD l i).from_) ∧ w.cell? ⟨b, off + i * 4 + 1, none⟩ = some (.int .i64 (lnD l i).until_) ∧ w.cell? ⟨b, off + i * 4 + 2, none⟩ = some (.int .i64 (lnD l i).wide) ∧ w.cell? ⟨b, off + i * 4 + 3, none⟩ = some (.int .i64 (lnD l i).cost) := by
  obtain ⟨b, off, ha, hr⟩ := h.row (by omega) (by omega)
  have := hr.four hi
  exact ⟨b, off, ha, this⟩
theorem run_neq_ln (w : World) (x0 x1 x2 x3 y0 y1 y2 y3 : Int) : (binOp .neq 71 (.agg #[.int .i64 x0, .int .i64 x1, .int .i64 x2, .int .i64 x3]) (.agg #[.int .i64 y0, .int .i64 y1, .int .i64 y2, .int .i64 y3])).run Tryd.prog w = .ok (.bool (!(decide (x0 = y0 ∧ x1 = y1 ∧ x2 = y2 ∧ x3 = y3)))) w := by
  go_simp
  by_cases h0 : x0 = y0 <;> by_cases h1 : x1 = y1 <;> by_cases h2 : x2 = y2 <;> by_cases h3 : x3 = y3 <;> simp [h0, h1, h2, h3]
set_option maxRecDepth 100000 in
set_option maxHeartbeats 2000000 in
theorem sameLines_any {s t : Sl} {l m : List Ln} {w : World} (hl : RowS w s 4 l.length (fun i => lnV (lnD l i))) (hm : RowS w t 4 m.length (fun i => lnV (lnD m i))) :
    Calls Tryd.prog 35 #[.slice s.a l.length s.cap, .slice t.a m.length t.cap] w fun e w' => e = .returned (.bool (decide (l = m))) ∧ Below w.heap.size w w' := by
  obtain ⟨a, cap⟩ := s
  obtain ⟨a', cap'⟩ := t
  have hc : l.length ≤ cap := hl.le
  have hcm : cap ≤ 9223372036854775807 := hl.max
  have hc' : m.length ≤ cap' := hm.le
  have hcm' : cap' ≤ 9223372036854775807 := hm.max
  have HL := Lib.hid hl; have HM := Lib.hid hm; clear hl hm
  by_cases hne : l.length = m.length
  · have HN := Lib.hid hne
    have hb : ((l.length : Int) != (m.length : Int)) = false := by simp [hne]
    clear hne
    go_enter Tryd.func35, Tryd.ntmps35
    go_wp2_with (fail)
    go_loopw [5] (fun i wr => ∃ k : Nat, i = .int .i64 k ∧ k ≤ l.length ∧ Below w.heap.size w wr ∧ ∀ j, j < k → lnD l j = lnD m j) (fun i _ => l.length - (intOf i).toNat)
    case atStart => exact ⟨0, rfl, by omega, Below.refl _ _, fun j h => absurd h (by omega)⟩
    case round =>
      obtain ⟨k, rfl, hk, hB, hall⟩ := hrel
      have HA := Lib.hid hall; have HB := Lib.hid hB; clear hall
      by_cases hlt : k < l.length
      · go_light
        obtain ⟨b, off, h1, a0, a1, a2, a3⟩ := line_cells4 (HL.out.below hB) hlt
        obtain ⟨b', off', h2, b0, b1, b2, b3⟩ := line_cells4 (HM.out.below hB) (i := k) (by have := HN.out; omega)
        dsimp only at h1 h2
        subst h1 h2
        have i0 : (0 : Int) ≤ (k : Int) := by omega
        have i1 : (k : Int) < (l.length : Int) := by omega
        have i2 : (k : Int) < (m.length : Int) := by have := HN.out; omega
        have w3' : IntKind.i64.wrap ((k : Int) + 1) = (k : Int) + 1 := IntWalk.i64_in _ (by omega)
        obtain ⟨⟨x0, x1, x2, x3⟩, hx⟩ : ∃ x, x = lnD l k := ⟨_, rfl⟩
        obtain ⟨⟨y0, y1, y2, y3⟩, hy⟩ : ∃ y, y = lnD m k := ⟨_, rfl⟩
        rw [← hx] at a0 a1 a2 a3; rw [← hy] at b0 b1 b2 b3
        dsimp only at a0 a1 a2 a3 b0 b1 b2 b3
        have HX := Lib.hid hx; have HY := Lib.hid hy
        clear hx hy hb hB
        obtain ⟨v, hv⟩ : ∃ v, v = decide (x0 = y0 ∧ x1 = y1 ∧ x2 = y2 ∧ x3 = y3) := ⟨_, rfl⟩
        have HE : ∀ W : World, (binOp .neq 71 (.agg #[.int .i64 x0, .int .i64 x1, .int .i64 x2, .int .i64 x3]) (.agg #[.int .i64 y0, .int .i64 y1, .int .i64 y2, .int .i64 y3])).run Tryd.prog W = .ok (.bool (!v)) W := fun W => by rw [run_neq_ln, hv]
        have HV := Lib.hid hv
        clear hv
        cases v
        case true =>
          simp only [Bool.not_true] at HE
          go_wp2_with (fail)
          refine region_ev [] [0, 1, 2, 3, 4, 5, 6, 7, 8] [] [] (by kernel_rfl) (by kernel_rfl) (by intro c a d v w h; cases d <;> exact h) ?_
          simp only [picks, List.drop_succ_cons, List.drop_zero]
          repeat (refine wpQ0_step (fun K hK => ?_); go_simp; (refine hK _ ?_; clear hK K))
          refine wpQ0_nil ?_
          repeat ((with_reducible refine wpQ2_step (fun K hK => ?_)); go_simp; first | ((with_reducible refine hK _ ?_); clear hK K) | (apply Exists.intro; refine ⟨fun x => ?_, hK _ ?_⟩; (fail); clear hK K))
          refine wpQ2_nil ?_
          refine Events.none_ fun w3 hg3 => ?_
          simp only [picks, List.drop_succ_cons, List.drop_zero]
          have hB3 := below_ext HB.out hg3
          clear a0 a1 a2 a3 b0 b1 b2 b3 hg3
          go_wp2_with (fail)
          go_roundw
          case rel => exact ⟨k + 1, by go_num, by omega, hB3, fun j hj => by
            by_cases hjk : j = k
            · obtain ⟨e0, e1, e2, e3⟩ := of_decide_eq_true HV.out.symm
              rw [hjk, ← HX.out, ← HY.out, e0, e1, e2, e3]
            · exact HA.out j (by omega)⟩
          case measure => simp [intOf]; omega
        case false =>
          simp only [Bool.not_false] at HE
          have hne : l ≠ m := fun he => by
            have h1 := HX.out; have h2 := HY.out
            rw [he] at h1
            have h3 := h1.trans h2.symm
            injection h3 with e0 e1 e2 e3
            exact of_decide_eq_false HV.out.symm ⟨e0, e1, e2, e3⟩
          have HNE := Lib.hid hne
          clear hne
          go_wp2_with (fail)
          refine region_ev [] [0, 1, 2, 3, 4, 5, 6, 7, 8] [] [] (by kernel_rfl) (by kernel_rfl) (by intro c a d v w h; cases d <;> exact h) ?_
          simp only [picks, List.drop_succ_cons, List.drop_zero]
          repeat (refine wpQ0_step (fun K hK => ?_); go_simp; (refine hK _ ?_; clear hK K))
          refine wpQ0_nil ?_
          repeat ((with_reducible refine wpQ2_step (fun K hK => ?_)); go_simp; first | ((with_reducible refine hK _ ?_); clear hK K) | (apply Exists.intro; refine ⟨fun x => ?_, hK _ ?_⟩; (fail); clear hK K))
          refine wpQ2_nil ?_
          refine Events.none_ fun w3 hg3 => ?_
          simp only [picks, List.drop_succ_cons, List.drop_zero]
          have hB3 := below_ext HB.out hg3
          clear a0 a1 a2 a3 b0 b1 b2 b3 hg3
          go_wp2_with (fail)
          go_ret
          exact ⟨ret_bool (by rw [decide_eq_false HNE.out]), hB3⟩
      · obtain rfl : k = l.length := by omega
        have r1 : ¬ (l.length : Int) < (l.length : Int) := by omega
        clear hb
        go_wp2_with (fail)
        go_ret
        exact ⟨ret_bool (decide_eq_true (lines_ext HN.out HA.out)).symm, HB.out⟩
  · have hb : ((l.length : Int) != (m.length : Int)) = true := by simp; omega
    have hd : l ≠ m := fun he => hne (by rw [he])
    have HD := Lib.hid hd
    clear hd
    go_enter Tryd.func35, Tryd.ntmps35
    go_wp2_with (fail)
    go_ret
    exact ⟨ret_bool (decide_eq_false HD.out).symm, Below.refl _ _⟩
end Go.Proofs.YtahgbecfaihfpaaDoor
