/-
  The reference's comparisons of two lists: of notes, pieces, spans, gaps, strikes; ref1.Ints.
-/
import Derived.Test.YtapeakbngligaaaGreatDoorBView
namespace Go.Proofs.YtapeakbngligaaaGreatDoor
open Go.RowKit D
set_option linter.unusedVariables false
set_option linter.unusedSimpArgs false
attribute [local go_sem high] run_minI run_maxI
attribute [local go_sem] upon2 cls_cell cls_frozen forall_const exists_eq_left'
attribute [local go_sem] FirstUpon
theorem toL_iff {a b : ByteArray} : a.toList = b.toList ↔ a = b := by rw [ByteArray.toList_eq, ByteArray.toList_eq]; exact ⟨ba_ext, fun h => by rw [h]⟩
theorem sameNt_ext {l m : List Note} (h : l.length = m.length) (h' : ∀ j, j < l.length → ntD l j = ntD m j) : l = m := by
  refine List.ext_getElem h fun i h1 h2 => ?_
  have := h' i h1
  rwa [ntD, ntD, List.getD_eq_getElem?_getD, List.getD_eq_getElem?_getD, List.getElem?_eq_getElem h1, List.getElem?_eq_getElem h2] at this
theorem run_neq_sameNt (w : World) (x0 y0 : ByteArray) (x1 y1 : Int) (x2 y2 : Int) (x3 y3 : Int) (x4 y4 : Int) (x5 y5 : Int) (x6 y6 : Int) (x7 y7 : Int) : (binOp .neq 58 (.agg #[.string x0, .int .i64 x1, .int .i64 x2, .int .i64 x3, .int .i64 x4, .int .i64 x5, .int .i64 x6, .int .i64 x7]) (.agg #[.string y0, .int .i64 y1, .int .i64 y2, .int .i64 y3, .int .i64 y4, .int .i64 y5, .int .i64 y6, .int .i64 y7])).run Tryz.prog w = .ok (.bool (!(decide (x0 = y0 ∧ x1 = y1 ∧ x2 = y2 ∧ x3 = y3 ∧ x4 = y4 ∧ x5 = y5 ∧ x6 = y6 ∧ x7 = y7)))) w := by
  go_simp
  by_cases h0 : x0 = y0 <;> by_cases h1 : x1 = y1 <;> by_cases h2 : x2 = y2 <;> by_cases h3 : x3 = y3 <;> by_cases h4 : x4 = y4 <;> by_cases h5 : x5 = y5 <;> by_cases h6 : x6 = y6 <;> by_cases h7 : x7 = y7 <;> simp [h0, h1, h2, h3, h4, h5, h6, h7, toL_iff]
theorem samePc_ext {l m : List Piece} (h : l.length = m.length) (h' : ∀ j, j < l.length → pcD l j = pcD m j) : l = m := by
  refine List.ext_getElem h fun i h1 h2 => ?_
  have := h' i h1
  rwa [pcD, pcD, List.getD_eq_getElem?_getD, List.getD_eq_getElem?_getD, List.getElem?_eq_getElem h1, List.getElem?_eq_getElem h2] at this
theorem run_neq_samePc (w : World) (x0 y0 : Int) (x1 y1 : Int) (x2 y2 : Bool) : (binOp .neq 112 (.agg #[.int .i64 x0, .int .i64 x1, .bool x2]) (.agg #[.int .i64 y0, .int .i64 y1, .bool y2])).run Tryz.prog w = .ok (.bool (!(decide (x0 = y0 ∧ x1 = y1 ∧ x2 = y2)))) w := by
  go_simp
  by_cases h0 : x0 = y0 <;> by_cases h1 : x1 = y1 <;> by_cases h2 : x2 = y2 <;> simp [h0, h1, h2]
theorem sameSp_ext {l m : List Span} (h : l.length = m.length) (h' : ∀ j, j < l.length → spD l j = spD m j) : l = m := by
  refine List.ext_getElem h fun i h1 h2 => ?_
  have := h' i h1
  rwa [spD, spD, List.getD_eq_getElem?_getD, List.getD_eq_getElem?_getD, List.getElem?_eq_getElem h1, List.getElem?_eq_getElem h2] at this
theorem run_neq_sameSp (w : World) (x0 y0 : Int) (x1 y1 : Int) : (binOp .neq 23 (.agg #[.int .i64 x0, .int .i64 x1]) (.agg #[.int .i64 y0, .int .i64 y1])).run Tryz.prog w = .ok (.bool (!(decide (x0 = y0 ∧ x1 = y1)))) w := by
  go_simp
  by_cases h0 : x0 = y0 <;> by_cases h1 : x1 = y1 <;> simp [h0, h1]
set_option maxRecDepth 100000 in
set_option maxHeartbeats 8000000 in
theorem sameSp_any {s t : Sl} {l m : List Span} {w : World} (hl : SpansS w s l) (hm : SpansS w t m) :
    Calls Tryz.prog 23 #[.slice s.a l.length s.cap, .slice t.a m.length t.cap] w fun e w' => e = .returned (.bool (decide (l = m))) ∧ Below w.heap.size w w' := by
  obtain ⟨a, cap⟩ := s
  obtain ⟨a', cap'⟩ := t
  have hc : l.length ≤ cap := hl.le
  have hcm : cap ≤ 9223372036854775807 := hl.max
  have hc' : m.length ≤ cap' := hm.le
  have hcm' : cap' ≤ 9223372036854775807 := hm.max
  have HL := Lib.hid hl; have HM := Lib.hid hm; clear hl hm
  by_cases hne : l.length = m.length
  · have HN := Lib.hid hne
    have hb : ((l.length : Int) != (m.length : Int)) = false := by simp [hne]
    clear hne
    go_enter Tryz.func23, Tryz.ntmps23
    go_wp2_with (fail)
    go_loopw [5] (fun i wr => ∃ k : Nat, i = .int .i64 k ∧ k ≤ l.length ∧ Below w.heap.size w wr ∧ ∀ j, j < k → spD l j = spD m j) (fun i _ => l.length - (intOf i).toNat)
    case atStart => exact ⟨0, rfl, by omega, Below.refl _ _, fun j h => absurd h (by omega)⟩
    case round =>
      obtain ⟨k, rfl, hk, hB, hall⟩ := hrel
      have HA := Lib.hid hall; have HB := Lib.hid hB; clear hall
      by_cases hlt : k < l.length
      · go_light
        obtain ⟨b, off, h1, x0, x1⟩ := sp_cells (HL.out.below hB) hlt
        obtain ⟨b', off', h2, y0, y1⟩ := sp_cells (HM.out.below hB) (i := k) (by have := HN.out; omega)
        dsimp only at h1 h2
        subst h1 h2
        have i0 : (0 : Int) ≤ (k : Int) := by omega
        have i1 : (k : Int) < (l.length : Int) := by omega
        have i2 : (k : Int) < (m.length : Int) := by have := HN.out; omega
        have w3' : IntKind.i64.wrap ((k : Int) + 1) = (k : Int) + 1 := IntWalk.i64_in _ (by omega)
        obtain ⟨u0, hu0⟩ : ∃ x, x = (spD l k).lo := ⟨_, rfl⟩
        obtain ⟨v0, hv0⟩ : ∃ x, x = (spD m k).lo := ⟨_, rfl⟩
        rw [← hu0] at x0; rw [← hv0] at y0
        obtain ⟨u1, hu1⟩ : ∃ x, x = (spD l k).hi := ⟨_, rfl⟩
        obtain ⟨v1, hv1⟩ : ∃ x, x = (spD m k).hi := ⟨_, rfl⟩
        rw [← hu1] at x1; rw [← hv1] at y1
        have HX : Hid (spD l k = spD m k ↔ (u0 = v0 ∧ u1 = v1)) := Lib.hid (by
          rw [hu0, hv0, hu1, hv1]
          constructor
          · intro h; rw [h]; simp
          · intro h; cases h1 : spD l k; cases h2 : spD m k; rw [h1, h2] at h; simpa using h)
        clear hu0 hv0 hu1 hv1 hb hB
        go_wp2_with (fail)
        by_cases hq : u0 = v0 ∧ u1 = v1
        · have HQ := Lib.hid (HX.out.2 hq)
          obtain ⟨rfl, rfl⟩ := hq
          have HE : ∀ W : World, (binOp .neq 23 (.agg #[.int .i64 u0, .int .i64 u1]) (.agg #[.int .i64 u0, .int .i64 u1])).run Tryz.prog W = .ok (.bool false) W := fun W => by rw [run_neq_sameSp, decide_eq_true (by simp)]; rfl
          refine region_ev [] [0, 1, 2, 3, 4, 5, 6, 7, 8] [] [] (by kernel_rfl) (by kernel_rfl) (by intro c a d v w h; cases d <;> exact h) ?_
          simp only [picks, List.drop_succ_cons, List.drop_zero]
          repeat (refine wpQ0_step (fun K hK => ?_); go_simp; (refine hK _ ?_; clear hK K))
          refine wpQ0_nil ?_
          repeat ((with_reducible refine wpQ2_step (fun K hK => ?_)); go_simp; first | ((with_reducible refine hK _ ?_); clear hK K) | (apply Exists.intro; refine ⟨fun x => ?_, hK _ ?_⟩; (fail); clear hK K))
          refine wpQ2_nil ?_
          refine Events.none_ fun w3 hg3 => ?_
          simp only [picks, List.drop_succ_cons, List.drop_zero]
          have hB3 := below_ext HB.out hg3
          clear x0 x1 y0 y1 hg3
          go_wp2_with (fail)
          go_roundw
          case rel => exact ⟨k + 1, by go_num, by omega, hB3, fun j hj => by
            by_cases hjk : j = k
            · rw [hjk]; exact HQ.out
            · exact HA.out j (by omega)⟩
          case measure => simp [intOf]; omega
        · have hne : l ≠ m := fun he => hq (HX.out.1 (by rw [he]))
          have HNE := Lib.hid hne
          have hd := decide_eq_false hq
          have HE : ∀ W : World, (binOp .neq 23 (.agg #[.int .i64 u0, .int .i64 u1]) (.agg #[.int .i64 v0, .int .i64 v1])).run Tryz.prog W = .ok (.bool true) W := fun W => by rw [run_neq_sameSp, hd]; rfl
          clear hq hne hd
          refine region_ev [] [0, 1, 2, 3, 4, 5, 6, 7, 8] [] [] (by kernel_rfl) (by kernel_rfl) (by intro c a d v w h; cases d <;> exact h) ?_
          simp only [picks, List.drop_succ_cons, List.drop_zero]
          repeat (refine wpQ0_step (fun K hK => ?_); go_simp; (refine hK _ ?_; clear hK K))
          refine wpQ0_nil ?_
          repeat ((with_reducible refine wpQ2_step (fun K hK => ?_)); go_simp; first | ((with_reducible refine hK _ ?_); clear hK K) | (apply Exists.intro; refine ⟨fun x => ?_, hK _ ?_⟩; (fail); clear hK K))
          refine wpQ2_nil ?_
          refine Events.none_ fun w3 hg3 => ?_
          simp only [picks, List.drop_succ_cons, List.drop_zero]
          have hB3 := below_ext HB.out hg3
          clear x0 x1 y0 y1 hg3
          go_wp2_with (fail)
          go_ret
          exact ⟨ret_bool (by rw [decide_eq_false HNE.out]), hB3⟩
      · obtain rfl : k = l.length := by omega
        have r1 : ¬ (l.length : Int) < (l.length : Int) := by omega
        clear hb
        go_wp2_with (fail)
        go_ret
        exact ⟨ret_bool (decide_eq_true (sameSp_ext HN.out HA.out)).symm, HB.out⟩
  · have hb : ((l.length : Int) != (m.length : Int)) = true := by simp; omega
    have hd : l ≠ m := fun he => hne (by rw [he])
    have HD := Lib.hid hd
    clear hd
    go_enter Tryz.func23, Tryz.ntmps23
    go_wp2_with (fail)
    go_ret
    exact ⟨ret_bool (decide_eq_false HD.out).symm, Below.refl _ _⟩
theorem sameGp_ext {l m : List Gap} (h : l.length = m.length) (h' : ∀ j, j < l.length → gpD l j = gpD m j) : l = m := by
  refine List.ext_getElem h fun i h1 h2 => ?_
  have := h' i h1
  rwa [gpD, gpD, List.getD_eq_getElem?_getD, List.getD_eq_getElem?_getD, List.getElem?_eq_getElem h1, List.getElem?_eq_getElem h2] at this
theorem run_neq_sameGp (w : World) (x0 y0 : Int) (x1 y1 : Int) (x2 y2 : Int) (x3 y3 : Int) : (binOp .neq 49 (.agg #[.int .i64 x0, .int .i64 x1, .int .i64 x2, .int .i64 x3]) (.agg #[.int .i64 y0, .int .i64 y1, .int .i64 y2, .int .i64 y3])).run Tryz.prog w = .ok (.bool (!(decide (x0 = y0 ∧ x1 = y1 ∧ x2 = y2 ∧ x3 = y3)))) w := by
  go_simp
  by_cases h0 : x0 = y0 <;> by_cases h1 : x1 = y1 <;> by_cases h2 : x2 = y2 <;> by_cases h3 : x3 = y3 <;> simp [h0, h1, h2, h3]
set_option maxRecDepth 100000 in
set_option maxHeartbeats 8000000 in
theorem sameGp_any {s t : Sl} {l m : List Gap} {w : World} (hl : GapsS w s l) (hm : GapsS w t m) :
    Calls Tryz.prog 12 #[.slice s.a l.length s.cap, .slice t.a m.length t.cap] w fun e w' => e = .returned (.bool (decide (l = m))) ∧ Below w.heap.size w w' := by
  obtain ⟨a, cap⟩ := s
  obtain ⟨a', cap'⟩ := t
  have hc : l.length ≤ cap := hl.le
  have hcm : cap ≤ 9223372036854775807 := hl.max
  have hc' : m.length ≤ cap' := hm.le
  have hcm' : cap' ≤ 9223372036854775807 := hm.max
  have HL := Lib.hid hl; have HM := Lib.hid hm; clear hl hm
  by_cases hne : l.length = m.length
  · have HN := Lib.hid hne
    have hb : ((l.length : Int) != (m.length : Int)) = false := by simp [hne]
    clear hne
    go_enter Tryz.func12, Tryz.ntmps12
    go_wp2_with (fail)
    go_loopw [5] (fun i wr => ∃ k : Nat, i = .int .i64 k ∧ k ≤ l.length ∧ Below w.heap.size w wr ∧ ∀ j, j < k → gpD l j = gpD m j) (fun i _ => l.length - (intOf i).toNat)
    case atStart => exact ⟨0, rfl, by omega, Below.refl _ _, fun j h => absurd h (by omega)⟩
    case round =>
      obtain ⟨k, rfl, hk, hB, hall⟩ := hrel
      have HA := Lib.hid hall; have HB := Lib.hid hB; clear hall
      by_cases hlt : k < l.length
      · go_light
        obtain ⟨b, off, h1, x0, x1, x2, x3⟩ := gp_cells (HL.out.below hB) hlt
        obtain ⟨b', off', h2, y0, y1, y2, y3⟩ := gp_cells (HM.out.below hB) (i := k) (by have := HN.out; omega)
        dsimp only at h1 h2
        subst h1 h2
        have i0 : (0 : Int) ≤ (k : Int) := by omega
        have i1 : (k : Int) < (l.length : Int) := by omega
        have i2 : (k : Int) < (m.length : Int) := by have := HN.out; omega
        have w3' : IntKind.i64.wrap ((k : Int) + 1) = (k : Int) + 1 := IntWalk.i64_in _ (by omega)
        obtain ⟨u0, hu0⟩ : ∃ x, x = (gpD l k).frame := ⟨_, rfl⟩
        obtain ⟨v0, hv0⟩ : ∃ x, x = (gpD m k).frame := ⟨_, rfl⟩
        rw [← hu0] at x0; rw [← hv0] at y0
        obtain ⟨u1, hu1⟩ : ∃ x, x = (gpD l k).kind := ⟨_, rfl⟩
        obtain ⟨v1, hv1⟩ : ∃ x, x = (gpD m k).kind := ⟨_, rfl⟩
        rw [← hu1] at x1; rw [← hv1] at y1
        obtain ⟨u2, hu2⟩ : ∃ x, x = (gpD l k).lo := ⟨_, rfl⟩
        obtain ⟨v2, hv2⟩ : ∃ x, x = (gpD m k).lo := ⟨_, rfl⟩
        rw [← hu2] at x2; rw [← hv2] at y2
        obtain ⟨u3, hu3⟩ : ∃ x, x = (gpD l k).hi := ⟨_, rfl⟩
        obtain ⟨v3, hv3⟩ : ∃ x, x = (gpD m k).hi := ⟨_, rfl⟩
        rw [← hu3] at x3; rw [← hv3] at y3
        have HX : Hid (gpD l k = gpD m k ↔ (u0 = v0 ∧ u1 = v1 ∧ u2 = v2 ∧ u3 = v3)) := Lib.hid (by
          rw [hu0, hv0, hu1, hv1, hu2, hv2, hu3, hv3]
          constructor
          · intro h; rw [h]; simp
          · intro h; cases h1 : gpD l k; cases h2 : gpD m k; rw [h1, h2] at h; simpa using h)
        clear hu0 hv0 hu1 hv1 hu2 hv2 hu3 hv3 hb hB
        go_wp2_with (fail)
        by_cases hq : u0 = v0 ∧ u1 = v1 ∧ u2 = v2 ∧ u3 = v3
        · have HQ := Lib.hid (HX.out.2 hq)
          obtain ⟨rfl, rfl, rfl, rfl⟩ := hq
          have HE : ∀ W : World, (binOp .neq 49 (.agg #[.int .i64 u0, .int .i64 u1, .int .i64 u2, .int .i64 u3]) (.agg #[.int .i64 u0, .int .i64 u1, .int .i64 u2, .int .i64 u3])).run Tryz.prog W = .ok (.bool false) W := fun W => by rw [run_neq_sameGp, decide_eq_true (by simp)]; rfl
          refine region_ev [] [0, 1, 2, 3, 4, 5, 6, 7, 8] [] [] (by kernel_rfl) (by kernel_rfl) (by intro c a d v w h; cases d <;> exact h) ?_
          simp only [picks, List.drop_succ_cons, List.drop_zero]
          repeat (refine wpQ0_step (fun K hK => ?_); go_simp; (refine hK _ ?_; clear hK K))
          refine wpQ0_nil ?_
          repeat ((with_reducible refine wpQ2_step (fun K hK => ?_)); go_simp; first | ((with_reducible refine hK _ ?_); clear hK K) | (apply Exists.intro; refine ⟨fun x => ?_, hK _ ?_⟩; (fail); clear hK K))
          refine wpQ2_nil ?_
          refine Events.none_ fun w3 hg3 => ?_
          simp only [picks, List.drop_succ_cons, List.drop_zero]
          have hB3 := below_ext HB.out hg3
          clear x0 x1 x2 x3 y0 y1 y2 y3 hg3
          go_wp2_with (fail)
          go_roundw
          case rel => exact ⟨k + 1, by go_num, by omega, hB3, fun j hj => by
            by_cases hjk : j = k
            · rw [hjk]; exact HQ.out
            · exact HA.out j (by omega)⟩
          case measure => simp [intOf]; omega
        · have hne : l ≠ m := fun he => hq (HX.out.1 (by rw [he]))
          have HNE := Lib.hid hne
          have hd := decide_eq_false hq
          have HE : ∀ W : World, (binOp .neq 49 (.agg #[.int .i64 u0, .int .i64 u1, .int .i64 u2, .int .i64 u3]) (.agg #[.int .i64 v0, .int .i64 v1, .int .i64 v2, .int .i64 v3])).run Tryz.prog W = .ok (.bool true) W := fun W => by rw [run_neq_sameGp, hd]; rfl
          clear hq hne hd
          refine region_ev [] [0, 1, 2, 3, 4, 5, 6, 7, 8] [] [] (by kernel_rfl) (by kernel_rfl) (by intro c a d v w h; cases d <;> exact h) ?_
          simp only [picks, List.drop_succ_cons, List.drop_zero]
          repeat (refine wpQ0_step (fun K hK => ?_); go_simp; (refine hK _ ?_; clear hK K))
          refine wpQ0_nil ?_
          repeat ((with_reducible refine wpQ2_step (fun K hK => ?_)); go_simp; first | ((with_reducible refine hK _ ?_); clear hK K) | (apply Exists.intro; refine ⟨fun x => ?_, hK _ ?_⟩; (fail); clear hK K))
          refine wpQ2_nil ?_
          refine Events.none_ fun w3 hg3 => ?_
          simp only [picks, List.drop_succ_cons, List.drop_zero]
          have hB3 := below_ext HB.out hg3
          clear x0 x1 x2 x3 y0 y1 y2 y3 hg3
          go_wp2_with (fail)
          go_ret
          exact ⟨ret_bool (by rw [decide_eq_false HNE.out]), hB3⟩
      · obtain rfl : k = l.length := by omega
        have r1 : ¬ (l.length : Int) < (l.length : Int) := by omega
        clear hb
        go_wp2_with (fail)
        go_ret
        exact ⟨ret_bool (decide_eq_true (sameGp_ext HN.out HA.out)).symm, HB.out⟩
  · have hb : ((l.length : Int) != (m.length : Int)) = true := by simp; omega
    have hd : l ≠ m := fun he => hne (by rw [he])
    have HD := Lib.hid hd
    clear hd
    go_enter Tryz.func12, Tryz.ntmps12
    go_wp2_with (fail)
    go_ret
    exact ⟨ret_bool (decide_eq_false HD.out).symm, Below.refl _ _⟩
theorem sameSk_ext {l m : List Strike} (h : l.length = m.length) (h' : ∀ j, j < l.length → skD l j = skD m j) : l = m := by
  refine List.ext_getElem h fun i h1 h2 => ?_
  have := h' i h1
  rwa [skD, skD, List.getD_eq_getElem?_getD, List.getD_eq_getElem?_getD, List.getElem?_eq_getElem h1, List.getElem?_eq_getElem h2] at this
theorem run_neq_sameSk (w : World) (x0 y0 : ByteArray) (x1 y1 : Int) (x2 y2 : ByteArray) (x3 y3 : Int) : (binOp .neq 63 (.agg #[.string x0, .int .i64 x1, .string x2, .int .i64 x3]) (.agg #[.string y0, .int .i64 y1, .string y2, .int .i64 y3])).run Tryz.prog w = .ok (.bool (!(decide (x0 = y0 ∧ x1 = y1 ∧ x2 = y2 ∧ x3 = y3)))) w := by
  go_simp
  by_cases h0 : x0 = y0 <;> by_cases h1 : x1 = y1 <;> by_cases h2 : x2 = y2 <;> by_cases h3 : x3 = y3 <;> simp [h0, h1, h2, h3, toL_iff]
theorem errs_ext {l m : List Int} (h : l.length = m.length) (h' : ∀ j, j < l.length → intD l j = intD m j) : l = m := by
  refine List.ext_getElem h fun i h1 h2 => ?_
  have := h' i h1
  rwa [intD, intD, List.getD_eq_getElem?_getD, List.getD_eq_getElem?_getD, List.getElem?_eq_getElem h1, List.getElem?_eq_getElem h2] at this
end Go.Proofs.YtapeakbngligaaaGreatDoor
