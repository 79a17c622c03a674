/-
  The functions within near: keep, risk.
-/
import Derived.Test.YtkidicfpfknfoaaDoorVAmts
namespace Go.Proofs.YtkidicfpfknfoaaDoor
open Go.RowKit D
set_option linter.unusedVariables false
set_option linter.unusedSimpArgs false
attribute [local go_sem high] run_minI run_maxI
attribute [local go_sem] upon2 cls_cell cls_frozen forall_const exists_eq_left'
attribute [local go_sem] FirstUpon
/-- The boxes that near's functions share: the vault, and the amounts. -/
structure NrBox (w : World) (S : Site) (s : SSl) (b b1 b2 : Nat) (am : List Int) (t : Sl) : Prop where
  vlt : ∃ M k, VltAt w S s b M k
  box1 : w.heap[b1]? = some (.cells #[.pointer (some ⟨b, 0, none⟩)] 128 (0, 0))
  box2 : w.heap[b2]? = some (.cells #[.slice t.a am.length t.cap] 51 (0, 0))
  am : IntsS w t am
theorem NrBox.below {w w' : World} {S : Site} {s : SSl} {b b1 b2 : Nat} {am : List Int} {t : Sl} (h : NrBox w S s b b1 b2 am t) (hb : Below w.heap.size w w') : NrBox w' S s b b1 b2 am t := by
  obtain ⟨⟨M, k, hv⟩, h1, h2, h3⟩ := h
  exact ⟨⟨M, k, hv.below hb⟩, below_blk hb h1 (blk_lt h1), below_blk hb h2 (blk_lt h2), h3.below hb⟩
set_option maxRecDepth 100000 in
set_option maxHeartbeats 2000000 in
theorem keep_any {S : Site} {s : SSl} {b b1 b2 : Nat} {am : List Int} {t : Sl} {a : Nat} {w : World} (hB : NrBox w S s b b1 b2 am t) (ha : a < am.length) (hs : S.steps.length ≤ 8) :
    Calls Tryd.prog 77 (#[.int .i64 (a : Int)] ++ #[.pointer (some ⟨b1, 0, none⟩), .pointer (some ⟨b2, 0, none⟩)]) w fun e w' => e = .returned (.int .i64 (met S (intD am a))) ∧ Below w.heap.size w w' := by
  have HB := Lib.hid hB
  obtain ⟨⟨M, k, hv⟩, x1, x2, hI⟩ := hB
  have x0 := hv.blk
  have hpl := hv.site.st.le; have hpm := hv.site.st.max
  obtain ⟨tb, toff, hta, t0⟩ := int_cell hI ha
  have htl := hI.le; have htm := hI.max
  obtain ⟨ta, tc⟩ := t
  dsimp only at hta htl htm
  subst hta
  obtain ⟨rs, cs, ⟨pa, pc⟩⟩ := s
  dsimp only at hpl hpm
  have X0 := Lib.hid x0; have X1 := Lib.hid x1; have X2 := Lib.hid x2; have HV := Lib.hid hv; have HI := Lib.hid hI
  obtain ⟨A, hA⟩ : ∃ A, A = intD am a := ⟨_, rfl⟩
  rw [← hA]
  have HA := Lib.hid hA
  clear hv hI t0 hA
  go_enter Tryd.func77, Tryd.ntmps77
  have q0c := cell_blk x0
  have q0f := frz_blk x0
  have q1c := cell_blk x1
  have q1f := frz_blk x1
  go_wp2_with (fail)
  clear q0c q0f q1c q1f x0 x1 x2
  go_loopw [4, 13] (fun v p wr => ∃ i : Nat, p = .int .i64 (i : Int) ∧ i ≤ S.steps.length ∧ v = .int .i64 (metK S.steps A i) ∧ Ext2 w wr) (fun _ p _ => S.steps.length - (intOf p).toNat)
  case atStart => exact ⟨0, rfl, by omega, rfl, Below.refl _ _⟩
  case round =>
    obtain ⟨i, rfl, hi, rfl, hE⟩ := hrel
    by_cases hlt : i < S.steps.length
    · go_light
      obtain ⟨pb, poff, hpa, c0, c1⟩ := st_cells (HV.out.site.below hE).st hlt
      dsimp only at hpa
      subst hpa
      obtain ⟨c, hc⟩ : ∃ c, c = stD S.steps i := ⟨_, rfl⟩
      rw [← hc] at c0 c1
      have HC := Lib.hid hc
      have p0 : (0 : Int) ≤ (i : Int) := by omega
      have p1 : (i : Int) < (S.steps.length : Int) := by omega
      have p2 : (0 : Int) ≤ (a : Int) := by omega
      have p3 : (a : Int) < (am.length : Int) := by omega
      have w3 : IntKind.i64.wrap ((i : Int) + 1) = (i : Int) + 1 := IntWalk.i64_in _ (by omega)
      clear hc
      go_wp2_with (fail)
      refine wp_name ?_
      intro w2 h2
      have hB2 : Ext2 wr w2 := by rw [h2]; exact below_alloc _ _
      have y2 : w2.heap[wr.heap.size]? = some (Obj.cells #[.int .i64 c.over, .int .i64 c.metres] 111) := by rw [h2]; exact blk_new _ _
      have hE2 := ext_trans hE hB2
      have x2 := Ext2.blk hE2 X2.out
      obtain ⟨_, _, e0, t0⟩ := int_cell (HI.out.below hE2) ha
      obtain ⟨rfl, rfl⟩ : tb = _ ∧ toff = _ := by simpa using e0
      rw [← HA.out] at t0
      obtain ⟨yb, hyb⟩ : ∃ yb, yb = wr.heap.size := ⟨_, rfl⟩
      rw [← hyb] at y2 ⊢
      clear h2 c0 c1 e0 hyb
      by_cases hlo : c.over < A
      · have hd : decide (c.over < A) = true := decide_eq_true hlo
        have HLO := Lib.hid hlo; clear hlo
        have q0c := cell_blk y2
        have q0f := frz_blk y2
        have q2c := cell_blk x2
        have q2f := frz_blk x2
        refine region_ev [] [0, 1, 2, 3, 4, 5, 6] [] [] (by kernel_rfl) (by kernel_rfl) (by intro c a d v w h; cases d <;> exact h) ?_
        simp only [picks, List.drop_succ_cons, List.drop_zero]
        repeat (refine wpQ0_step (fun K hK => ?_); go_simp; (refine hK _ ?_; clear hK K))
        refine wpQ0_nil ?_
        repeat ((with_reducible refine wpQ2_step (fun K hK => ?_)); go_simp; first | ((with_reducible refine hK _ ?_); clear hK K) | (apply Exists.intro; refine ⟨fun x => ?_, hK _ ?_⟩; (fail); clear hK K))
        refine wpQ2_nil ?_
        refine Events.none_ fun w3 hg3 => ?_
        simp only [picks, List.drop_succ_cons, List.drop_zero]
        have hE3 := ext_trans hE2 hg3
        have y3 := Ext2.blk hg3 y2
        clear q0c q0f q2c q2f t0 x2 y2
        have q0c := cell_blk y3
        have q0f := frz_blk y3
        go_wp2_with (fail)
        go_roundw
        case rel => exact ⟨i + 1, by go_num, by omega, by rw [metK, ← HC.out, if_pos HLO.out], hE3⟩
        case measure => simp [intOf]; omega
      · have hd : decide (c.over < A) = false := decide_eq_false hlo
        have HLO := Lib.hid hlo; clear hlo
        have q0c := cell_blk y2
        have q0f := frz_blk y2
        have q2c := cell_blk x2
        have q2f := frz_blk x2
        refine region_ev [] [0, 1, 2, 3, 4, 5, 6] [] [] (by kernel_rfl) (by kernel_rfl) (by intro c a d v w h; cases d <;> exact h) ?_
        simp only [picks, List.drop_succ_cons, List.drop_zero]
        repeat (refine wpQ0_step (fun K hK => ?_); go_simp; (refine hK _ ?_; clear hK K))
        refine wpQ0_nil ?_
        repeat ((with_reducible refine wpQ2_step (fun K hK => ?_)); go_simp; first | ((with_reducible refine hK _ ?_); clear hK K) | (apply Exists.intro; refine ⟨fun x => ?_, hK _ ?_⟩; (fail); clear hK K))
        refine wpQ2_nil ?_
        refine Events.none_ fun w3 hg3 => ?_
        simp only [picks, List.drop_succ_cons, List.drop_zero]
        have hE3 := ext_trans hE2 hg3
        clear q0c q0f q2c q2f t0 x2 y2
        go_wp2_with (fail)
        go_roundw
        case rel => exact ⟨i + 1, by go_num, by omega, by rw [metK, ← HC.out, if_neg HLO.out], hE3⟩
        case measure => simp [intOf]; omega
    · obtain rfl : i = S.steps.length := by omega
      have hr8 : ¬ (S.steps.length : Int) < (S.steps.length : Int) := by omega
      go_wp2_with (fail)
      go_ret
      exact ⟨rfl, hE⟩
set_option maxRecDepth 100000 in
set_option maxHeartbeats 2000000 in
theorem risk_any {S : Site} {s : SSl} {b b1 b2 : Nat} {am : List Int} {t : Sl} {p q : Nat} {w : World} (hB : NrBox w S s b b1 b2 am t) (hp : p < am.length) (hq : q < am.length) (hl : am.length = S.rooms.length) :
    Calls Tryd.prog 78 (#[.int .i64 (p : Int), .int .i64 (q : Int)] ++ #[.pointer (some ⟨b2, 0, none⟩), .pointer (some ⟨b1, 0, none⟩)]) w fun e w' => e = .returned (.bool (decide (0 < intD am p) && (decide (0 < intD am q) || (rmD S.rooms q).people))) ∧ w = w' := by
  obtain ⟨⟨M, k, hv⟩, x1, x2, hI⟩ := hB
  have x0 := hv.blk
  have hrl := hv.site.rm.le; have hrm := hv.site.rm.max
  obtain ⟨rb, roff, hra, hc⟩ := rm_cells hv.site.rm (i := q) (by omega)
  have c5 := hc.c5
  obtain ⟨tb, toff, hta, t0⟩ := int_cell hI hp
  obtain ⟨_, _, e0, t1⟩ := int_cell hI hq
  rw [hta] at e0
  obtain ⟨rfl, rfl⟩ : tb = _ ∧ toff = _ := by simpa using e0
  have htl := hI.le; have htm := hI.max
  obtain ⟨ta, tc⟩ := t
  dsimp only at hta htl htm
  subst hta
  obtain ⟨⟨ra, rc⟩, cs, ps⟩ := s
  dsimp only at hra hrl hrm
  subst hra
  obtain ⟨A, hA⟩ : ∃ A, A = intD am p := ⟨_, rfl⟩
  obtain ⟨B, hB⟩ : ∃ B, B = intD am q := ⟨_, rfl⟩
  obtain ⟨u, hu⟩ : ∃ u, u = (rmD S.rooms q).people := ⟨_, rfl⟩
  rw [← hA] at t0 ⊢
  rw [← hB] at t1 ⊢
  rw [← hu] at c5 ⊢
  rw [hl] at htl hp hq x2
  have p0 : (0 : Int) ≤ (p : Int) := by omega
  have p1 : (p : Int) < (S.rooms.length : Int) := by omega
  have p2 : (0 : Int) ≤ (q : Int) := by omega
  have p3 : (q : Int) < (S.rooms.length : Int) := by omega
  clear hA hB hu e0 hc hI hv hl
  by_cases h1 : 0 < A
  · by_cases h2 : 0 < B
    · go_enter Tryd.func78, Tryd.ntmps78
      have q0c := cell_blk x0
      have q0f := frz_blk x0
      have q1c := cell_blk x1
      have q1f := frz_blk x1
      have q2c := cell_blk x2
      have q2f := frz_blk x2
      go_wp2_with (fail)
      go_ret
      exact ⟨ret_bool (by simp [h1, h2]), rfl⟩
    · have hd : decide (0 < B) = false := decide_eq_false h2
      have H2 := Lib.hid h2; clear h2
      go_enter Tryd.func78, Tryd.ntmps78
      have q0c := cell_blk x0
      have q0f := frz_blk x0
      have q1c := cell_blk x1
      have q1f := frz_blk x1
      have q2c := cell_blk x2
      have q2f := frz_blk x2
      go_wp2_with (fail)
      go_ret
      exact ⟨ret_bool (by simp [h1, H2.out]), rfl⟩
  · have hd : decide (0 < A) = false := decide_eq_false h1
    have H1 := Lib.hid h1; clear h1
    go_enter Tryd.func78, Tryd.ntmps78
    have q0c := cell_blk x0
    have q0f := frz_blk x0
    have q1c := cell_blk x1
    have q1f := frz_blk x1
    have q2c := cell_blk x2
    have q2f := frz_blk x2
    go_wp2_with (fail)
    go_ret
    exact ⟨ret_bool (by simp [H1.out]), rfl⟩
end Go.Proofs.YtkidicfpfknfoaaDoor
