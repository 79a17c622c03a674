/-
  law.holds, where it holds.
-/
import Derived.Test.YtapeakbngligaaaGreatDoorBPlX
import Derived.Test.YtapeakbngligaaaGreatDoorBCmp
import Derived.Test.YtapeakbngligaaaGreatDoorBGpA
namespace Go.Proofs.YtapeakbngligaaaGreatDoor
open Go.RowKit D
set_option linter.unusedVariables false
set_option linter.unusedSimpArgs false
attribute [local go_sem high] run_minI run_maxI
attribute [local go_sem] upon2 cls_cell cls_frozen forall_const exists_eq_left'
attribute [local go_sem] FirstUpon atBlk_cell
set_option maxRecDepth 100000 in
set_option maxHeartbeats 2000000 in
theorem holdsL_any {a b : List Gap} {s t : Sl} {w : World} (ha : GapsS w s a) (hb : GapsS w t b) (h : holdsP a b) : Calls Tryz.prog 10 #[.slice s.a a.length s.cap, .slice t.a b.length t.cap] w fun e w' => e = .returned (.bool true) ∧ Below w.heap.size w w' := by
  have HA := Lib.hid ha; have HB := Lib.hid hb; have HH := Lib.hid h.2
  have hlen := h.1
  rw [← hlen]
  have hle := ha.le; have hmx := ha.max; have hle2 := hb.le; have hmx2 := hb.max
  rw [← hlen] at hle2
  obtain ⟨sa, sc⟩ := s
  obtain ⟨ta, tc⟩ := t
  obtain ⟨n, hn⟩ : ∃ n, n = a.length := ⟨_, rfl⟩
  rw [← hn] at hle hle2 hlen ⊢
  dsimp only at hle hmx hle2 hmx2
  have HN := Lib.hid hn; have HN2 := Lib.hid hlen
  have hE0 : Ext2 w w := Below.refl _ _
  have HE0 := Lib.hid hE0
  clear ha hb h hn hlen hE0
  have b0 : ((n : Int) != (n : Int)) = false := by simp
  go_enter Tryz.func10, Tryz.ntmps10
  go_wp2_with (fail)
  go_loopw [5] (fun i wr => ∃ k : Nat, i = .int .i64 k ∧ k ≤ n ∧ Ext2 w wr) (fun i _ => n - (intOf i).toNat)
  case atStart => exact ⟨0, rfl, by omega, HE0.out⟩
  case round =>
    clear HE0
    obtain ⟨k, rfl, hk, hE⟩ := hrel
    have HE := Lib.hid hE
    by_cases hlt : k < n
    · go_light
      obtain ⟨b1, off1, hsa, c0, c1, c2, c3⟩ := gp_cells (HA.out.below hE) (i := k) (by rw [← HN.out]; exact hlt)
      obtain ⟨b2, off2, hta, d0, d1, d2, d3⟩ := gp_cells (HB.out.below hE) (i := k) (by rw [← HN2.out]; exact hlt)
      have hh := HH.out k (by rw [← HN.out]; exact hlt)
      obtain ⟨x, hx⟩ : ∃ x, x = gpD a k := ⟨_, rfl⟩
      obtain ⟨y, hy⟩ : ∃ x, x = gpD b k := ⟨_, rfl⟩
      rw [← hx] at c0 c1 c2 c3 hh; rw [← hy] at d0 d1 d2 d3 hh
      dsimp only at hsa hta
      subst hsa
      subst hta
      obtain ⟨xf, xk, xl, xh⟩ := x
      obtain ⟨yf, yk, yl, yh⟩ := y
      dsimp only at c0 c1 c2 c3 d0 d1 d2 d3 hh
      obtain ⟨h1, h2, h3, h4⟩ := hh
      subst h1
      subst h2
      have g1 : (0 : Int) ≤ (k : Int) := by omega
      have g2 : (k : Int) < (n : Int) := by omega
      have e1 : decide ((0 : Int) ≤ (k : Int)) = true := decide_eq_true g1
      have e2 : decide ((k : Int) < (n : Int)) = true := decide_eq_true g2
      have m1 : (xf != xf) = false := by simp
      have m2 : (xk != xk) = false := by simp
      have m3 : decide (yl < xl) = false := decide_eq_false (by omega)
      have m4 : decide (xh < yh) = false := decide_eq_false (by omega)
      have w1' : IntKind.i64.wrap ((k : Int) + 1) = (k : Int) + 1 := IntWalk.i64_in _ (by omega)
      clear hx hy hE h3 h4
      go_upto_region 6 with (fail)
      refine region_ev [] [0, 1, 2, 3, 4, 5, 6, 7, 8, 9, 10, 11, 12, 13, 14, 15, 16, 17, 18, 19, 20, 21, 22, 23, 24, 25, 26, 27, 28, 29, 30, 31, 32, 33, 34, 35, 36, 37, 38, 39, 40, 41, 42, 43, 44, 45, 46, 47, 48, 49, 50, 51, 52, 53] [] [] (by kernel_rfl) (by kernel_rfl) (by intro c a d v w h; cases d <;> exact h) ?_
      simp only [picks, List.drop_succ_cons, List.drop_zero]
      repeat (refine wpQ0_step (fun K hK => ?_); go_simp; (refine hK _ ?_; clear hK K))
      refine wpQ0_nil ?_
      repeat ((with_reducible refine wpQ2_step (fun K hK => ?_)); go_simp; first | ((with_reducible refine hK _ ?_); clear hK K) | (apply Exists.intro; refine ⟨fun x => ?_, hK _ ?_⟩; (fail); clear hK K) | (refine ite_undef (fun h => (by have h_ : (none : Option Bool) = some _ := h; cases h_)) ?_; (with_reducible refine hK _ ?_); clear hK K))
      (with_reducible refine wpQ2_nil ?_)
      refine Events.none_ fun w7 hg7 => ?_
      simp only [picks, List.drop_succ_cons, List.drop_zero]
      have HE7 := Lib.hid (ext_trans HE.out hg7)
      clear c0 c1 c2 c3 d0 d1 d2 d3 hg7
      go_wp2_with (fail)
      go_roundw
      case rel => exact ⟨k + 1, by go_num, by omega, HE7.out⟩
      case measure => simp [intOf]; omega
    · obtain rfl : n = k := by omega
      have hnk : ¬ (n : Int) < (n : Int) := by omega
      go_wp2_with (fail)
      go_ret
      exact ⟨rfl, HE.out⟩
end Go.Proofs.YtapeakbngligaaaGreatDoor
