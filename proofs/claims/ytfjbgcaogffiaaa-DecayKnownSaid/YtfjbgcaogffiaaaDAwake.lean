/-
  The law's Awake returns true.
-/
import Derived.Test.YtfjbgcaogffiaaaDAw1
import Derived.Test.YtfjbgcaogffiaaaDRegB
import Derived.Test.YtfjbgcaogffiaaaDLevA
import Derived.Test.YtfjbgcaogffiaaaDGradeA
import Derived.Test.YtfjbgcaogffiaaaDSame
namespace Go.Proofs.Ytfjbgcaogffiaaa
open Go.RowKit D
set_option linter.unusedVariables false
set_option linter.unusedSimpArgs false
attribute [local go_sem high] run_minI run_maxI
attribute [local go_sem] upon2 cls_cell cls_frozen forall_const exists_eq_left'
attribute [local go_sem] FirstUpon
theorem exTask_at {w : World} {b1 b2 b3 : Nat} {st : Sl} {l : List Test} (h1 : w.heap[b1]? = some exB1) (h2 : w.heap[b2]? = some exB2) (h3 : w.heap[b3]? = some exB3) (ht : TestsS w st l) : TaskAt w (exT l) ⟨⟨some ⟨b1, 0, none⟩, 3⟩, ⟨some ⟨b2, 0, none⟩, 2⟩, ⟨some ⟨b3, 0, none⟩, 3⟩, st⟩ := ⟨exR_at h1 h2, exD_at h3, ht⟩
theorem lvEx1 {w : World} {b1 b2 b3 bt : Nat} (h1 : w.heap[b1]? = some exB1) (h2 : w.heap[b2]? = some exB2) (h3 : w.heap[b3]? = some exB3) (ht : w.heap[bt]? = some (.cells #[.int .i64 101, .int .i64 0, .int .i64 0] 51 (0, 0))) :
    Calls Try.prog 17 #[.agg #[.slice (some ⟨b1, 0, none⟩) 3 3, .slice (some ⟨b2, 0, none⟩) 2 2, .int .i64 50, .int .i64 10000, .int .i64 1000, .int .i64 5000, .int .i64 20000, .int .i64 1030, .int .i64 100, .slice (some ⟨b3, 0, none⟩) 3 3, .int .i64 900, .int .i64 1000, .slice (some ⟨bt, 0, none⟩) 1 1]] w fun e w' =>
      (∃ s1 s2 : Sl, e = .returned (.tuple #[.slice s1.a 4 s1.cap, .slice s2.a 0 s2.cap, .int .i64 0]) ∧ SpansS w' s1 [⟨900, 989⟩, ⟨910, 999⟩, ⟨920, 1019⟩, ⟨930, 1039⟩]) ∧ Below w.heap.size w w' := by
  have h := levelsP_any (exTask_at (l := [⟨101, 0, 0⟩]) (st := ⟨some ⟨bt, 0, none⟩, 1⟩) h1 h2 h3 (rows_blk ht (by omega) (by
    intro i j hi hj
    obtain rfl : i = 0 := by have : i < 1 := hi; omega
    rcases (by omega : j = 0 ∨ j = 1 ∨ j = 2) with rfl | rfl | rfl <;> rfl)))
  unfold LevelsOut at h
  rw [ex1, ex1s, ex1e] at h
  refine h.mono ?_
  rintro e w' ⟨⟨s1, s2, he, hs, _⟩, hb⟩
  exact ⟨⟨s1, s2, he, hs⟩, hb⟩
theorem lvEx2 {w : World} {b1 b2 b3 bt : Nat} (h1 : w.heap[b1]? = some exB1) (h2 : w.heap[b2]? = some exB2) (h3 : w.heap[b3]? = some exB3) (ht : w.heap[bt]? = some (.cells #[.int .i64 101, .int .i64 0, .int .i64 0, .int .i64 102, .int .i64 3, .int .i64 1] 51 (0, 0))) :
    Calls Try.prog 17 #[.agg #[.slice (some ⟨b1, 0, none⟩) 3 3, .slice (some ⟨b2, 0, none⟩) 2 2, .int .i64 50, .int .i64 10000, .int .i64 1000, .int .i64 5000, .int .i64 20000, .int .i64 1030, .int .i64 100, .slice (some ⟨b3, 0, none⟩) 3 3, .int .i64 900, .int .i64 1000, .slice (some ⟨bt, 0, none⟩) 2 2]] w fun e w' =>
      (∃ s1 s2 : Sl, e = .returned (.tuple #[.slice s1.a 4 s1.cap, .slice s2.a 1 s2.cap, .int .i64 0]) ∧ StrikesS w' s2 [⟨1, 0⟩]) ∧ Below w.heap.size w w' := by
  have h := levelsP_any (exTask_at (l := [⟨101, 0, 0⟩, ⟨102, 3, 1⟩]) (st := ⟨some ⟨bt, 0, none⟩, 2⟩) h1 h2 h3 (rows_blk ht (by omega) (by
    intro i j hi hj
    rcases (show i = 0 ∨ i = 1 by have : i < 2 := hi; omega) with rfl | rfl <;> rcases (by omega : j = 0 ∨ j = 1 ∨ j = 2) with rfl | rfl | rfl <;> rfl)))
  unfold LevelsOut at h
  rw [ex2l, ex2s, ex2e] at h
  refine h.mono ?_
  rintro e w' ⟨⟨s1, s2, he, _, hs⟩, hb⟩
  exact ⟨⟨s1, s2, he, hs⟩, hb⟩
theorem lvEx3 {w : World} {b1 b2 b3 : Nat} (h1 : w.heap[b1]? = some exB1) (h2 : w.heap[b2]? = some exB2) (h3 : w.heap[b3]? = some exB3) :
    Calls Try.prog 31 #[.agg #[.slice (some ⟨b1, 0, none⟩) 3 3, .slice (some ⟨b2, 0, none⟩) 2 2, .int .i64 50, .int .i64 10000, .int .i64 1000, .int .i64 5000, .int .i64 20000, .int .i64 1030, .int .i64 100, .slice (some ⟨b3, 0, none⟩) 3 3, .int .i64 900, .int .i64 1000, .slice none 0 0]] w fun e w' =>
      e = .returned (.tuple #[.agg #[.int .i64 102, .int .i64 (-1)], .int .i64 0]) ∧ Below w.heap.size w w' := by
  have h := lostP_any (exTask_at (l := []) (st := ⟨none, 0⟩) h1 h2 h3 ⟨Nat.le_refl _, by simp, fun i j hi _ => absurd hi (Nat.not_lt_zero i)⟩)
  have e1 : lostOut (exT []) = ⟨102, -1⟩ := by rw [lostOut, if_pos ex3e, ex3]
  rw [e1, ex3e] at h
  exact h
theorem lvEx4 {w : World} {b1 b2 : Nat} (h1 : w.heap[b1]? = some exB1) (h2 : w.heap[b2]? = some exB2) :
    Calls Try.prog 43 #[.agg #[.slice (some ⟨b1, 0, none⟩) 3 3, .slice (some ⟨b2, 0, none⟩) 2 2, .int .i64 50, .int .i64 10000, .int .i64 1000, .int .i64 5000, .int .i64 20000, .int .i64 1030], .int .i64 (-1)] w fun e w' =>
      e = .returned (.tuple #[.int .i64 0, .int .i64 7]) ∧ Below w.heap.size w w' := by
  have h := gradeP_any (exR_at h1 h2) (-1)
  have e1 : gradeV exR (-1) = (0, 7) := by kernel_rfl
  rw [e1] at h
  exact h
set_option maxRecDepth 100000 in
set_option maxHeartbeats 2000000 in
theorem awake_any (w : World) : Calls Try.prog 21 #[] w fun e w' => e = .returned (.bool true) ∧ Below w.heap.size w w' := by
  go_enter Try.func21, Try.ntmps21
  go_wp2_with (fail)
  refine (taskL_any _).mono ?_
  rintro e w1 ⟨⟨b1, b2, b3, rfl, k1, k2, k3⟩, hb1⟩
  have k4 : w1.heap[w.heap.size]? = some (.cells #[.int .i64 101, .int .i64 0, .int .i64 0] 51 (0, 0)) := below_blk hb1 (blk_new _ _) (by simp)
  have hB1 : Below w.heap.size w w1 := (below_alloc' _ _).trans (hb1.mono (by simp))
  have HC := Lib.hid (lvEx1 k1 k2 k3 k4)
  clear k1 k2 k3 k4 hb1
  go_wp2_with (fail)
  refine HC.out.mono ?_
  rintro e w2 ⟨⟨s1, s2, rfl, hs1⟩, hb2⟩
  have hB2 := hB1.trans (hb2.mono hB1.size)
  have HS1 := Lib.hid hs1
  clear hs1 hb2 hB1 HC
  go_wp2_with (fail)
  refine (taskL_any _).mono ?_
  rintro e w3 ⟨⟨b4, b5, b6, rfl, k1, k2, k3⟩, hb3⟩
  have k4 : w3.heap[w2.heap.size]? = some (.cells #[.int .i64 101, .int .i64 0, .int .i64 0, .int .i64 102, .int .i64 3, .int .i64 1] 51 (0, 0)) := below_blk hb3 (blk_new _ _) (by simp)
  have hE3 : Ext2 w2 w3 := (below_alloc' _ _).trans (hb3.mono (by simp))
  have HC := Lib.hid (lvEx2 k1 k2 k3 k4)
  clear k1 k2 k3 k4 hb3
  go_wp2_with (fail)
  refine HC.out.mono ?_
  rintro e w4 ⟨⟨s3, s4, rfl, hs4⟩, hb4⟩
  have hE4 : Ext2 w2 w4 := hE3.trans (hb4.mono hE3.size)
  have HS4 := Lib.hid hs4
  clear hs4 hb4 hE3 HC
  go_wp2_with (fail)
  refine (taskL_any _).mono ?_
  rintro e w5 ⟨⟨b7, b8, b9, rfl, k1, k2, k3⟩, hb5⟩
  have HC := Lib.hid (lvEx3 k1 k2 k3)
  clear k1 k2 k3
  go_wp2_with (fail)
  refine HC.out.mono ?_
  rintro e w6 ⟨rfl, hb6⟩
  have hE6 : Ext2 w4 w6 := Below.trans hb5 (hb6.mono hb5.size)
  clear hb5 hb6 HC
  go_wp2_with (fail)
  refine (ruleL_any _).mono ?_
  rintro e w7 ⟨⟨b10, b11, rfl, _, _, k1, k2⟩, hb7⟩
  have k7 : w7.heap[w6.heap.size]? = some (Obj.cells #[.int .i64 102, .int .i64 (-1)] 28) := below_blk hb7 (blk_new _ _) (by simp)
  have hE7 : Ext2 w6 w7 := (below_alloc' _ _).trans (hb7.mono (by simp))
  have HC := Lib.hid (lvEx4 k1 k2)
  clear k1 k2 hb7
  go_wp2_with (fail)
  refine HC.out.mono ?_
  rintro e w8 ⟨rfl, hb8⟩
  have hE8 : Ext2 w6 w8 := hE7.trans (hb8.mono hE7.size)
  have k7 := Ext2.blk hb8 k7
  have hE48 : Ext2 w4 w8 := hE6.trans (Below.mono hE8 hE6.size)
  have hE28 : Ext2 w2 w8 := hE4.trans (Below.mono hE48 hE4.size)
  have hB8 := hB2.trans (Below.mono hE28 hB2.size)
  have HS1 := Lib.hid (HS1.out.below hE28)
  have HS4 := Lib.hid (HS4.out.below hE48)
  have HB8 := Lib.hid hB8
  clear HC hb8 hE8 hE7 hE6 hE48 hE28 hE4 hB2 hB8
  have HSP : Hid (∀ (lo hi : Int) W, Calls Try.prog 25 #[.int .i64 lo, .int .i64 hi] W fun e w' => e = .returned (.agg #[.int .i64 lo, .int .i64 hi]) ∧ Below W.heap.size W w') := Lib.hid fun lo hi W => span_any lo hi W
  go_wp2_with (fail)
  have q7c := cell_blk k7
  have q7f := frz_blk k7
  refine region_st [⟨[], [0, 1, 2, 3, 4, 5, 6, 7, 8, 9, 10, 11, 12, 13, 14], []⟩, ⟨[15], [16, 17, 18, 19], [20]⟩, ⟨[], [21, 22, 23], []⟩, ⟨[24], [25], [26]⟩, ⟨[], [27, 28, 29, 30, 31, 32, 33, 34], []⟩] (by kernel_rfl) (by kernel_rfl) (by intro c a d v w h; cases d <;> exact h) ?_
  refine wpSt_cons ?_
  simp only [picks, List.drop_succ_cons, List.drop_zero]
  repeat ((with_reducible refine wpQ0_step (fun K hK => ?_)); go_simp; ((with_reducible refine hK _ ?_); clear hK K))
  refine wpQ0_nil ?_
  repeat ((with_reducible refine wpQ2_step (fun K hK => ?_)); go_simp; first | ((with_reducible refine hK _ ?_); clear hK K) | (apply Exists.intro; refine ⟨fun x => ?_, hK _ ?_⟩; (fail); clear hK K))
  refine wpQ2_nil ?_
  intro w9 hw9
  refine wpTl_nil ?_
  refine wpSt_cons ?_
  simp only [picks, List.drop_succ_cons, List.drop_zero]
  repeat ((with_reducible refine wpQ0_step (fun K hK => ?_)); go_simp; ((with_reducible refine hK _ ?_); clear hK K))
  refine wpQ0_nil ?_
  repeat ((with_reducible refine wpQ2_step (fun K hK => ?_)); go_simp; first | ((with_reducible refine hK _ ?_); clear hK K) | (apply Exists.intro; refine ⟨fun x => ?_, hK _ ?_⟩; ((with_reducible exact HSP.out _ _ x.1)); clear hK K))
  refine wpQ2_nil ?_
  intro w11 hw11
  refine wpTl_cons ?_
  go_wp2_with (fail)
  refine wpTl_nil ?_
  refine wpSt_name ?_
  intro w12 hw12
  have n12 : w12.heap[w11.heap.size]? = some (.cells #[.int .i64 900, .int .i64 989, .int .i64 910, .int .i64 999, .int .i64 920, .int .i64 1019, .int .i64 930, .int .i64 1039] 28 (0, 0)) := by rw [hw12]; exact blk_new _ _
  have hE11 : Ext2 w8 w11 := Below.trans hw9 (Below.mono hw11 hw9.size)
  have hE12 : Ext2 w8 w12 := by rw [hw12]; exact hE11.trans ((below_alloc' _ _).mono hE11.size)
  have hSS : ∀ W, Ext2 w12 W → Calls Try.prog 19 #[.slice s1.a 4 s1.cap, .slice (some ⟨w11.heap.size, 0, none⟩) 4 4] W fun e w' => e = .returned (.bool true) ∧ Below W.heap.size W w' := fun W hW => by
    have h := spans_any (HS1.out.below (hE12.trans (Below.mono hW hE12.size))) (m := [⟨900, 989⟩, ⟨910, 999⟩, ⟨920, 1019⟩, ⟨930, 1039⟩]) (t := ⟨some ⟨w11.heap.size, 0, none⟩, 4⟩) (rows_blk (Ext2.blk hW n12) (by omega) (by
      intro i j hi hj
      rcases (show i = 0 ∨ i = 1 ∨ i = 2 ∨ i = 3 by have : i < 4 := hi; omega) with rfl | rfl | rfl | rfl <;> rcases (by omega : j = 0 ∨ j = 1) with rfl | rfl <;> rfl))
    refine h.mono ?_
    rintro e w' ⟨rfl, q, rfl⟩
    exact ⟨by simp, below_drewN (Below.refl _ _) q⟩
  have HSS := Lib.hid hSS
  have k7 := Ext2.blk hE12 k7
  clear hSS n12 hw9 hw11 hw12 hE11 q7c q7f
  refine wpSt_cons ?_
  simp only [picks, List.drop_succ_cons, List.drop_zero]
  repeat ((with_reducible refine wpQ0_step (fun K hK => ?_)); go_simp; ((with_reducible refine hK _ ?_); clear hK K))
  refine wpQ0_nil ?_
  repeat ((with_reducible refine wpQ2_step (fun K hK => ?_)); go_simp; first | ((with_reducible refine hK _ ?_); clear hK K) | (apply Exists.intro; refine ⟨fun x => ?_, hK _ ?_⟩; ((with_reducible exact HSS.out x.1 x.2)); clear hK K))
  refine wpQ2_nil ?_
  intro w13 hw13
  refine wpTl_nil ?_
  refine wpSt_cons ?_
  simp only [picks, List.drop_succ_cons, List.drop_zero]
  repeat ((with_reducible refine wpQ0_step (fun K hK => ?_)); go_simp; ((with_reducible refine hK _ ?_); clear hK K))
  refine wpQ0_nil ?_
  repeat ((with_reducible refine wpQ2_step (fun K hK => ?_)); go_simp; first | ((with_reducible refine hK _ ?_); clear hK K) | (apply Exists.intro; refine ⟨fun x => ?_, hK _ ?_⟩; (fail); clear hK K))
  refine wpQ2_nil ?_
  intro w14 hw14
  refine wpTl_cons ?_
  go_wp2_with (fail)
  refine wpTl_nil ?_
  refine wpSt_name ?_
  intro w15 hw15
  have n15 : w15.heap[w14.heap.size]? = some (.cells #[.int .i64 1, .int .i64 0] 65 (0, 0)) := by rw [hw15]; exact blk_new _ _
  have hE14 : Ext2 w12 w14 := Below.trans hw13 (Below.mono hw14 hw13.size)
  have hE15' : Ext2 w12 w15 := by rw [hw15]; exact hE14.trans ((below_alloc' _ _).mono hE14.size)
  have hE15 : Ext2 w8 w15 := hE12.trans (Below.mono hE15' hE12.size)
  have hTT : ∀ W, Ext2 w15 W → Calls Try.prog 20 #[.slice s4.a 1 s4.cap, .slice (some ⟨w14.heap.size, 0, none⟩) 1 1] W fun e w' => e = .returned (.bool true) ∧ Below W.heap.size W w' := fun W hW => by
    have h := strikes_any (HS4.out.below (hE15.trans (Below.mono hW hE15.size))) (m := [⟨1, 0⟩]) (t := ⟨some ⟨w14.heap.size, 0, none⟩, 1⟩) (rows_blk (Ext2.blk hW n15) (by omega) (by
      intro i j hi hj
      obtain rfl : i = 0 := by have : i < 1 := hi; omega
      rcases (by omega : j = 0 ∨ j = 1) with rfl | rfl <;> rfl))
    refine h.mono ?_
    rintro e w' ⟨rfl, q, rfl⟩
    exact ⟨by simp, below_drewN (Below.refl _ _) q⟩
  have HTT := Lib.hid hTT
  have k7 := Ext2.blk hE15' k7
  clear hTT n15 hw13 hw14 hw15 hE14 HSS hE12 hE15'
  have q7c := cell_blk k7
  have q7f := frz_blk k7
  refine wpSt_cons ?_
  simp only [picks, List.drop_succ_cons, List.drop_zero]
  repeat ((with_reducible refine wpQ0_step (fun K hK => ?_)); go_simp; ((with_reducible refine hK _ ?_); clear hK K))
  refine wpQ0_nil ?_
  repeat ((with_reducible refine wpQ2_step (fun K hK => ?_)); go_simp; first | ((with_reducible refine hK _ ?_); clear hK K) | (apply Exists.intro; refine ⟨fun x => ?_, hK _ ?_⟩; (first | (with_reducible exact HTT.out x.1 x.2) | (with_reducible exact HSP.out _ _ x.1)); clear hK K))
  refine wpQ2_nil ?_
  intro w16 hw16
  refine wpTl_nil ?_
  refine wpSt_nil ?_
  have hb := HB8.out.trans (Below.mono (hE15.trans (Below.mono hw16 hE15.size)) HB8.out.size)
  go_wp2_with (fail)
  go_ret
  exact ⟨rfl, hb⟩
end Go.Proofs.Ytfjbgcaogffiaaa
