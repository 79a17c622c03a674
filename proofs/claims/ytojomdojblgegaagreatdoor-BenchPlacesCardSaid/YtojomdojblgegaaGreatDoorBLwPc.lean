/-
  law.BenchPlaces, walked.
-/
import Derived.Test.YtojomdojblgegaaGreatDoorBAwk
import Derived.Test.YtojomdojblgegaaGreatDoorBRFd
namespace Go.Proofs.YtojomdojblgegaaGreatDoor
open Go.RowKit D
set_option linter.unusedVariables false
set_option linter.unusedSimpArgs false
attribute [local go_sem high] run_minI run_maxI
attribute [local go_sem] upon2 cls_cell cls_frozen forall_const exists_eq_left'
attribute [local go_sem] FirstUpon atBlk_cell
set_option maxRecDepth 100000 in
set_option maxHeartbeats 2000000 in
theorem lawPlaces_any {T : Task} {t : TSl} {a b : Int} {w : World} (hT : TaskAt w T t) (hm : MaxAt w) : Calls Tryz.prog 5 #[.agg #[.string T.reel.name, .int .i64 T.reel.gauge, .int .i64 T.reel.base, .int .i64 T.reel.frames, .int .i64 T.reel.ylo, .int .i64 T.reel.yhi, .int .i64 T.reel.keep, .slice t.r.m.a T.reel.marks.length t.r.m.cap, .slice t.r.s.a T.reel.syms.length t.r.s.cap, .slice t.r.l.a T.reel.lens.length t.r.l.cap, .int .i64 T.whole.lo, .int .i64 T.whole.hi, .slice t.n.a T.notes.length t.n.cap], .agg #[.int .i64 a, .int .i64 b]] w fun e w' => e = .returned (.bool true) ∧ Below w.heap.size w w' := by
  have H1 := Lib.hid fun (W : World) (hW : Ext2 w W) => placeF_any (f := a) (hT.below hW) (hm.below hW)
  have H2 := Lib.hid fun (W : World) (hW : Ext2 w W) => placeFR_any (f := a) (hT.below hW)
  have H3 := Lib.hid fun (W : World) (hW : Ext2 w W) => findF_any (wh := b) (hT.below hW) (hm.below hW)
  have H4 := Lib.hid fun (W : World) (hW : Ext2 w W) => findFR_any (wh := b) (hT.below hW)
  have HA := Lib.hid fun (W : World) (hW : Ext2 w W) => awake_any (hm.below hW)
  have HSS := Lib.hid fun (s t : Sl) (l m : List Span) (W : World) (h1 : SpansS W s l) (h2 : SpansS W t m) => sameSp_any h1 h2
  unfold PlcOut at H1 H2
  unfold FndOut at H3 H4
  obtain ⟨⟨V, E⟩, hp1⟩ : ∃ p, p = placeAns T a := ⟨_, rfl⟩
  obtain ⟨⟨U, E2⟩, hp2⟩ : ∃ p, p = findAns T b := ⟨_, rfl⟩
  rw [← hp1] at H1 H2; rw [← hp2] at H3 H4
  dsimp only at H1 H2 H3 H4
  obtain ⟨un, hun⟩ : ∃ n, n = U.length := ⟨_, rfl⟩
  rw [← hun] at H3 H4
  have HUN := Lib.hid hun
  clear hT hm hp1 hp2 hun
  go_enter Tryz.func5, Tryz.ntmps5
  go_upto_region 1 with (fail)
  refine wp_name ?_
  intro w3 hw3
  obtain ⟨n2, hn2⟩ : ∃ n, n = w.heap.size := ⟨_, rfl⟩
  obtain ⟨n3, hn3⟩ : ∃ n, n = n2 + 1 := ⟨_, rfl⟩
  have x2 : w3.heap[n2]? = some (Obj.cells #[.string T.reel.name, .int .i64 T.reel.gauge, .int .i64 T.reel.base, .int .i64 T.reel.frames, .int .i64 T.reel.ylo, .int .i64 T.reel.yhi, .int .i64 T.reel.keep, .slice t.r.m.a T.reel.marks.length t.r.m.cap, .slice t.r.s.a T.reel.syms.length t.r.s.cap, .slice t.r.l.a T.reel.lens.length t.r.l.cap, .int .i64 T.whole.lo, .int .i64 T.whole.hi, .slice t.n.a T.notes.length t.n.cap] 38) := by rw [hw3, hn2]; exact blk_alloc (blk_new _ _) _
  have x3 : w3.heap[n3]? = some (.cells #[.int .i64 a, .int .i64 b] 48 (0, 0)) := by rw [hw3, hn3, hn2]; exact blk_new' _ _ (by simp)
  have hE3 : Ext2 w w3 := by rw [hw3]; exact ext_trans (below_alloc' _ _) (below_alloc' _ _)
  rw [← hn2]
  try rw [← hn3]
  have HE3 := Lib.hid hE3; have X2 := Lib.hid x2; have X3 := Lib.hid x3
  clear hw3 hn2 hn3 hE3
  have q2c := cell_blk x2
  have q2f := frz_blk x2
  have q3c := cell_blk x3
  have q3f := frz_blk x3
  clear x2 x3
  go_wp2_with (fail)
  (with_reducible refine (H1.out _ HE3.out).mono ?_)
  rintro e w4 ⟨rfl, hE4⟩
  have HE4 := Lib.hid (ext_trans HE3.out hE4); have HW4 := Lib.hid (show Ext2 w3 w4 from hE4)
  clear q2c q2f q3c q3f hE4 H1
  go_upto_region 2 with (fail)
  refine wp_name ?_
  intro w5 hw5
  obtain ⟨n5, hn5⟩ : ∃ n, n = w4.heap.size := ⟨_, rfl⟩
  have x5 : w5.heap[n5]? = some (Obj.cells #[.int .i64 V.lo, .int .i64 V.hi] 31) := by rw [hw5, hn5]; first | exact blk_new _ _ | exact Eq.trans (blk_set (blk_set (blk_new _ _) _ _) _ _) rfl
  have hE5 : Ext2 w4 w5 := by rw [hw5]; first | exact below_alloc' _ _ | exact below_set (below_set (below_alloc' _ _) (by simp)) (by simp)
  rw [← hn5]
  have HE5 := Lib.hid (ext_trans HE4.out hE5); have HW5 := Lib.hid (ext_trans HW4.out hE5); have X5 := Lib.hid x5
  have x2 := Ext2.blk HW5.out X2.out; have x3 := Ext2.blk HW5.out X3.out
  clear hw5 hn5 hE5 x5 HE4 HW4
  have q2c := cell_blk x2
  have q2f := frz_blk x2
  have q3c := cell_blk x3
  have q3f := frz_blk x3
  clear x2 x3
  go_wp2_with (fail)
  (with_reducible refine (H2.out _ HE5.out).mono ?_)
  rintro e w6 ⟨rfl, hE6⟩
  have HE6 := Lib.hid (ext_trans HE5.out hE6); have HW6 := Lib.hid (ext_trans HW5.out hE6); have X56 := Lib.hid (Ext2.blk hE6 X5.out)
  clear q2c q2f q3c q3f hE6 H2 HE5 HW5
  go_upto_region 3 with (fail)
  refine wp_name ?_
  intro w7 hw7
  obtain ⟨n7, hn7⟩ : ∃ n, n = w6.heap.size := ⟨_, rfl⟩
  have x7 : w7.heap[n7]? = some (Obj.cells #[.int .i64 V.lo, .int .i64 V.hi] 31) := by rw [hw7, hn7]; first | exact blk_new _ _ | exact Eq.trans (blk_set (blk_set (blk_new _ _) _ _) _ _) rfl
  have hE7 : Ext2 w6 w7 := by rw [hw7]; first | exact below_alloc' _ _ | exact below_set (below_set (below_alloc' _ _) (by simp)) (by simp)
  rw [← hn7]
  have HE7 := Lib.hid (ext_trans HE6.out hE7); have HW7 := Lib.hid (ext_trans HW6.out hE7)
  have x5 := Ext2.blk hE7 X56.out; have x2 := Ext2.blk HW7.out X2.out; have x3 := Ext2.blk HW7.out X3.out
  clear hw7 hn7 hE7 HE6 HW6 X56
  have q2c := cell_blk x2
  have q2f := frz_blk x2
  have q3c := cell_blk x3
  have q3f := frz_blk x3
  have q5c := cell_blk x5
  have q5f := frz_blk x5
  have q7c := cell_blk x7
  have q7f := frz_blk x7
  clear x2 x3 x5 x7
  have n1 : (E != E) = false := by simp
  have n2' : (E2 == E2) = true := by simp
  have n3' : (V.lo != V.lo) = false := by simp
  have n4' : (V.hi != V.hi) = false := by simp
  have hEQ : ∀ W : World, (binOp .neq 31 (.agg #[.int .i64 V.lo, .int .i64 V.hi]) (.agg #[.int .i64 V.lo, .int .i64 V.hi])).run Tryz.prog W = .ok (.bool false) W := fun W => by rw [run_neq_sameSp]; simp
  go_wp2_with (fail)
  (with_reducible refine (H3.out _ HE7.out).mono ?_)
  rintro e w8 ⟨⟨⟨s1a, s1c⟩, rfl, hS1⟩, hE8⟩
  have HE8 := Lib.hid (ext_trans HE7.out hE8); have HW8 := Lib.hid (ext_trans HW7.out hE8); have HS1 := Lib.hid hS1
  have x2 := Ext2.blk HW8.out X2.out; have x3 := Ext2.blk HW8.out X3.out
  clear q2c q2f q3c q3f q5c q5f q7c q7f hE8 H3 hS1 HE7 HW7 hEQ n1 n3' n4'
  have q2c := cell_blk x2
  have q2f := frz_blk x2
  have q3c := cell_blk x3
  have q3f := frz_blk x3
  clear x2 x3
  go_wp2_with (fail)
  (with_reducible refine (H4.out _ HE8.out).mono ?_)
  rintro e w9 ⟨⟨⟨s2a, s2c⟩, rfl, hS2⟩, hE9⟩
  have HE9 := Lib.hid (ext_trans HE8.out hE9)
  have HC : Hid (Calls Tryz.prog 23 #[.slice s1a un s1c, .slice s2a un s2c] w9 fun e w' => e = .returned (.bool true) ∧ Below w9.heap.size w9 w') := Lib.hid (by rw [HUN.out]; have h := HSS.out ⟨s1a, s1c⟩ ⟨s2a, s2c⟩ U U w9 (RowS.below HS1.out hE9) hS2; rw [decide_eq_true rfl] at h; exact h)
  clear q2c q2f q3c q3f hE9 H4 hS2 HS1 HSS
  go_wp2_with (fail)
  (with_reducible refine HC.out.mono ?_)
  rintro e w10 ⟨rfl, hE10⟩
  have HE10 := Lib.hid (ext_trans HE9.out hE10)
  have HA7 := Lib.hid (HA.out _ HE10.out)
  clear hE10 HC
  go_wp2_with (fail)
  (with_reducible refine HA7.out.mono ?_)
  rintro e w11 ⟨rfl, hE11⟩
  have HE11 := Lib.hid (ext_trans HE10.out hE11)
  clear hE11
  go_wp2_with (fail)
  go_ret
  exact ⟨rfl, HE11.out⟩
end Go.Proofs.YtojomdojblgegaaGreatDoor
