/-
  law.BenchCuts, walked.
-/
import Derived.Test.YtfcpiemapekffaaGreatDoorBAwk
import Derived.Test.YtfcpiemapekffaaGreatDoorBRCt
import Derived.Test.YtfcpiemapekffaaGreatDoorBCutD
namespace Go.Proofs.YtfcpiemapekffaaGreatDoor
open Go.RowKit D
set_option linter.unusedVariables false
set_option linter.unusedSimpArgs false
attribute [local go_sem high] run_minI run_maxI
attribute [local go_sem] upon2 cls_cell cls_frozen forall_const exists_eq_left'
attribute [local go_sem] FirstUpon atBlk_cell
set_option maxRecDepth 100000 in
set_option maxHeartbeats 2000000 in
theorem lawCuts_any {f : Int} {l : List Cut} {s : Sl} {a b : Int} {w : World} (hf : -9223372036854775808 ≤ f ∧ f ≤ 9223372036854775807) (hl : CutsS w s l) (hm : MaxAt w) : Calls Tryz.prog 11 #[.int .i64 f, .slice s.a l.length s.cap, .agg #[.int .i64 a, .int .i64 b]] w fun e w' => e = .returned (.bool true) ∧ Below w.heap.size w w' := by
  have H1 := Lib.hid fun (W : World) (hW : Ext2 w W) (x : Int) => after_any (f := f) (x := x) (RowS.below hl hW)
  have H2 := Lib.hid fun (W : World) (hW : Ext2 w W) (x : Int) => afterR_any (f := f) (x := x) (RowS.below hl hW)
  have H3 := Lib.hid fun (W : World) (hW : Ext2 w W) (x : Int) => before_any (f := f) (x := x) (RowS.below hl hW)
  have H4 := Lib.hid fun (W : World) (hW : Ext2 w W) (x : Int) => beforeR_any (f := f) (x := x) (RowS.below hl hW)
  have HA := Lib.hid fun (W : World) (hW : Ext2 w W) => awake_any (hm.below hW)
  obtain ⟨p1, hp1⟩ : ∃ p, p = afterV f l a := ⟨_, rfl⟩
  obtain ⟨p2, hp2⟩ : ∃ p, p = beforeV f l b := ⟨_, rfl⟩
  obtain ⟨sa, sc⟩ := s
  obtain ⟨m, hml⟩ : ∃ m, m = l.length := ⟨_, rfl⟩
  rw [← hml] at H1 H2 H3 H4 ⊢
  dsimp only at H1 H2 H3 H4
  have G1 := Lib.hid fun W hW => H1.out W hW a
  have G2 := Lib.hid fun W hW => H2.out W hW a
  have G3 := Lib.hid fun W hW => H3.out W hW b
  have G4 := Lib.hid fun W hW => H4.out W hW b
  rw [← hp1] at G1 G2; rw [← hp2] at G3 G4
  obtain ⟨a1, a2⟩ := p1
  obtain ⟨b1, b2⟩ := p2
  dsimp only at G1 G2 G3 G4
  clear hl hm H1 H2 H3 H4 hp1 hp2 hml
  go_enter Tryz.func11, Tryz.ntmps11
  go_upto_region 1 with (fail)
  refine wp_name ?_
  intro w3 hw3
  obtain ⟨n3, hn3⟩ : ∃ n, n = w.heap.size := ⟨_, rfl⟩
  have x3 : w3.heap[n3]? = some (.cells #[.int .i64 a, .int .i64 b] 48 (0, 0)) := by rw [hw3, hn3]; exact blk_new _ _
  have hE3 : Ext2 w w3 := by rw [hw3]; exact below_alloc' _ _
  rw [← hn3]
  have HE3 := Lib.hid hE3; have X3 := Lib.hid x3
  clear hw3 hn3 hE3
  have q3c := cell_blk x3
  have q3f := frz_blk x3
  clear x3
  go_wp2_with (fail)
  (with_reducible refine (G1.out _ HE3.out).mono ?_)
  rintro e w4 ⟨rfl, hE4⟩
  have HW4 := Lib.hid hE4
  have HE4 := Lib.hid (ext_trans HE3.out hE4)
  have x3 := Ext2.blk hE4 X3.out
  clear q3c q3f hE4
  have q3c := cell_blk x3
  have q3f := frz_blk x3
  clear x3
  go_wp2_with (fail)
  (with_reducible refine (G2.out _ HE4.out).mono ?_)
  rintro e w5 ⟨rfl, hE5⟩
  have HW5 := Lib.hid (ext_trans HW4.out hE5)
  have HE5 := Lib.hid (ext_trans HE4.out hE5)
  have x3 := Ext2.blk HW5.out X3.out
  clear q3c q3f hE5
  have q3c := cell_blk x3
  have q3f := frz_blk x3
  clear x3
  have n1 : (a1 != a1) = false := by simp
  have n2 : (a2 != a2) = false := by simp
  have n3 : (b1 == b1) = true := by simp
  have n4 : (b2 == b2) = true := by simp
  go_wp2_with (fail)
  (with_reducible refine (G3.out _ HE5.out).mono ?_)
  rintro e w6 ⟨rfl, hE6⟩
  have HW6 := Lib.hid (ext_trans HW5.out hE6)
  have HE6 := Lib.hid (ext_trans HE5.out hE6)
  have x3 := Ext2.blk HW6.out X3.out
  clear q3c q3f hE6
  have q3c := cell_blk x3
  have q3f := frz_blk x3
  clear x3
  go_wp2_with (fail)
  (with_reducible refine (G4.out _ HE6.out).mono ?_)
  rintro e w7 ⟨rfl, hE7⟩
  have HE7 := Lib.hid (ext_trans HE6.out hE7)
  have HA7 := Lib.hid (HA.out _ HE7.out)
  clear q3c q3f hE7
  go_wp2_with (fail)
  (with_reducible refine HA7.out.mono ?_)
  rintro e w8 ⟨rfl, hE8⟩
  have HE8 := Lib.hid (ext_trans HE7.out hE8)
  clear hE8
  go_wp2_with (fail)
  go_ret
  exact ⟨rfl, HE8.out⟩
end Go.Proofs.YtfcpiemapekffaaGreatDoor
