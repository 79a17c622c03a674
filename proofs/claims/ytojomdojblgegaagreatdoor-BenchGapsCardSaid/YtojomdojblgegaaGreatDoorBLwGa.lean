/-
  law.BenchGaps, walked.
-/
import Derived.Test.YtojomdojblgegaaGreatDoorBAwk
import Derived.Test.YtojomdojblgegaaGreatDoorBRGp
namespace Go.Proofs.YtojomdojblgegaaGreatDoor
open Go.RowKit D
set_option linter.unusedVariables false
set_option linter.unusedSimpArgs false
attribute [local go_sem high] run_minI run_maxI
attribute [local go_sem] upon2 cls_cell cls_frozen forall_const exists_eq_left'
attribute [local go_sem] FirstUpon atBlk_cell
set_option maxRecDepth 100000 in
set_option maxHeartbeats 2000000 in
theorem lawGaps_any {T : Task} {t : TSl} {w : World} (hT : TaskAt w T t) (hm : MaxAt w) : Calls Tryz.prog 4 #[.agg #[.string T.reel.name, .int .i64 T.reel.gauge, .int .i64 T.reel.base, .int .i64 T.reel.frames, .int .i64 T.reel.ylo, .int .i64 T.reel.yhi, .int .i64 T.reel.keep, .slice t.r.m.a T.reel.marks.length t.r.m.cap, .slice t.r.s.a T.reel.syms.length t.r.s.cap, .slice t.r.l.a T.reel.lens.length t.r.l.cap, .int .i64 T.whole.lo, .int .i64 T.whole.hi, .slice t.n.a T.notes.length t.n.cap]] w fun e w' => e = .returned (.bool true) ∧ Below w.heap.size w w' := by
  have H1 := Lib.hid fun (W : World) (hW : Ext2 w W) => gapsA_any (hT.below hW) (hm.below hW)
  have H2 := Lib.hid fun (W : World) (hW : Ext2 w W) => gapsFR_any (hT.below hW)
  have HA := Lib.hid fun (W : World) (hW : Ext2 w W) => awake_any (hm.below hW)
  have HSG := Lib.hid fun (s t : Sl) (l m : List Gap) (W : World) (h1 : GapsS W s l) (h2 : GapsS W t m) => sameGp_any h1 h2
  have HSK := Lib.hid fun (s t : Sl) (l m : List Strike) (W : World) (h1 : StrikesS W s l) (h2 : StrikesS W t m) => sameSk_any h1 h2
  have HSI := Lib.hid fun (s t : Sl) (l m : List Int) (W : World) (h1 : RowS W s 1 l.length (intC l)) (h2 : RowS W t 1 m.length (intC m)) => ints1_any h1 h2
  unfold GpsAOut at H1 H2
  obtain ⟨⟨G, K, R, E⟩, hp1⟩ : ∃ p, p = gapsAns T := ⟨_, rfl⟩
  rw [← hp1] at H1 H2
  dsimp only at H1 H2
  obtain ⟨gn, hgn⟩ : ∃ n, n = G.length := ⟨_, rfl⟩
  obtain ⟨kn, hkn⟩ : ∃ n, n = K.length := ⟨_, rfl⟩
  obtain ⟨rn, hrn⟩ : ∃ n, n = R.length := ⟨_, rfl⟩
  rw [← hgn, ← hkn, ← hrn] at H1 H2
  have HGN := Lib.hid hgn; have HKN := Lib.hid hkn; have HRN := Lib.hid hrn
  clear hT hm hp1 hgn hkn hrn
  go_enter Tryz.func4, Tryz.ntmps4
  go_upto_region 1 with (fail)
  refine wp_name ?_
  intro w3 hw3
  obtain ⟨n3, hn3⟩ : ∃ n, n = w.heap.size := ⟨_, rfl⟩
  have x3 : w3.heap[n3]? = some (Obj.cells #[.string T.reel.name, .int .i64 T.reel.gauge, .int .i64 T.reel.base, .int .i64 T.reel.frames, .int .i64 T.reel.ylo, .int .i64 T.reel.yhi, .int .i64 T.reel.keep, .slice t.r.m.a T.reel.marks.length t.r.m.cap, .slice t.r.s.a T.reel.syms.length t.r.s.cap, .slice t.r.l.a T.reel.lens.length t.r.l.cap, .int .i64 T.whole.lo, .int .i64 T.whole.hi, .slice t.n.a T.notes.length t.n.cap] 38) := by rw [hw3, hn3]; exact blk_new _ _
  have hE3 : Ext2 w w3 := by rw [hw3]; exact below_alloc' _ _
  rw [← hn3]
  have HE3 := Lib.hid hE3; have X3 := Lib.hid x3
  clear hw3 hn3 hE3
  have q3c := cell_blk x3
  have q3f := frz_blk x3
  clear x3
  go_wp2_with (fail)
  (with_reducible refine (H1.out _ HE3.out).mono ?_)
  rintro e w4 ⟨hE4, ⟨s1a, s1c⟩, ⟨s2a, s2c⟩, ⟨s3a, s3c⟩, rfl, hG1, hK1, hR1⟩
  have HE4 := Lib.hid (ext_trans HE3.out hE4); have X4 := Lib.hid (Ext2.blk hE4 X3.out); have HG1 := Lib.hid hG1; have HK1 := Lib.hid hK1; have HR1 := Lib.hid hR1
  have x3 := X4.out
  clear q3c q3f hE4 X3 H1 hG1 hK1 hR1
  have q3c := cell_blk x3
  have q3f := frz_blk x3
  clear x3
  go_wp2_with (fail)
  (with_reducible refine (H2.out _ HE4.out).mono ?_)
  rintro e w5 ⟨hE5, ⟨t1a, t1c⟩, ⟨t2a, t2c⟩, ⟨t3a, t3c⟩, rfl, hG2, hK2, hR2⟩
  have HE5 := Lib.hid (ext_trans HE4.out hE5)
  have hG1 := RowS.below HG1.out hE5; have hK1 := RowS.below HK1.out hE5; have hR1 := RowS.below HR1.out hE5
  have HC1 : Hid (Calls Tryz.prog 16 #[.slice s1a gn s1c, .slice t1a gn t1c] w5 fun e w' => e = .returned (.bool true) ∧ Below w5.heap.size w5 w') := Lib.hid (by rw [HGN.out]; have h := HSG.out ⟨s1a, s1c⟩ ⟨t1a, t1c⟩ G G w5 hG1 hG2; rw [decide_eq_true rfl] at h; exact h)
  have HC2 : Hid (∀ W, Ext2 w5 W → Calls Tryz.prog 17 #[.slice s2a kn s2c, .slice t2a kn t2c] W fun e w' => e = .returned (.bool true) ∧ Below W.heap.size W w') := Lib.hid fun W hW => by rw [HKN.out]; have h := HSK.out ⟨s2a, s2c⟩ ⟨t2a, t2c⟩ K K W (RowS.below hK1 hW) (RowS.below hK2 hW); rw [decide_eq_true rfl] at h; exact h
  have HC3 : Hid (∀ W, Ext2 w5 W → Calls Tryz.prog 18 #[.slice s3a rn s3c, .slice t3a rn t3c] W fun e w' => e = .returned (.bool true) ∧ Below W.heap.size W w') := Lib.hid fun W hW => by rw [HRN.out]; have h := HSI.out ⟨s3a, s3c⟩ ⟨t3a, t3c⟩ R R W (RowS.below hR1 hW) (RowS.below hR2 hW); rw [decide_eq_true rfl] at h; exact h
  have n1 : (E == E) = true := by simp
  clear q3c q3f hE5 X4 H2 hG1 hK1 hR1 hG2 hK2 hR2 HG1 HK1 HR1 HSG HSK HSI
  go_wp2_with (fail)
  (with_reducible refine HC1.out.mono ?_)
  rintro e w6 ⟨rfl, hE6⟩
  have HE6 := Lib.hid (ext_trans HE5.out hE6); have HW6 := Lib.hid (show Ext2 w5 w6 from hE6)
  clear hE6 HC1
  go_wp2_with (fail)
  (with_reducible refine (HC2.out _ HW6.out).mono ?_)
  rintro e w7 ⟨rfl, hE7⟩
  have HE7 := Lib.hid (ext_trans HE6.out hE7); have HW7 := Lib.hid (ext_trans HW6.out hE7)
  clear hE7 HC2
  go_wp2_with (fail)
  (with_reducible refine (HC3.out _ HW7.out).mono ?_)
  rintro e w8 ⟨rfl, hE8⟩
  have HE8 := Lib.hid (ext_trans HE7.out hE8)
  have HA8 := Lib.hid (HA.out _ HE8.out)
  clear hE8 HC3
  go_wp2_with (fail)
  (with_reducible refine HA8.out.mono ?_)
  rintro e w9 ⟨rfl, hE9⟩
  have HE9 := Lib.hid (ext_trans HE8.out hE9)
  clear hE9
  go_wp2_with (fail)
  go_ret
  exact ⟨rfl, HE9.out⟩
end Go.Proofs.YtojomdojblgegaaGreatDoor
