/-
  The law VaultPlays, walked.
-/
import Derived.Test.YtfpaihjcbpaneaaGreatDoorVAwake
import Derived.Test.YtfpaihjcbpaneaaGreatDoorVRefZ
import Derived.Test.YtfpaihjcbpaneaaGreatDoorVInts
import Derived.Test.YtfpaihjcbpaneaaGreatDoorVArgM
namespace Go.Proofs.YtfpaihjcbpaneaaGreatDoor
open Go.RowKit D
set_option linter.unusedVariables false
set_option linter.unusedSimpArgs false
attribute [local go_sem high] run_minI run_maxI
attribute [local go_sem] upon2 cls_cell cls_frozen forall_const exists_eq_left'
attribute [local go_sem] FirstUpon
set_option maxRecDepth 100000 in
set_option maxHeartbeats 8000000 in
theorem lawPlays_any {S : Site} {s : SSl} {L : List Mv} {sl : Sl} {c h : Int} {w : World} (hS : SiteAt w S s) (hL : MovesS w sl L) (hm : MaxAt w) :
    Calls Tryz.prog 4 #[.agg #[.slice s.r.a S.rooms.length s.r.cap, .slice s.c.a S.cans.length s.c.cap, .int .i64 S.rlo, .int .i64 S.rhi, .slice s.p.a S.steps.length s.p.cap], .slice sl.a L.length sl.cap, .agg #[.int .i64 c, .int .i64 h]] w fun e w' => e = .returned (.bool true) ∧ Below w.heap.size w w' := by
  have HS := Lib.hid hS; have HL := Lib.hid hL; have HM := Lib.hid hm
  obtain ⟨⟨u1, u2⟩, hu⟩ : ∃ x, x = tempA S L c h := ⟨_, rfl⟩
  obtain ⟨u3, hu3⟩ : ∃ x, x = tempE S L c h := ⟨_, rfl⟩
  obtain ⟨em, hem⟩ : ∃ x, x = movedE S L := ⟨_, rfl⟩
  obtain ⟨ew, hew⟩ : ∃ x, x = whereE S L h := ⟨_, rfl⟩
  have H5 : Hid (∀ W, Ext2 w W → Calls Tryz.prog 18 #[.agg #[.slice s.r.a S.rooms.length s.r.cap, .slice s.c.a S.cans.length s.c.cap, .int .i64 S.rlo, .int .i64 S.rhi, .slice s.p.a S.steps.length s.p.cap], .slice sl.a L.length sl.cap, .int .i64 c, .int .i64 h] W fun e w' => e = .returned (.tuple #[.agg #[.int .i64 u1, .int .i64 u2], .int .i64 u3]) ∧ Below W.heap.size W w') := Lib.hid fun W hW => by
    have h1 := tempA_any (c := c) (h := h) (HS.out.below hW) (HL.out.below hW) (HM.out.below hW); rw [← hu, ← hu3] at h1; exact h1
  have H6 : Hid (∀ W, Ext2 w W → Calls Tryz.prog 19 #[.agg #[.slice s.r.a S.rooms.length s.r.cap, .slice s.c.a S.cans.length s.c.cap, .int .i64 S.rlo, .int .i64 S.rhi, .slice s.p.a S.steps.length s.p.cap], .slice sl.a L.length sl.cap, .int .i64 c, .int .i64 h] W fun e w' => e = .returned (.tuple #[.agg #[.int .i64 u1, .int .i64 u2], .int .i64 u3]) ∧ Below W.heap.size W w') := Lib.hid fun W hW => by
    have h1 := tempAR_any (c := c) (h := h) (HS.out.below hW) (HL.out.below hW); rw [← hu, ← hu3] at h1; exact h1
  have HEM := Lib.hid hem; have HEW := Lib.hid hew
  clear hS hL hm hu hu3 hem hew
  go_enter Tryz.func4, Tryz.ntmps4
  go_wp2_with (fail)
  refine calls_name ?_
  intro w1 hw1
  obtain ⟨n3, hn3⟩ : ∃ n, n = w.heap.size := ⟨_, rfl⟩
  obtain ⟨n5, hn5⟩ : ∃ n, n = n3 + 1 := ⟨_, rfl⟩
  have hE1 : Ext2 w w1 := by rw [hw1]; exact ext_trans (below_alloc' _ _) (below_alloc' _ _)
  have X3 : Hid (w1.heap[n3]? = some (Obj.cells #[.slice s.r.a S.rooms.length s.r.cap, .slice s.c.a S.cans.length s.c.cap, .int .i64 S.rlo, .int .i64 S.rhi, .slice s.p.a S.steps.length s.p.cap] 28)) := Lib.hid (by rw [hw1, hn3]; exact blk_alloc (blk_new _ _) _)
  have X5 : Hid (w1.heap[n5]? = some (.cells #[.int .i64 c, .int .i64 h] 30 (0, 0))) := Lib.hid (by rw [hw1, hn5, hn3]; exact blk_new' _ _ (by simp))
  rw [← hn3, ← hn5]
  clear hw1 hn3 hn5
  refine (playA_any (HS.out.below hE1) (HL.out.below hE1) (HM.out.below hE1)).mono ?_
  rintro e w2 ⟨⟨m1, m2⟩, ⟨e1, e2⟩, rfl, hM1, hW1, hb2⟩
  rw [← HEM.out]
  have HE2 := Lib.hid (ext_trans hE1 hb2)
  have x3 := Ext2.blk hb2 X3.out
  have X32 := Lib.hid x3; have X52 := Lib.hid (Ext2.blk hb2 X5.out)
  have HM1 := Lib.hid hM1; have HW1 := Lib.hid hW1
  dsimp only
  have q3c := cell_blk x3
  have q3f := frz_blk x3
  clear hb2 hE1 x3 hM1 hW1
  go_wp2_with (fail)
  refine (playAR_any (HS.out.below HE2.out) (HL.out.below HE2.out)).mono ?_
  rintro e w3 ⟨⟨m3, m4⟩, ⟨e3, e4⟩, rfl, hM2, hW2, hb3⟩
  rw [← HEM.out]
  have HE3 := Lib.hid (ext_trans HE2.out hb3)
  have x3 := Ext2.blk hb3 X32.out
  have X33 := Lib.hid x3; have X53 := Lib.hid (Ext2.blk hb3 X52.out)
  have HM13 := Lib.hid (HM1.out.below hb3); have HW13 := Lib.hid (HW1.out.below hb3)
  have HM2 := Lib.hid hM2; have HW2 := Lib.hid hW2
  dsimp only
  clear hb3 q3c q3f x3 hM2 hW2
  go_wp2_with (fail)
  refine (mvs_any (s := ⟨m1, m2⟩) (t := ⟨m3, m4⟩) HM13.out HM2.out).mono ?_
  rintro e w4 ⟨rfl, hb4⟩
  rw [decide_eq_true rfl]
  have HE4 := Lib.hid (ext_trans HE3.out hb4)
  have HW14 := Lib.hid (HW13.out.below hb4); have HW24 := Lib.hid (HW2.out.below hb4)
  have X34 := Lib.hid (Ext2.blk hb4 X33.out); have X54 := Lib.hid (Ext2.blk hb4 X53.out)
  clear hb4
  go_wp2_with (fail)
  refine (errs_any (s := ⟨e1, e2⟩) (t := ⟨e3, e4⟩) HW14.out HW24.out).mono ?_
  rintro e w5 ⟨rfl, hb5⟩
  rw [decide_eq_true rfl]
  have HE5 := Lib.hid (ext_trans HE4.out hb5)
  have x3 := Ext2.blk hb5 X34.out; have x5 := Ext2.blk hb5 X54.out
  have X35 := Lib.hid x3; have X55 := Lib.hid x5
  have q3c := cell_blk x3
  have q3f := frz_blk x3
  have q5c := cell_blk x5
  have q5f := frz_blk x5
  clear hb5 x3 x5
  go_wp2_with (fail)
  refine (whereA_any (h := h) (HS.out.below HE5.out) (HL.out.below HE5.out) (HM.out.below HE5.out)).mono ?_
  rintro e w6 ⟨⟨p1, p2⟩, rfl, hP1, hb6⟩
  rw [← HEW.out]
  have HE6 := Lib.hid (ext_trans HE5.out hb6)
  have x3 := Ext2.blk hb6 X35.out; have x5 := Ext2.blk hb6 X55.out
  have X36 := Lib.hid x3; have X56 := Lib.hid x5
  have HP1 := Lib.hid hP1
  dsimp only
  clear q3c q3f q5c q5f hb6 hP1
  have q3c := cell_blk x3
  have q3f := frz_blk x3
  have q5c := cell_blk x5
  have q5f := frz_blk x5
  clear x3 x5
  go_wp2_with (fail)
  refine (whereAR_any (h := h) (HS.out.below HE6.out) (HL.out.below HE6.out)).mono ?_
  rintro e w7 ⟨⟨p3, p4⟩, rfl, hP2, hb7⟩
  rw [← HEW.out]
  have HE7 := Lib.hid (ext_trans HE6.out hb7)
  have X37 := Lib.hid (Ext2.blk hb7 X36.out); have X57 := Lib.hid (Ext2.blk hb7 X56.out)
  have HP17 := Lib.hid (HP1.out.below hb7); have HP2 := Lib.hid hP2
  dsimp only
  clear q3c q3f q5c q5f hb7 hP2
  go_wp2_with (fail)
  refine (ints1_any (s := ⟨p1, p2⟩) (t := ⟨p3, p4⟩) HP17.out HP2.out).mono ?_
  rintro e w8 ⟨rfl, hb8⟩
  rw [decide_eq_true rfl]
  have HE8 := Lib.hid (ext_trans HE7.out hb8)
  have x3 := Ext2.blk hb8 X37.out; have x5 := Ext2.blk hb8 X57.out
  have X38 := Lib.hid x3; have X58 := Lib.hid x5
  clear hb8
  have q3c := cell_blk x3
  have q3f := frz_blk x3
  have q5c := cell_blk x5
  have q5f := frz_blk x5
  clear x3 x5
  go_wp2_with (fail)
  (with_reducible refine (H5.out _ HE8.out).mono ?_)
  rintro e w9 ⟨rfl, hb9⟩
  have HE9 := Lib.hid (ext_trans HE8.out hb9)
  have X39 := Lib.hid (Ext2.blk hb9 X38.out); have X59 := Lib.hid (Ext2.blk hb9 X58.out)
  clear q3c q3f q5c q5f hb9
  go_upto_region 10 with (fail)
  refine wp_name ?_
  intro w10 hw10
  obtain ⟨n15, hn15⟩ : ∃ b, b = w9.heap.size := ⟨_, rfl⟩
  have hE10 : Ext2 w9 w10 := by rw [hw10]; exact below_alloc' _ _
  have X15 : Hid (w10.heap[n15]? = some (Obj.cells #[.int .i64 u1, .int .i64 u2] 25)) := Lib.hid (by rw [hw10, hn15]; exact blk_new _ _)
  rw [← hn15]
  have HE10 := Lib.hid (ext_trans HE9.out hE10)
  have x3 := Ext2.blk hE10 X39.out; have x5 := Ext2.blk hE10 X59.out
  clear hw10 hn15 hE10
  have q3c := cell_blk x3
  have q3f := frz_blk x3
  have q5c := cell_blk x5
  have q5f := frz_blk x5
  clear x3 x5
  go_wp2_with (fail)
  (with_reducible refine (H6.out _ HE10.out).mono ?_)
  rintro e w11 ⟨rfl, hb11⟩
  have HE11 := Lib.hid (ext_trans HE10.out hb11)
  have X1511 := Lib.hid (Ext2.blk hb11 X15.out)
  clear q3c q3f q5c q5f hb11
  go_upto_region 11 with (fail)
  refine wp_name ?_
  intro w12 hw12
  obtain ⟨n16, hn16⟩ : ∃ b, b = w11.heap.size := ⟨_, rfl⟩
  have hE12 : Ext2 w11 w12 := by rw [hw12]; exact below_alloc' _ _
  have x16 : w12.heap[n16]? = some (Obj.cells #[.int .i64 u1, .int .i64 u2] 25) := by rw [hw12, hn16]; exact blk_new _ _
  rw [← hn16]
  have HE12 := Lib.hid (ext_trans HE11.out hE12)
  have x15 := Ext2.blk hE12 X1511.out
  clear hw12 hn16 hE12
  have q15c := cell_blk x15
  have q15f := frz_blk x15
  have q16c := cell_blk x16
  have q16f := frz_blk x16
  clear x15 x16
  go_wp2_with (fail)
  refine (awake_any (HM.out.below HE12.out)).mono ?_
  rintro e w13 ⟨rfl, hb13⟩
  go_wp2_with (fail)
  go_ret
  exact ⟨rfl, ext_trans HE12.out hb13⟩
end Go.Proofs.YtfpaihjcbpaneaaGreatDoor
