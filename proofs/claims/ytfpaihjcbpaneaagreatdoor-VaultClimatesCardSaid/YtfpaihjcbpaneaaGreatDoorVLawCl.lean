/-
  The law VaultClimates, walked.
-/
import Derived.Test.YtfpaihjcbpaneaaGreatDoorVAwake
import Derived.Test.YtfpaihjcbpaneaaGreatDoorVRefD
import Derived.Test.YtfpaihjcbpaneaaGreatDoorVArgM
namespace Go.Proofs.YtfpaihjcbpaneaaGreatDoor
open Go.RowKit D
set_option linter.unusedVariables false
set_option linter.unusedSimpArgs false
attribute [local go_sem high] run_minI run_maxI
attribute [local go_sem] upon2 cls_cell cls_frozen forall_const exists_eq_left'
attribute [local go_sem] FirstUpon
set_option maxRecDepth 100000 in
set_option maxHeartbeats 8000000 in
theorem lawClimates_any {S : Site} {s : SSl} {L : List Mv} {sl : Sl} {c d : Int} {w : World} (hS : SiteAt w S s) (hL : MovesS w sl L) (hm : MaxAt w) :
    Calls Tryz.prog 3 #[.agg #[.slice s.r.a S.rooms.length s.r.cap, .slice s.c.a S.cans.length s.c.cap, .int .i64 S.rlo, .int .i64 S.rhi, .slice s.p.a S.steps.length s.p.cap], .slice sl.a L.length sl.cap, .agg #[.int .i64 c, .int .i64 d]] w fun e w' => e = .returned (.bool true) ∧ Below w.heap.size w w' := by
  have HS := Lib.hid hS; have HL := Lib.hid hL; have HM := Lib.hid hm
  obtain ⟨em, hem⟩ : ∃ x, x = climE S L c d := ⟨_, rfl⟩
  have HEM := Lib.hid hem
  clear hS hL hm hem
  go_enter Tryz.func3, Tryz.ntmps3
  go_wp2_with (fail)
  refine calls_name ?_
  intro w1 hw1
  obtain ⟨n3, hn3⟩ : ∃ n, n = w.heap.size := ⟨_, rfl⟩
  obtain ⟨n5, hn5⟩ : ∃ n, n = n3 + 1 := ⟨_, rfl⟩
  have hE1 : Ext2 w w1 := by rw [hw1]; exact ext_trans (below_alloc' _ _) (below_alloc' _ _)
  have X3 : Hid (w1.heap[n3]? = some (Obj.cells #[.slice s.r.a S.rooms.length s.r.cap, .slice s.c.a S.cans.length s.c.cap, .int .i64 S.rlo, .int .i64 S.rhi, .slice s.p.a S.steps.length s.p.cap] 28)) := Lib.hid (by rw [hw1, hn3]; exact blk_alloc (blk_new _ _) _)
  have X5 : Hid (w1.heap[n5]? = some (.cells #[.int .i64 c, .int .i64 d] 30 (0, 0))) := Lib.hid (by rw [hw1, hn5, hn3]; exact blk_new' _ _ (by simp))
  rw [← hn3, ← hn5]
  clear hw1 hn3 hn5
  refine (clim_any (c := c) (d := d) (HS.out.below hE1) (HL.out.below hE1) (HM.out.below hE1)).mono ?_
  rintro e w2 ⟨⟨m1, m2⟩, rfl, hM1, hb2⟩
  rw [← HEM.out]
  have HE2 := Lib.hid (ext_trans hE1 hb2)
  have x3 := Ext2.blk hb2 X3.out; have x5 := Ext2.blk hb2 X5.out
  have HM1 := Lib.hid hM1
  dsimp only
  have q3c := cell_blk x3
  have q3f := frz_blk x3
  have q5c := cell_blk x5
  have q5f := frz_blk x5
  clear hb2 hE1 x3 x5 hM1
  go_wp2_with (fail)
  refine (climR_any (c := c) (d := d) (HS.out.below HE2.out) (HL.out.below HE2.out)).mono ?_
  rintro e w3 ⟨⟨m3, m4⟩, rfl, hM2, hb3⟩
  rw [← HEM.out]
  have HE3 := Lib.hid (ext_trans HE2.out hb3)
  have HM13 := Lib.hid (HM1.out.below hb3)
  have HM2 := Lib.hid hM2
  dsimp only
  clear hb3 q3c q3f q5c q5f hM2
  go_wp2_with (fail)
  refine (days_any (s := ⟨m1, m2⟩) (t := ⟨m3, m4⟩) HM13.out HM2.out).mono ?_
  rintro e w4 ⟨rfl, hb4⟩
  rw [decide_eq_true rfl]
  have HE4 := Lib.hid (ext_trans HE3.out hb4)
  clear hb4
  go_wp2_with (fail)
  refine (awake_any (HM.out.below HE4.out)).mono ?_
  rintro e w13 ⟨rfl, hb13⟩
  go_wp2_with (fail)
  go_ret
  exact ⟨rfl, ext_trans HE4.out hb13⟩
end Go.Proofs.YtfpaihjcbpaneaaGreatDoor
