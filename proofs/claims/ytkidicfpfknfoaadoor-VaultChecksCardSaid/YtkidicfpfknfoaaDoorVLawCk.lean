/-
  The law VaultChecks, walked.
-/
import Derived.Test.YtkidicfpfknfoaaDoorVAwake
import Derived.Test.YtkidicfpfknfoaaDoorVRefC
namespace Go.Proofs.YtkidicfpfknfoaaDoor
open Go.RowKit D
set_option linter.unusedVariables false
set_option linter.unusedSimpArgs false
attribute [local go_sem high] run_minI run_maxI
attribute [local go_sem] upon2 cls_cell cls_frozen forall_const exists_eq_left'
attribute [local go_sem] FirstUpon
set_option maxRecDepth 100000 in
set_option maxHeartbeats 2000000 in
theorem lawChecks_any {S : Site} {s : SSl} {w : World} (hS : SiteAt w S s) (hm : MaxAt w) : Calls Tryd.prog 3 #[.agg #[.slice s.r.a S.rooms.length s.r.cap, .slice s.c.a S.cans.length s.c.cap, .int .i64 S.rlo, .int .i64 S.rhi, .slice s.p.a S.steps.length s.p.cap]] w fun e w' => e = .returned (.bool true) ∧ Below w.heap.size w w' := by
  obtain ⟨p1, p2, p3, hp⟩ : ∃ a b c, checkV S = (a, b, c) := ⟨_, _, _, rfl⟩
  have HS := Lib.hid hS; have HM := Lib.hid hm; have HP := Lib.hid hp
  clear hS hm hp
  go_enter Tryd.func3, Tryd.ntmps3
  go_wp2_with (fail)
  refine calls_name ?_
  intro w1 hw1
  obtain ⟨n1, hn1⟩ : ∃ n, n = w.heap.size := ⟨_, rfl⟩
  have hE1 : Ext2 w w1 := by rw [hw1]; exact below_alloc' _ _
  have x1 : w1.heap[n1]? = some (Obj.cells #[.slice s.r.a S.rooms.length s.r.cap, .slice s.c.a S.cans.length s.c.cap, .int .i64 S.rlo, .int .i64 S.rhi, .slice s.p.a S.steps.length s.p.cap] 28) := by rw [hw1, hn1]; exact blk_new _ _
  rw [← hn1]
  clear hw1 hn1
  refine (check_any (HS.out.below hE1) (HM.out.below hE1)).mono ?_
  rintro e w2 ⟨rfl, hb2⟩
  rw [HP.out]
  dsimp only
  have HE2 := Lib.hid (ext_trans hE1 hb2)
  have x2 := Ext2.blk hb2 x1
  clear hE1 x1 hb2
  have q1c := cell_blk x2
  have q1f := frz_blk x2
  clear x2
  go_wp2_with (fail)
  refine (checkR_any (HS.out.below HE2.out)).mono ?_
  rintro e w3 ⟨rfl, hb3⟩
  rw [HP.out]
  dsimp only
  have HE3 := Lib.hid (ext_trans HE2.out hb3)
  clear hb3 q1c q1f
  go_wp2_with (fail)
  refine (awake_any (HM.out.below HE3.out)).mono ?_
  rintro e w4 ⟨rfl, hb4⟩
  go_wp2_with (fail)
  go_ret
  exact ⟨rfl, ext_trans HE3.out hb4⟩
end Go.Proofs.YtkidicfpfknfoaaDoor
