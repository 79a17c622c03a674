/-
  The law VaultWarms, walked.
-/
import Derived.Test.YtfpaihjcbpaneaaGreatDoorVAwake
import Derived.Test.YtfpaihjcbpaneaaGreatDoorVRefQ
import Derived.Test.YtfpaihjcbpaneaaGreatDoorVArgM
namespace Go.Proofs.YtfpaihjcbpaneaaGreatDoor
open Go.RowKit D
set_option linter.unusedVariables false
set_option linter.unusedSimpArgs false
attribute [local go_sem high] run_minI run_maxI
attribute [local go_sem] upon2 cls_cell cls_frozen forall_const exists_eq_left'
attribute [local go_sem] FirstUpon
set_option maxRecDepth 100000 in
set_option maxHeartbeats 8000000 in
theorem lawWarms_any {S : Site} {s : SSl} {X : D.Ask} {w : World} (hS : SiteAt w S s) (hm : MaxAt w) :
    Calls Tryz.prog 6 #[.agg #[.slice s.r.a S.rooms.length s.r.cap, .slice s.c.a S.cans.length s.c.cap, .int .i64 S.rlo, .int .i64 S.rhi, .slice s.p.a S.steps.length s.p.cap], .agg #[.int .i64 X.t.lo, .int .i64 X.t.hi, .int .i64 X.room, .int .i64 X.next, .int .i64 X.hours, .int .i64 X.base]] w fun e w' => e = .returned (.bool true) ∧ Below w.heap.size w w' := by
  have HS := Lib.hid hS; have HM := Lib.hid hm
  obtain ⟨⟨a1, a2⟩, ar, an, ah, ab⟩ := X
  dsimp only
  obtain ⟨s1, s2, s3, hs⟩ : ∃ x y z, sweatO S ⟨a1, a2⟩ ar = (x, y, z) := ⟨_, _, _, rfl⟩
  obtain ⟨⟨u1, u2⟩, u3, hu⟩ : ∃ x y, warmO S ⟨a1, a2⟩ ar ah = (x, y) := ⟨_, _, rfl⟩
  obtain ⟨v1, ⟨v2, v3⟩, v4, hv⟩ : ∃ x y z, waitO S ⟨a1, a2⟩ ar an = (x, y, z) := ⟨_, _, _, rfl⟩
  have H1 : Hid (∀ W, Ext2 w W → Calls Tryz.prog 26 #[.agg #[.slice s.r.a S.rooms.length s.r.cap, .slice s.c.a S.cans.length s.c.cap, .int .i64 S.rlo, .int .i64 S.rhi, .slice s.p.a S.steps.length s.p.cap], .agg #[.int .i64 a1, .int .i64 a2], .int .i64 ar] W fun e w' => e = .returned (.tuple #[.bool s1, .bool s2, .int .i64 s3]) ∧ Below W.heap.size W w') := Lib.hid fun W hW => by
    have h := sweats_any (t := ⟨a1, a2⟩) (r := ar) (HS.out.below hW) (HM.out.below hW); rw [hs] at h; exact h
  have H2 : Hid (∀ W, Ext2 w W → Calls Tryz.prog 27 #[.agg #[.slice s.r.a S.rooms.length s.r.cap, .slice s.c.a S.cans.length s.c.cap, .int .i64 S.rlo, .int .i64 S.rhi, .slice s.p.a S.steps.length s.p.cap], .agg #[.int .i64 a1, .int .i64 a2], .int .i64 ar] W fun e w' => e = .returned (.tuple #[.bool s1, .bool s2, .int .i64 s3]) ∧ Below W.heap.size W w') := Lib.hid fun W hW => by
    have h := sweatsR_any (t := ⟨a1, a2⟩) (r := ar) (HS.out.below hW); rw [hs] at h; exact h
  have H3 : Hid (∀ W, Ext2 w W → Calls Tryz.prog 28 #[.agg #[.slice s.r.a S.rooms.length s.r.cap, .slice s.c.a S.cans.length s.c.cap, .int .i64 S.rlo, .int .i64 S.rhi, .slice s.p.a S.steps.length s.p.cap], .agg #[.int .i64 a1, .int .i64 a2], .int .i64 ar, .int .i64 ah] W fun e w' => e = .returned (.tuple #[.agg #[.int .i64 u1, .int .i64 u2], .int .i64 u3]) ∧ Below W.heap.size W w') := Lib.hid fun W hW => by
    have h := warmA_any (t := ⟨a1, a2⟩) (r := ar) (h := ah) (HS.out.below hW) (HM.out.below hW); rw [hu] at h; exact h
  have H4 : Hid (∀ W, Ext2 w W → Calls Tryz.prog 29 #[.agg #[.slice s.r.a S.rooms.length s.r.cap, .slice s.c.a S.cans.length s.c.cap, .int .i64 S.rlo, .int .i64 S.rhi, .slice s.p.a S.steps.length s.p.cap], .agg #[.int .i64 a1, .int .i64 a2], .int .i64 ar, .int .i64 ah] W fun e w' => e = .returned (.tuple #[.agg #[.int .i64 u1, .int .i64 u2], .int .i64 u3]) ∧ Below W.heap.size W w') := Lib.hid fun W hW => by
    have h := warmR_any (t := ⟨a1, a2⟩) (r := ar) (h := ah) (HS.out.below hW); rw [hu] at h; exact h
  have H5 : Hid (∀ W, Ext2 w W → Calls Tryz.prog 30 #[.agg #[.slice s.r.a S.rooms.length s.r.cap, .slice s.c.a S.cans.length s.c.cap, .int .i64 S.rlo, .int .i64 S.rhi, .slice s.p.a S.steps.length s.p.cap], .agg #[.int .i64 a1, .int .i64 a2], .int .i64 ar, .int .i64 an] W fun e w' => e = .returned (.tuple #[.int .i64 v1, .agg #[.int .i64 v2, .int .i64 v3], .int .i64 v4]) ∧ Below W.heap.size W w') := Lib.hid fun W hW => by
    have h := waitA_any (t := ⟨a1, a2⟩) (r := ar) (nx := an) (HS.out.below hW) (HM.out.below hW); rw [hv] at h; exact h
  have H6 : Hid (∀ W, Ext2 w W → Calls Tryz.prog 31 #[.agg #[.slice s.r.a S.rooms.length s.r.cap, .slice s.c.a S.cans.length s.c.cap, .int .i64 S.rlo, .int .i64 S.rhi, .slice s.p.a S.steps.length s.p.cap], .agg #[.int .i64 a1, .int .i64 a2], .int .i64 ar, .int .i64 an] W fun e w' => e = .returned (.tuple #[.int .i64 v1, .agg #[.int .i64 v2, .int .i64 v3], .int .i64 v4]) ∧ Below W.heap.size W w') := Lib.hid fun W hW => by
    have h := waitAR_any (t := ⟨a1, a2⟩) (r := ar) (nx := an) (HS.out.below hW); rw [hv] at h; exact h
  clear hS hm hs hu hv
  go_enter Tryz.func6, Tryz.ntmps6
  go_wp2_with (fail)
  refine calls_name ?_
  intro w1 hw1
  obtain ⟨n2, hn2⟩ : ∃ n, n = w.heap.size := ⟨_, rfl⟩
  obtain ⟨n3, hn3⟩ : ∃ n, n = n2 + 1 := ⟨_, rfl⟩
  have hE1 : Ext2 w w1 := by rw [hw1]; exact ext_trans (below_alloc' _ _) (below_alloc' _ _)
  have X2 : Hid (w1.heap[n2]? = some (Obj.cells #[.slice s.r.a S.rooms.length s.r.cap, .slice s.c.a S.cans.length s.c.cap, .int .i64 S.rlo, .int .i64 S.rhi, .slice s.p.a S.steps.length s.p.cap] 28)) := Lib.hid (by rw [hw1, hn2]; exact blk_alloc (blk_new _ _) _)
  have X3 : Hid (w1.heap[n3]? = some (Obj.cells #[.int .i64 a1, .int .i64 a2, .int .i64 ar, .int .i64 an, .int .i64 ah, .int .i64 ab] 50)) := Lib.hid (by rw [hw1, hn3, hn2]; exact blk_new' _ _ (by simp))
  rw [← hn2, ← hn3]
  have l2 : w.heap.size ≤ n2 := by omega
  have l3 : n2 < n3 := by omega
  clear hw1 hn2 hn3
  (with_reducible refine (H1.out _ hE1).mono ?_)
  rintro e w2 ⟨rfl, hb2⟩
  have HE2 := Lib.hid (ext_trans hE1 hb2)
  have x2 := Ext2.blk hb2 X2.out; have x3 := Ext2.blk hb2 X3.out
  have X22 := Lib.hid x2; have X32 := Lib.hid x3
  have q2c := cell_blk x2
  have q2f := frz_blk x2
  have q3c := cell_blk x3
  have q3f := frz_blk x3
  clear hb2 hE1 x2 x3
  go_wp2_with (fail)
  (with_reducible refine (H2.out _ HE2.out).mono ?_)
  rintro e w3 ⟨rfl, hb3⟩
  have HE3 := Lib.hid (ext_trans HE2.out hb3)
  have x2 := Ext2.blk hb3 X22.out; have x3 := Ext2.blk hb3 X32.out
  have X23 := Lib.hid x2; have X33 := Lib.hid x3
  clear q2c q2f q3c q3f
  have q2c := cell_blk x2
  have q2f := frz_blk x2
  have q3c := cell_blk x3
  have q3f := frz_blk x3
  clear hb3 x2 x3
  go_wp2_with (fail)
  (with_reducible refine (H3.out _ HE3.out).mono ?_)
  rintro e w4 ⟨rfl, hb4⟩
  have HE4 := Lib.hid (ext_trans HE3.out hb4)
  have X24 := Lib.hid (Ext2.blk hb4 X23.out); have X34 := Lib.hid (Ext2.blk hb4 X33.out)
  clear q2c q2f q3c q3f hb4
  go_upto_region 6 with (fail)
  refine wp_name ?_
  intro w5 hw5
  obtain ⟨n11, hn11⟩ : ∃ b, b = w4.heap.size := ⟨_, rfl⟩
  have hE5 : Ext2 w4 w5 := by rw [hw5]; exact below_alloc' _ _
  have X11 : Hid (w5.heap[n11]? = some (Obj.cells #[.int .i64 u1, .int .i64 u2] 25)) := Lib.hid (by rw [hw5, hn11]; exact blk_new _ _)
  rw [← hn11]
  have l11 : n3 < n11 := by have := blk_lt X34.out; omega
  have HE5 := Lib.hid (ext_trans HE4.out hE5)
  have x2 := Ext2.blk hE5 X24.out; have x3 := Ext2.blk hE5 X34.out
  have X25 := Lib.hid x2; have X35 := Lib.hid x3
  have q2c := cell_blk x2
  have q2f := frz_blk x2
  have q3c := cell_blk x3
  have q3f := frz_blk x3
  clear hw5 hn11 hE5 x2 x3
  go_wp2_with (fail)
  (with_reducible refine (H4.out _ HE5.out).mono ?_)
  rintro e w6 ⟨rfl, hb6⟩
  have HE6 := Lib.hid (ext_trans HE5.out hb6)
  have X26 := Lib.hid (Ext2.blk hb6 X25.out); have X36 := Lib.hid (Ext2.blk hb6 X35.out); have X116 := Lib.hid (Ext2.blk hb6 X11.out)
  clear q2c q2f q3c q3f hb6
  go_upto_region 7 with (fail)
  refine wp_name ?_
  intro w7 hw7
  obtain ⟨n12, hn12⟩ : ∃ b, b = w6.heap.size := ⟨_, rfl⟩
  have hE7 : Ext2 w6 w7 := by rw [hw7]; exact below_alloc' _ _
  have x12 : w7.heap[n12]? = some (Obj.cells #[.int .i64 u1, .int .i64 u2] 25) := by rw [hw7, hn12]; exact blk_new _ _
  rw [← hn12]
  have l12 : n11 < n12 := by have := blk_lt X116.out; omega
  have HE7 := Lib.hid (ext_trans HE6.out hE7)
  have x2 := Ext2.blk hE7 X26.out; have x3 := Ext2.blk hE7 X36.out; have x11 := Ext2.blk hE7 X116.out
  have X27 := Lib.hid x2; have X37 := Lib.hid x3; have X117 := Lib.hid x11; have X127 := Lib.hid x12
  have q2c := cell_blk x2
  have q2f := frz_blk x2
  have q3c := cell_blk x3
  have q3f := frz_blk x3
  have q11c := cell_blk x11
  have q11f := frz_blk x11
  have q12c := cell_blk x12
  have q12f := frz_blk x12
  clear hw7 hn12 hE7 x2 x3 x11 x12
  go_wp2_with (fail)
  (with_reducible refine (H5.out _ HE7.out).mono ?_)
  rintro e w8 ⟨rfl, hb8⟩
  have HE8 := Lib.hid (ext_trans HE7.out hb8)
  have X28 := Lib.hid (Ext2.blk hb8 X27.out); have X38 := Lib.hid (Ext2.blk hb8 X37.out); have x11 := Ext2.blk hb8 X117.out; have X128 := Lib.hid (Ext2.blk hb8 X127.out)
  have X118 := Lib.hid x11
  clear q2c q2f q3c q3f q11c q11f q12c q12f hb8
  have q11c := cell_blk x11
  have q11f := frz_blk x11
  clear x11
  go_upto_region 10 with (fail)
  refine wp_name ?_
  intro w9 hw9
  have hE9 : Ext2 w w9 := by rw [hw9]; exact below_set (below_set HE8.out (by omega)) (by omega)
  have x11 : w9.heap[n11]? = some (Obj.cells #[.int .i64 v2, .int .i64 v3] 25) := by rw [hw9]; exact Eq.trans (blk_set (blk_set X118.out _ _) _ _) rfl
  have x2 : w9.heap[n2]? = some (Obj.cells #[.slice s.r.a S.rooms.length s.r.cap, .slice s.c.a S.cans.length s.c.cap, .int .i64 S.rlo, .int .i64 S.rhi, .slice s.p.a S.steps.length s.p.cap] 28) := by rw [hw9]; exact blk_set_ne (blk_set_ne X28.out (by omega)) (by omega)
  have x3 : w9.heap[n3]? = some (Obj.cells #[.int .i64 a1, .int .i64 a2, .int .i64 ar, .int .i64 an, .int .i64 ah, .int .i64 ab] 50) := by rw [hw9]; exact blk_set_ne (blk_set_ne X38.out (by omega)) (by omega)
  have X129 : Hid (w9.heap[n12]? = some (Obj.cells #[.int .i64 u1, .int .i64 u2] 25)) := Lib.hid (by rw [hw9]; exact blk_set_ne (blk_set_ne X128.out (by omega)) (by omega))
  have X119 := Lib.hid x11; have HE9 := Lib.hid hE9
  clear hw9 q11c q11f hE9
  have q2c := cell_blk x2
  have q2f := frz_blk x2
  have q3c := cell_blk x3
  have q3f := frz_blk x3
  clear x2 x3 x11
  go_wp2_with (fail)
  (with_reducible refine (H6.out _ HE9.out).mono ?_)
  rintro e w10 ⟨rfl, hb10⟩
  have HE10 := Lib.hid (ext_trans HE9.out hb10)
  have X1110 := Lib.hid (Ext2.blk hb10 X119.out); have x12 := Ext2.blk hb10 X129.out
  have X1210 := Lib.hid x12
  clear q2c q2f q3c q3f hb10
  have q12c := cell_blk x12
  have q12f := frz_blk x12
  clear x12
  go_upto_region 11 with (fail)
  refine wp_name ?_
  intro w11 hw11
  have hE11 : Ext2 w w11 := by rw [hw11]; exact below_set (below_set HE10.out (by omega)) (by omega)
  have x12 : w11.heap[n12]? = some (Obj.cells #[.int .i64 v2, .int .i64 v3] 25) := by rw [hw11]; exact Eq.trans (blk_set (blk_set X1210.out _ _) _ _) rfl
  have x11 : w11.heap[n11]? = some (Obj.cells #[.int .i64 v2, .int .i64 v3] 25) := by rw [hw11]; exact blk_set_ne (blk_set_ne X1110.out (by omega)) (by omega)
  have HE11 := Lib.hid hE11
  clear hw11 q12c q12f hE11
  have q11c := cell_blk x11
  have q11f := frz_blk x11
  have q12c := cell_blk x12
  have q12f := frz_blk x12
  clear x11 x12
  go_wp2_with (fail)
  refine (awake_any (HM.out.below HE11.out)).mono ?_
  rintro e w12 ⟨rfl, hb12⟩
  go_wp2_with (fail)
  go_ret
  exact ⟨rfl, ext_trans HE11.out hb12⟩
end Go.Proofs.YtfpaihjcbpaneaaGreatDoor
