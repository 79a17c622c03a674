/-
  The law VaultPaths, walked.
-/
import Derived.Test.YtfpaihjcbpaneaaGreatDoorVAwake
import Derived.Test.YtfpaihjcbpaneaaGreatDoorVRefH
import Derived.Test.YtfpaihjcbpaneaaGreatDoorVArgM
namespace Go.Proofs.YtfpaihjcbpaneaaGreatDoor
open Go.RowKit D
set_option linter.unusedVariables false
set_option linter.unusedSimpArgs false
attribute [local go_sem high] run_minI run_maxI
attribute [local go_sem] upon2 cls_cell cls_frozen forall_const exists_eq_left'
attribute [local go_sem] FirstUpon
theorem nears_row {w : World} {base : Nat} {v : Value} {l : List Nr} {E : Int} (h : OwnR w base 115 2 v (if E = 0 then l.length else 0) (nrC l)) : ∃ s : Sl, v = .slice s.a (if E = 0 then l else []).length s.cap ∧ RowS w s 2 (if E = 0 then l else []).length (nrC (if E = 0 then l else [])) := by
  obtain ⟨s, hv, hr⟩ := h.sl
  by_cases h0 : E = 0
  · rw [if_pos h0] at hv hr ⊢; exact ⟨s, hv, hr⟩
  · rw [if_neg h0] at hv hr ⊢; exact ⟨s, hv, ⟨hr.le, hr.max, fun i j hi _ => absurd hi (Nat.not_lt_zero i)⟩⟩
set_option maxRecDepth 100000 in
set_option maxHeartbeats 8000000 in
theorem lawPaths_any {S : Site} {s : SSl} {X : D.Ask} {wh : List Int} {sl : Sl} {w : World} (hS : SiteAt w S s) (hL : IntsS w sl wh) (hm : MaxAt w) :
    Calls Tryz.prog 5 #[.agg #[.slice s.r.a S.rooms.length s.r.cap, .slice s.c.a S.cans.length s.c.cap, .int .i64 S.rlo, .int .i64 S.rhi, .slice s.p.a S.steps.length s.p.cap], .agg #[.int .i64 X.t.lo, .int .i64 X.t.hi, .int .i64 X.room, .int .i64 X.next, .int .i64 X.hours, .int .i64 X.base], .slice sl.a wh.length sl.cap] w fun e w' => e = .returned (.bool true) ∧ Below w.heap.size w w' := by
  have HS := Lib.hid hS; have HM := Lib.hid hm; have HL := Lib.hid hL
  obtain ⟨⟨a1, a2⟩, ar, an, ah, ab⟩ := X
  dsimp only
  obtain ⟨ph, hph⟩ : ∃ x, x = pathH S ab ⟨a1, a2⟩ ar an := ⟨_, rfl⟩
  obtain ⟨px, hpx⟩ : ∃ x, x = pathX S ab ⟨a1, a2⟩ ar an := ⟨_, rfl⟩
  obtain ⟨ne, hne⟩ : ∃ x, x = nearE S wh := ⟨_, rfl⟩
  have HPH := Lib.hid hph; have HPX := Lib.hid hpx; have HNE := Lib.hid hne
  clear hS hm hL hph hpx hne
  go_enter Tryz.func5, Tryz.ntmps5
  go_wp2_with (fail)
  refine calls_name ?_
  intro w1 hw1
  obtain ⟨n3, hn3⟩ : ∃ n, n = w.heap.size := ⟨_, rfl⟩
  obtain ⟨n4, hn4⟩ : ∃ n, n = n3 + 1 := ⟨_, rfl⟩
  have hE1 : Ext2 w w1 := by rw [hw1]; exact ext_trans (below_alloc' _ _) (below_alloc' _ _)
  have X3 : Hid (w1.heap[n3]? = some (Obj.cells #[.slice s.r.a S.rooms.length s.r.cap, .slice s.c.a S.cans.length s.c.cap, .int .i64 S.rlo, .int .i64 S.rhi, .slice s.p.a S.steps.length s.p.cap] 28)) := Lib.hid (by rw [hw1, hn3]; exact blk_alloc (blk_new _ _) _)
  have X4 : Hid (w1.heap[n4]? = some (Obj.cells #[.int .i64 a1, .int .i64 a2, .int .i64 ar, .int .i64 an, .int .i64 ah, .int .i64 ab] 50)) := Lib.hid (by rw [hw1, hn4, hn3]; exact blk_new' _ _ (by simp))
  rw [← hn3, ← hn4]
  clear hw1 hn3 hn4
  refine (@path_any S s ab ⟨a1, a2⟩ ar an _ (HS.out.below hE1) (HM.out.below hE1)).mono ?_
  rintro e w2 ⟨⟨p1, p2⟩, rfl, hP1, hb2⟩
  rw [← HPH.out, ← HPX.out]
  have HE2 := Lib.hid (ext_trans hE1 hb2)
  have x3 := Ext2.blk hb2 X3.out; have x4 := Ext2.blk hb2 X4.out
  have X32 := Lib.hid x3; have HP1 := Lib.hid hP1
  dsimp only
  have q3c := cell_blk x3
  have q3f := frz_blk x3
  have q4c := cell_blk x4
  have q4f := frz_blk x4
  clear hb2 hE1 x3 x4 hP1
  go_wp2_with (fail)
  refine (pathR_any (base := ab) (t := ⟨a1, a2⟩) (fr := ar) (to_ := an) (HS.out.below HE2.out)).mono ?_
  rintro e w3 ⟨⟨p3, p4⟩, rfl, hP2, hb3⟩
  rw [← HPH.out, ← HPX.out]
  have HE3 := Lib.hid (ext_trans HE2.out hb3)
  have X33 := Lib.hid (Ext2.blk hb3 X32.out)
  have HP13 := Lib.hid (HP1.out.below hb3); have HP2 := Lib.hid hP2
  dsimp only
  clear hb3 q3c q3f q4c q4f hP2
  go_wp2_with (fail)
  refine (stays_any (s := ⟨p1, p2⟩) (t := ⟨p3, p4⟩) HP13.out HP2.out).mono ?_
  rintro e w4 ⟨rfl, hb4⟩
  rw [decide_eq_true rfl]
  have HE4 := Lib.hid (ext_trans HE3.out hb4)
  have x3 := Ext2.blk hb4 X33.out
  have X34 := Lib.hid x3
  have q3c := cell_blk x3
  have q3f := frz_blk x3
  clear hb4 x3
  go_wp2_with (fail)
  refine (nearA_any (HS.out.below HE4.out) (HL.out.below HE4.out) (HM.out.below HE4.out)).mono ?_
  rintro e w5 ⟨v1, rfl, hN1, hb5⟩
  rw [← HNE.out]
  obtain ⟨⟨r1, r2⟩, hv, hr1⟩ := nears_row hN1
  obtain ⟨ln, hln⟩ : ∃ l, l = (if nearE S wh = 0 then nears S wh else []) := ⟨_, rfl⟩
  rw [← hln] at hv hr1
  subst hv
  have HLN := Lib.hid hln
  clear hln
  have HE5 := Lib.hid (ext_trans HE4.out hb5)
  have x3 := Ext2.blk hb5 X34.out
  have HR1 := Lib.hid hr1
  dsimp only
  clear q3c q3f hb5 hN1 hr1
  have q3c := cell_blk x3
  have q3f := frz_blk x3
  clear x3
  go_wp2_with (fail)
  refine (nearAR_any (HS.out.below HE5.out) (HL.out.below HE5.out)).mono ?_
  rintro e w6 ⟨v2, rfl, hN2, hb6⟩
  rw [← HNE.out]
  obtain ⟨⟨r3, r4⟩, hv, hr2⟩ := nears_row hN2
  rw [← HLN.out] at hv hr2
  subst hv
  have HE6 := Lib.hid (ext_trans HE5.out hb6)
  have HR16 := Lib.hid (HR1.out.below hb6); have HR2 := Lib.hid hr2
  dsimp only
  clear q3c q3f hb6 hN2 hr2
  go_wp2_with (fail)
  refine (nrs_any (s := ⟨r1, r2⟩) (t := ⟨r3, r4⟩) HR16.out HR2.out).mono ?_
  rintro e w7 ⟨rfl, hb7⟩
  rw [decide_eq_true rfl]
  have HE7 := Lib.hid (ext_trans HE6.out hb7)
  clear hb7
  go_wp2_with (fail)
  refine (awake_any (HM.out.below HE7.out)).mono ?_
  rintro e w8 ⟨rfl, hb8⟩
  go_wp2_with (fail)
  go_ret
  exact ⟨rfl, ext_trans HE7.out hb8⟩
end Go.Proofs.YtfpaihjcbpaneaaGreatDoor
