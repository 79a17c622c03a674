/-
  The law DecayKnown, walked.
-/
import Derived.Test.YtfjbgcaogffiaaaDRegC
import Derived.Test.YtfjbgcaogffiaaaDMovP
import Derived.Test.YtfjbgcaogffiaaaDOwnP
import Derived.Test.YtfjbgcaogffiaaaDGrowP
import Derived.Test.YtfjbgcaogffiaaaDAwake
import Derived.Test.YtfjbgcaogffiaaaDWalkA
namespace Go.Proofs.Ytfjbgcaogffiaaa
open Go.RowKit D
set_option linter.unusedVariables false
set_option linter.unusedSimpArgs false
attribute [local go_sem high] run_minI run_maxI
attribute [local go_sem] upon2 cls_cell cls_frozen forall_const exists_eq_left'
attribute [local go_sem] FirstUpon
theorem kn1 : strengthV exR exD = (⟨180, 320⟩, 0) := by kernel_rfl
theorem kn2 : strengthV exR ⟨50, 500, 0, 700⟩ = (⟨20, 1000⟩, 0) := by kernel_rfl
theorem kn3 : growV exR exD ⟨1000, 1200⟩ = (⟨1010, 1220⟩, 0) := by kernel_rfl
theorem kn4 : growV exR exD ⟨1000000, 1000000⟩ = (⟨1000000, 1000000⟩, 0) := by kernel_rfl
def knL (n : Nat) : Int := match n with | 0 => 999 | 1 => 1000 | _ => 20000
def knG (n : Nat) : Int := match n with | 0 => 0 | 1 => 1 | _ => 3
theorem kn5 (n : Nat) : gradeV exR (knL n) = (knG n, 0) := by
  match n with
  | 0 => show gradeV exR 999 = (0, 0); kernel_rfl
  | 1 => show gradeV exR 1000 = (1, 0); kernel_rfl
  | _ + 2 => show gradeV exR 20000 = (3, 0); kernel_rfl
theorem kn6 : levelsRes (exT []) = [⟨900, 1000⟩, ⟨910, 1020⟩, ⟨920, 1040⟩, ⟨930, 1060⟩] := by kernel_rfl
theorem kn6s : struckRes (exT []) = [] := by kernel_rfl
theorem kn7 : levelsRes (exT [⟨101, 0, 0⟩, ⟨103, 1, 0⟩]) = [⟨940, 989⟩, ⟨960, 999⟩, ⟨980, 1019⟩, ⟨1000, 1039⟩] := by kernel_rfl
theorem kn7s : struckRes (exT [⟨101, 0, 0⟩, ⟨103, 1, 0⟩]) = [] := by kernel_rfl
theorem kn7e : (checkTask (exT [⟨101, 0, 0⟩, ⟨103, 1, 0⟩])).2.2 = 0 := by kernel_rfl
theorem kn8 : lostOut (exT [⟨101, 0, 0⟩]) = ⟨103, -1⟩ := by kernel_rfl
theorem kn9 : movOut (exT []) 101 ⟨0, 0, 0, 0⟩ = ⟨-1, -1⟩ := by kernel_rfl
theorem kn9e : movE (exT []) 101 ⟨0, 0, 0, 0⟩ = 0 := by kernel_rfl
def knC (n : Nat) : List Int := match n with | 0 => [900, 910, 925, 944] | 1 => [900, 909, 925, 944] | _ => [900, 910, 929, 949]
def knO (n : Nat) : Int := match n with | 0 => -1 | 1 => 1 | _ => 3
theorem kn10 (n : Nat) : ownV (exT []) (knC n) = (knO n, 0) := by
  match n with
  | 0 => show ownV (exT []) [900, 910, 925, 944] = (-1, 0); kernel_rfl
  | 1 => show ownV (exT []) [900, 909, 925, 944] = (1, 0); kernel_rfl
  | _ + 2 => show ownV (exT []) [900, 910, 929, 949] = (3, 0); kernel_rfl
theorem nil_tests (w : World) : TestsS w ⟨none, 0⟩ [] := ⟨Nat.le_refl _, by simp, fun i j hi _ => absurd hi (Nat.not_lt_zero i)⟩
theorem knLv0 {w : World} {b1 b2 b3 : Nat} (h1 : w.heap[b1]? = some exB1) (h2 : w.heap[b2]? = some exB2) (h3 : w.heap[b3]? = some exB3) :
    Calls Try.prog 17 #[.agg #[.slice (some ⟨b1, 0, none⟩) 3 3, .slice (some ⟨b2, 0, none⟩) 2 2, .int .i64 50, .int .i64 10000, .int .i64 1000, .int .i64 5000, .int .i64 20000, .int .i64 1030, .int .i64 100, .slice (some ⟨b3, 0, none⟩) 3 3, .int .i64 900, .int .i64 1000, (.slice none 0 0)]] w fun e w' => (∃ s1 s2 : Sl, e = .returned (.tuple #[.slice s1.a 4 s1.cap, .slice s2.a 0 s2.cap, .int .i64 0]) ∧ SpansS w' s1 [⟨900, 1000⟩, ⟨910, 1020⟩, ⟨920, 1040⟩, ⟨930, 1060⟩]) ∧ Below w.heap.size w w' := by
  have h := levelsP_any (exTask_at (l := []) (st := ⟨none, 0⟩) h1 h2 h3 (nil_tests w))
  unfold LevelsOut at h
  rw [kn6, kn6s, ex3e] at h
  refine h.mono ?_
  rintro e w' ⟨⟨s1, s2, he, hs, _⟩, hb⟩
  exact ⟨⟨s1, s2, he, hs⟩, hb⟩
theorem knLv1 {w : World} {b1 b2 b3 bt : Nat} (h1 : w.heap[b1]? = some exB1) (h2 : w.heap[b2]? = some exB2) (h3 : w.heap[b3]? = some exB3) (ht : w.heap[bt]? = some (.cells #[.int .i64 101, .int .i64 0, .int .i64 0, .int .i64 103, .int .i64 1, .int .i64 0] 51 (0, 0))) :
    Calls Try.prog 17 #[.agg #[.slice (some ⟨b1, 0, none⟩) 3 3, .slice (some ⟨b2, 0, none⟩) 2 2, .int .i64 50, .int .i64 10000, .int .i64 1000, .int .i64 5000, .int .i64 20000, .int .i64 1030, .int .i64 100, .slice (some ⟨b3, 0, none⟩) 3 3, .int .i64 900, .int .i64 1000, (.slice (some ⟨bt, 0, none⟩) 2 2)]] w fun e w' => (∃ s1 s2 : Sl, e = .returned (.tuple #[.slice s1.a 4 s1.cap, .slice s2.a 0 s2.cap, .int .i64 0]) ∧ SpansS w' s1 [⟨940, 989⟩, ⟨960, 999⟩, ⟨980, 1019⟩, ⟨1000, 1039⟩]) ∧ Below w.heap.size w w' := by
  have h := levelsP_any (exTask_at (l := [⟨101, 0, 0⟩, ⟨103, 1, 0⟩]) (st := ⟨some ⟨bt, 0, none⟩, 2⟩) h1 h2 h3 (rows_blk ht (by omega) (by
    intro i j hi hj
    rcases (show i = 0 ∨ i = 1 by have : i < 2 := hi; omega) with rfl | rfl <;> rcases (by omega : j = 0 ∨ j = 1 ∨ j = 2) with rfl | rfl | rfl <;> rfl)))
  unfold LevelsOut at h
  rw [kn7, kn7s, kn7e] at h
  refine h.mono ?_
  rintro e w' ⟨⟨s1, s2, he, hs, _⟩, hb⟩
  exact ⟨⟨s1, s2, he, hs⟩, hb⟩
theorem knLo {w : World} {b1 b2 b3 bt : Nat} (h1 : w.heap[b1]? = some exB1) (h2 : w.heap[b2]? = some exB2) (h3 : w.heap[b3]? = some exB3) (ht : w.heap[bt]? = some (.cells #[.int .i64 101, .int .i64 0, .int .i64 0] 51 (0, 0))) :
    Calls Try.prog 31 #[.agg #[.slice (some ⟨b1, 0, none⟩) 3 3, .slice (some ⟨b2, 0, none⟩) 2 2, .int .i64 50, .int .i64 10000, .int .i64 1000, .int .i64 5000, .int .i64 20000, .int .i64 1030, .int .i64 100, .slice (some ⟨b3, 0, none⟩) 3 3, .int .i64 900, .int .i64 1000, (.slice (some ⟨bt, 0, none⟩) 1 1)]] w fun e w' => e = .returned (.tuple #[.agg #[.int .i64 103, .int .i64 (-1)], .int .i64 0]) ∧ Below w.heap.size w w' := by
  have h := lostP_any (exTask_at (l := [⟨101, 0, 0⟩]) (st := ⟨some ⟨bt, 0, none⟩, 1⟩) h1 h2 h3 (rows_blk ht (by omega) (by
    intro i j hi hj
    obtain rfl : i = 0 := by have : i < 1 := hi; omega
    rcases (by omega : j = 0 ∨ j = 1 ∨ j = 2) with rfl | rfl | rfl <;> rfl)))
  rw [kn8, ex1e] at h
  exact h
theorem knMo {w : World} {b1 b2 b3 : Nat} (h1 : w.heap[b1]? = some exB1) (h2 : w.heap[b2]? = some exB2) (h3 : w.heap[b3]? = some exB3) :
    Calls Try.prog 45 #[.agg #[.slice (some ⟨b1, 0, none⟩) 3 3, .slice (some ⟨b2, 0, none⟩) 2 2, .int .i64 50, .int .i64 10000, .int .i64 1000, .int .i64 5000, .int .i64 20000, .int .i64 1030, .int .i64 100, .slice (some ⟨b3, 0, none⟩) 3 3, .int .i64 900, .int .i64 1000, (.slice none 0 0)], .int .i64 101, .agg #[.int .i64 0, .int .i64 0, .int .i64 0, .int .i64 0]] w fun e w' => e = .returned (.tuple #[.agg #[.int .i64 (-1), .int .i64 (-1)], .int .i64 0]) ∧ Below w.heap.size w w' := by
  have h := movedP_any (f := 101) (d := ⟨0, 0, 0, 0⟩) (exTask_at (l := []) (st := ⟨none, 0⟩) h1 h2 h3 (nil_tests w))
  rw [kn9, kn9e] at h
  exact h
theorem knOw {w : World} {b1 b2 b3 bc n : Nat} (h1 : w.heap[b1]? = some exB1) (h2 : w.heap[b2]? = some exB2) (h3 : w.heap[b3]? = some exB3) (hc : IntsS w ⟨some ⟨bc, 0, none⟩, 4⟩ (knC n)) :
    Calls Try.prog 38 #[.agg #[.slice (some ⟨b1, 0, none⟩) 3 3, .slice (some ⟨b2, 0, none⟩) 2 2, .int .i64 50, .int .i64 10000, .int .i64 1000, .int .i64 5000, .int .i64 20000, .int .i64 1030, .int .i64 100, .slice (some ⟨b3, 0, none⟩) 3 3, .int .i64 900, .int .i64 1000, (.slice none 0 0)], .slice (some ⟨bc, 0, none⟩) 4 4] w fun e w' => e = .returned (.tuple #[.int .i64 (knO n), .int .i64 0]) ∧ Below w.heap.size w w' := by
  have h := ownP_any (exTask_at (l := []) (st := ⟨none, 0⟩) h1 h2 h3 (nil_tests w)) hc
  have hl : (knC n).length = 4 := by match n with | 0 | 1 | _ + 2 => rfl
  rw [kn10, hl] at h
  exact h
set_option maxRecDepth 100000 in
set_option maxHeartbeats 8000000 in
theorem lawKnown_any (w : World) : Calls Try.prog 16 #[] w fun e w' => e = .returned (.bool true) ∧ Below w.heap.size w w' := by
  have HSP : Hid (∀ (lo hi : Int) W, Calls Try.prog 25 #[.int .i64 lo, .int .i64 hi] W fun e w' => e = .returned (.agg #[.int .i64 lo, .int .i64 hi]) ∧ Below W.heap.size W w') := Lib.hid fun lo hi W => span_any lo hi W
  have HDY : Hid (∀ W, Calls Try.prog 48 #[] W fun e w' => e = .returned (.agg #[.int .i64 200, .int .i64 250, .int .i64 400, .int .i64 500]) ∧ Below W.heap.size W w') := Lib.hid fun W => dayL_any W
  go_enter Try.func16, Try.ntmps16
  go_wp2_with (fail)
  refine (ruleL_any _).mono ?_
  rintro e w1 ⟨⟨b1, b2, rfl, _, _, k1, k2⟩, hB1⟩
  go_wp2_with (fail)
  refine wp_name ?_
  intro w2 h2
  have hE2 : Ext2 w1 w2 := by rw [h2]; exact below_alloc' _ _
  have x1 : w2.heap[w1.heap.size]? = some (Obj.cells #[.slice (some ⟨b1, 0, none⟩) 3 3, .slice (some ⟨b2, 0, none⟩) 2 2, .int .i64 50, .int .i64 10000, .int .i64 1000, .int .i64 5000, .int .i64 20000, .int .i64 1030] 25) := by rw [h2]; repeat' (first | (with_reducible assumption) | (with_reducible refine blk_set_ne ?_ ?_) | (with_reducible exact blk_new _ _) | (with_reducible refine blk_new' _ _ (by first | (with_reducible rfl) | (simp; done) | (simp <;> omega))) | (with_reducible refine blk_alloc ?_ _) | (with_reducible refine blk_drew ?_) | (with_reducible refine blk_drewN ?_ _) | (with_reducible refine Ext2.blk (by assumption) ?_) | omega | (simp <;> omega) | exact blk_set (by assumption) _ _)
  have HX1 := Lib.hid x1
  have k1 := Ext2.blk hE2 k1; have k2 := Ext2.blk hE2 k2
  have hB2 := below_ext hB1 hE2
  have hR : ∀ W, Ext2 w2 W → RuleAt W exR ⟨some ⟨b1, 0, none⟩, 3⟩ ⟨some ⟨b2, 0, none⟩, 2⟩ := fun W hW => exR_at (Ext2.blk hW k1) (Ext2.blk hW k2)
  have HS1 : Hid (∀ W, Ext2 w2 W → Calls Try.prog 40 #[.agg #[.slice (some ⟨b1, 0, none⟩) 3 3, .slice (some ⟨b2, 0, none⟩) 2 2, .int .i64 50, .int .i64 10000, .int .i64 1000, .int .i64 5000, .int .i64 20000, .int .i64 1030], .agg #[.int .i64 200, .int .i64 250, .int .i64 400, .int .i64 500]] W fun e w' => e = .returned (.tuple #[.agg #[.int .i64 180, .int .i64 320], .int .i64 0]) ∧ Below W.heap.size W w') := Lib.hid fun W hW => by
    have h := StrengthP_any (d := exD) (hR W hW); rw [kn1] at h; exact h
  have HS2 : Hid (∀ W, Ext2 w2 W → Calls Try.prog 40 #[.agg #[.slice (some ⟨b1, 0, none⟩) 3 3, .slice (some ⟨b2, 0, none⟩) 2 2, .int .i64 50, .int .i64 10000, .int .i64 1000, .int .i64 5000, .int .i64 20000, .int .i64 1030], .agg #[.int .i64 50, .int .i64 500, .int .i64 0, .int .i64 700]] W fun e w' => e = .returned (.tuple #[.agg #[.int .i64 20, .int .i64 1000], .int .i64 0]) ∧ Below W.heap.size W w') := Lib.hid fun W hW => by
    have h := StrengthP_any (d := ⟨50, 500, 0, 700⟩) (hR W hW); rw [kn2] at h; exact h
  have HG1 : Hid (∀ W, Ext2 w2 W → Calls Try.prog 42 #[.agg #[.slice (some ⟨b1, 0, none⟩) 3 3, .slice (some ⟨b2, 0, none⟩) 2 2, .int .i64 50, .int .i64 10000, .int .i64 1000, .int .i64 5000, .int .i64 20000, .int .i64 1030], .agg #[.int .i64 200, .int .i64 250, .int .i64 400, .int .i64 500], .agg #[.int .i64 1000, .int .i64 1200]] W fun e w' => e = .returned (.tuple #[.agg #[.int .i64 1010, .int .i64 1220], .int .i64 0]) ∧ Below W.heap.size W w') := Lib.hid fun W hW => by
    have h := GrowP_any (d := exD) (n := ⟨1000, 1200⟩) (hR W hW); rw [kn3] at h; exact h
  have HG2 : Hid (∀ W, Ext2 w2 W → Calls Try.prog 42 #[.agg #[.slice (some ⟨b1, 0, none⟩) 3 3, .slice (some ⟨b2, 0, none⟩) 2 2, .int .i64 50, .int .i64 10000, .int .i64 1000, .int .i64 5000, .int .i64 20000, .int .i64 1030], .agg #[.int .i64 200, .int .i64 250, .int .i64 400, .int .i64 500], .agg #[.int .i64 1000000, .int .i64 1000000]] W fun e w' => e = .returned (.tuple #[.agg #[.int .i64 1000000, .int .i64 1000000], .int .i64 0]) ∧ Below W.heap.size W w') := Lib.hid fun W hW => by
    have h := GrowP_any (d := exD) (n := ⟨1000000, 1000000⟩) (hR W hW); rw [kn4] at h; exact h
  have HGR : Hid (∀ n W, Ext2 w2 W → Calls Try.prog 43 #[.agg #[.slice (some ⟨b1, 0, none⟩) 3 3, .slice (some ⟨b2, 0, none⟩) 2 2, .int .i64 50, .int .i64 10000, .int .i64 1000, .int .i64 5000, .int .i64 20000, .int .i64 1030], .int .i64 (knL n)] W fun e w' => e = .returned (.tuple #[.int .i64 (knG n), .int .i64 0]) ∧ Below W.heap.size W w') := Lib.hid fun n W hW => by
    have h := gradeP_any (hR W hW) (knL n); rw [kn5] at h; exact h
  clear h2 hR k1 k2 hB1 hE2
  have q1c := cell_blk x1
  have q1f := frz_blk x1
  refine region_ev [] [0, 1, 2, 3, 4, 5] [(6, 2, some 7)] [8] (by kernel_rfl) (by kernel_rfl) (by intro c a d v w h; cases d <;> exact h) ?_
  simp only [picks, List.drop_succ_cons, List.drop_zero]
  repeat (refine wpQ0_step (fun K hK => ?_); go_simp; (refine hK _ ?_; clear hK K))
  refine wpQ0_nil ?_
  repeat ((with_reducible refine wpQ2_step (fun K hK => ?_)); go_simp; first | ((with_reducible refine hK _ ?_); clear hK K) | (apply Exists.intro; refine ⟨fun x => ?_, hK _ ?_⟩; (first | (with_reducible exact HDY.out x.1) | (with_reducible exact HS1.out x.1 x.2)); clear hK K))
  refine wpQ2_nil ?_
  refine Events.fill1 (fun b => .pointer (some ⟨b, 0, none⟩)) (Obj.cells #[.int .i64 0, .int .i64 0] 28) (Obj.cells #[.int .i64 180, .int .i64 320] 28) ⟨_, rfl, rfl, rfl, fun W => by kernel_rfl⟩ ⟨_, rfl, rfl, rfl, fun b W hb => ?_⟩ fun c2 w3 hc2 hg3 nc2 => ?_
  · have hbc := cell_blk hb; have hbf := frz_blk hb; go_simp; exact turn_two hb _ _
  simp only [picks, List.drop_succ_cons, List.drop_zero]
  have x1 := Ext2.blk hg3 x1
  clear q1c q1f HS1
  have q1c := cell_blk x1
  have q1f := frz_blk x1
  go_wp2_with (fail)
  have HS2 := hid_ext2 HS2 hg3
  refine region_ev [] [0, 1, 2, 3, 4, 5, 6, 7] [(8, 4, some 9)] [10] (by kernel_rfl) (by kernel_rfl) (by intro c a d v w h; cases d <;> exact h) ?_
  simp only [picks, List.drop_succ_cons, List.drop_zero]
  repeat (refine wpQ0_step (fun K hK => ?_); go_simp; (refine hK _ ?_; clear hK K))
  refine wpQ0_nil ?_
  repeat ((with_reducible refine wpQ2_step (fun K hK => ?_)); go_simp; first | ((with_reducible refine hK _ ?_); clear hK K) | (apply Exists.intro; refine ⟨fun x => ?_, hK _ ?_⟩; (first | (with_reducible exact HSP.out _ _ x.1) | (with_reducible exact HS2.out x.1 x.2)); clear hK K))
  refine wpQ2_nil ?_
  refine Events.fill1 (fun b => .pointer (some ⟨b, 0, none⟩)) (Obj.cells #[.int .i64 0, .int .i64 0] 28) (Obj.cells #[.int .i64 20, .int .i64 1000] 28) ⟨_, rfl, rfl, rfl, fun W => by kernel_rfl⟩ ⟨_, rfl, rfl, rfl, fun b W hb => ?_⟩ fun c4 w4 hc4 hg4 nc4 => ?_
  · have hbc := cell_blk hb; have hbf := frz_blk hb; go_simp; exact turn_two hb _ _
  simp only [picks, List.drop_succ_cons, List.drop_zero]
  have x1 := Ext2.blk hg4 x1
  have hE4 := ext_trans hg3 hg4
  have nc2 := Ext2.blk hg4 nc2
  clear q1c q1f HS2 hg3 hg4
  have q1c := cell_blk x1
  have q1f := frz_blk x1
  go_wp2_with (fail)
  have HG1 := hid_ext2 HG1 hE4
  refine region_ev [] [0, 1, 2, 3, 4, 5, 6] [(7, 6, some 8)] [9] (by kernel_rfl) (by kernel_rfl) (by intro c a d v w h; cases d <;> exact h) ?_
  simp only [picks, List.drop_succ_cons, List.drop_zero]
  repeat (refine wpQ0_step (fun K hK => ?_); go_simp; (refine hK _ ?_; clear hK K))
  refine wpQ0_nil ?_
  repeat ((with_reducible refine wpQ2_step (fun K hK => ?_)); go_simp; first | ((with_reducible refine hK _ ?_); clear hK K) | (apply Exists.intro; refine ⟨fun x => ?_, hK _ ?_⟩; (first | (with_reducible exact HDY.out x.1) | (with_reducible exact HSP.out _ _ x.1) | (with_reducible exact HG1.out x.1 x.2)); clear hK K))
  refine wpQ2_nil ?_
  refine Events.fill1 (fun b => .pointer (some ⟨b, 0, none⟩)) (Obj.cells #[.int .i64 0, .int .i64 0] 28) (Obj.cells #[.int .i64 1010, .int .i64 1220] 28) ⟨_, rfl, rfl, rfl, fun W => by kernel_rfl⟩ ⟨_, rfl, rfl, rfl, fun b W hb => ?_⟩ fun c6 w5 hc6 hg5 nc6 => ?_
  · have hbc := cell_blk hb; have hbf := frz_blk hb; go_simp; exact turn_two hb _ _
  simp only [picks, List.drop_succ_cons, List.drop_zero]
  have x1 := Ext2.blk hg5 x1
  have hE5 := ext_trans hE4 hg5
  have nc2 := Ext2.blk hg5 nc2; have nc4 := Ext2.blk hg5 nc4
  clear q1c q1f HG1 hg5
  have q1c := cell_blk x1
  have q1f := frz_blk x1
  go_wp2_with (fail)
  have HG2 := hid_ext2 HG2 hE5
  refine region_ev [] [0, 1, 2, 3, 4, 5, 6] [(7, 8, some 8)] [9] (by kernel_rfl) (by kernel_rfl) (by intro c a d v w h; cases d <;> exact h) ?_
  simp only [picks, List.drop_succ_cons, List.drop_zero]
  repeat (refine wpQ0_step (fun K hK => ?_); go_simp; (refine hK _ ?_; clear hK K))
  refine wpQ0_nil ?_
  repeat ((with_reducible refine wpQ2_step (fun K hK => ?_)); go_simp; first | ((with_reducible refine hK _ ?_); clear hK K) | (apply Exists.intro; refine ⟨fun x => ?_, hK _ ?_⟩; (first | (with_reducible exact HDY.out x.1) | (with_reducible exact HSP.out _ _ x.1) | (with_reducible exact HG2.out x.1 x.2)); clear hK K))
  refine wpQ2_nil ?_
  refine Events.fill1 (fun b => .pointer (some ⟨b, 0, none⟩)) (Obj.cells #[.int .i64 0, .int .i64 0] 28) (Obj.cells #[.int .i64 1000000, .int .i64 1000000] 28) ⟨_, rfl, rfl, rfl, fun W => by kernel_rfl⟩ ⟨_, rfl, rfl, rfl, fun b W hb => ?_⟩ fun c8 w6 hc8 hg6 nc8 => ?_
  · have hbc := cell_blk hb; have hbf := frz_blk hb; go_simp; exact turn_two hb _ _
  simp only [picks, List.drop_succ_cons, List.drop_zero]
  have x1 := Ext2.blk hg6 x1
  have hE6 := ext_trans hE5 hg6
  have nc2 := Ext2.blk hg6 nc2; have nc4 := Ext2.blk hg6 nc4; have nc6 := Ext2.blk hg6 nc6
  clear q1c q1f HG2 hg6 hE4 hE5 x1
  have p2c := cell_blk nc2
  have p2f := frz_blk nc2
  have p4c := cell_blk nc4
  have p4f := frz_blk nc4
  have p6c := cell_blk nc6
  have p6f := frz_blk nc6
  have p8c := cell_blk nc8
  have p8f := frz_blk nc8
  go_wp2_with (fail)
  refine region_ev [] [0, 1, 2, 3, 4, 5, 6, 7, 8, 9, 10, 11, 12, 13, 14, 15, 16, 17, 18, 19, 20, 21, 22, 23, 24, 25, 26, 27, 28, 29, 30, 31, 32, 33] [] [] (by kernel_rfl) (by kernel_rfl) (by intro c a d v w h; cases d <;> exact h) ?_
  simp only [picks, List.drop_succ_cons, List.drop_zero]
  repeat (refine wpQ0_step (fun K hK => ?_); go_simp; (refine hK _ ?_; clear hK K))
  refine wpQ0_nil ?_
  repeat ((with_reducible refine wpQ2_step (fun K hK => ?_)); go_simp; first | ((with_reducible refine hK _ ?_); clear hK K) | (apply Exists.intro; refine ⟨fun x => ?_, hK _ ?_⟩; ((with_reducible exact HSP.out _ _ x.1)); clear hK K))
  refine wpQ2_nil ?_
  refine Events.none_ fun w7 hg7 => ?_
  simp only [picks, List.drop_succ_cons, List.drop_zero]
  have hE7 := ext_trans hE6 hg7
  clear p2c p2f p4c p4f p6c p6f p8c p8f nc2 nc4 nc6 nc8 hE6
  go_wp2_with (fail)
  refine wp_name ?_
  intro w8 h8
  have hE8 : Ext2 w7 w8 := by rw [h8]; repeat' (first | exact Below.refl _ _ | assumption | refine below_drewN ?_ _ | refine Below.drew ?_ | refine Below.alloc ?_ (by first | assumption | omega | (simp <;> omega)) _ | refine Below.setCell ?_ (by first | assumption | omega | (simp <;> omega)) _ | refine Ext2.on (by assumption) ?_)
  have y10 : w8.heap[w7.heap.size]? = some (.cells #[.int .i64 999, .int .i64 1000, .int .i64 20000] 3 (0, 0)) := by rw [h8]; repeat' (first | (with_reducible assumption) | (with_reducible refine blk_set_ne ?_ ?_) | (with_reducible exact blk_new _ _) | (with_reducible refine blk_new' _ _ (by first | (with_reducible rfl) | (simp; done) | (simp <;> omega))) | (with_reducible refine blk_alloc ?_ _) | (with_reducible refine blk_drew ?_) | (with_reducible refine blk_drewN ?_ _) | (with_reducible refine Ext2.blk (by assumption) ?_) | omega | (simp <;> omega) | exact blk_set (by assumption) _ _)
  have y11 : w8.heap[w7.heap.size + 1]? = some (.cells #[.int .i64 0, .int .i64 1, .int .i64 3] 3 (0, 0)) := by rw [h8]; repeat' (first | (with_reducible assumption) | (with_reducible refine blk_set_ne ?_ ?_) | (with_reducible exact blk_new _ _) | (with_reducible refine blk_new' _ _ (by first | (with_reducible rfl) | (simp; done) | (simp <;> omega))) | (with_reducible refine blk_alloc ?_ _) | (with_reducible refine blk_drew ?_) | (with_reducible refine blk_drewN ?_ _) | (with_reducible refine Ext2.blk (by assumption) ?_) | omega | (simp <;> omega) | exact blk_set (by assumption) _ _)
  have HY10 := Lib.hid y10; have HY11 := Lib.hid y11
  have hE28 := ext_trans hE7 hE8
  clear h8 y10 y11 hE8
  go_loopw [12] (fun i wr => ∃ n : Nat, i = .int .i64 (n : Int) ∧ n ≤ 3 ∧ Ext2 w8 wr) (fun i _ => 3 - (intOf i).toNat)
  case atStart => exact ⟨0, rfl, by omega, Below.refl _ _⟩
  case round =>
    obtain ⟨n, rfl, hn, hE⟩ := hrel
    have hEr : Ext2 w8 wr := hE
    have hE2r := ext_trans hE28 hEr
    clear hE
    have x1 := Ext2.blk hE2r HX1.out
    by_cases hlt : n < 3
    · go_light
      have c10 : wr.cell? ⟨w7.heap.size, n, none⟩ = some (.int .i64 (knL n)) := by
        rw [cell_blk (Ext2.blk hEr HY10.out)]
        rcases (show n = 0 ∨ n = 1 ∨ n = 2 by omega) with rfl | rfl | rfl <;> rfl
      have c11 : wr.cell? ⟨w7.heap.size + 1, n, none⟩ = some (.int .i64 (knG n)) := by
        rw [cell_blk (Ext2.blk hEr HY11.out)]
        rcases (show n = 0 ∨ n = 1 ∨ n = 2 by omega) with rfl | rfl | rfl <;> rfl
      have r0 : (0 : Int) ≤ (n : Int) := by omega
      have r2 : (n : Int) < 3 := by omega
      have w3' : IntKind.i64.wrap ((n : Int) + 1) = (n : Int) + 1 := IntWalk.i64_in _ (by omega)
      have ne : (knG n != knG n) = false := by simp
      have HGn : Hid (∀ W, Ext2 wr W → _) := Lib.hid fun W hW => HGR.out n W (ext_trans hE2r hW)
      have q1c := cell_blk x1
      have q1f := frz_blk x1
      go_wp2_with (fail)
      refine region_ev [] [0, 1, 2, 3, 4, 5, 6, 7, 8, 9, 10] [] [] (by kernel_rfl) (by kernel_rfl) (by intro c a d v w h; cases d <;> exact h) ?_
      simp only [picks, List.drop_succ_cons, List.drop_zero]
      repeat (refine wpQ0_step (fun K hK => ?_); go_simp; (refine hK _ ?_; clear hK K))
      refine wpQ0_nil ?_
      repeat ((with_reducible refine wpQ2_step (fun K hK => ?_)); go_simp; first | ((with_reducible refine hK _ ?_); clear hK K) | (apply Exists.intro; refine ⟨fun x => ?_, hK _ ?_⟩; ((with_reducible exact HGn.out x.1 x.2)); clear hK K))
      refine wpQ2_nil ?_
      refine Events.none_ fun w9 hg9 => ?_
      simp only [picks, List.drop_succ_cons, List.drop_zero]
      have c11 := (Below.cell hg9 (cell_lt c11)).trans c11
      have hE9 := ext_trans hEr hg9
      clear q1c q1f c10 HGn
      clear hg9
      go_wp2_with (fail)
      go_roundw
      case rel => exact ⟨n + 1, by go_num, by omega, hE9⟩
      case measure => simp [intOf]; omega
    · obtain rfl : n = 3 := by omega
      have hBr := below_ext hB2 hE2r
      clear x1
      go_wp2_with (fail)
      refine (taskL_any _).mono ?_
      rintro e w11 ⟨⟨t1, t2, t3, rfl, k1, k2, k3⟩, hb11⟩
      have hB11 := below_ext hBr hb11
      have HC := Lib.hid (knLv0 k1 k2 k3)
      clear k1 k2 k3 hb11
      go_wp2_with (fail)
      refine HC.out.mono ?_
      rintro e w12 ⟨⟨s1, s2, rfl, hs1⟩, hb12⟩
      have hB12 := below_ext hB11 hb12
      have HS1 := Lib.hid hs1
      clear HC hb12 hs1
      go_wp2_with (fail)
      refine (taskL_any _).mono ?_
      rintro e w13 ⟨⟨t4, t5, t6, rfl, k1, k2, k3⟩, hb13⟩
      have k4 : w13.heap[w12.heap.size]? = some (.cells #[.int .i64 101, .int .i64 0, .int .i64 0, .int .i64 103, .int .i64 1, .int .i64 0] 51 (0, 0)) := below_blk hb13 (blk_new _ _) (by simp)
      have hE13 : Ext2 w12 w13 := (below_alloc' _ _).trans (hb13.mono (by simp))
      have HC := Lib.hid (knLv1 k1 k2 k3 k4)
      clear k1 k2 k3 k4 hb13
      go_wp2_with (fail)
      refine HC.out.mono ?_
      rintro e w14 ⟨⟨s3, s4, rfl, hs3⟩, hb14⟩
      have hE14 : Ext2 w12 w14 := hE13.trans (hb14.mono hE13.size)
      have HS1 := Lib.hid (HS1.out.below hE14)
      have HS3 := Lib.hid hs3
      have hB14 := below_ext hB12 hE14
      clear hs3 hb14 hE13 HC hE14
      go_wp2_with (fail)
      (with_reducible refine (HSP.out _ _ _).mono ?_)
      rintro e va0 ⟨rfl, hb⟩
      have hEva0 : Ext2 w14 va0 := hb
      clear hb
      go_wp2_with (fail)
      (with_reducible refine (HSP.out _ _ _).mono ?_)
      rintro e va1 ⟨rfl, hb⟩
      have hEva1 : Ext2 w14 va1 := ext_trans hEva0 hb
      clear hb
      go_wp2_with (fail)
      (with_reducible refine (HSP.out _ _ _).mono ?_)
      rintro e va2 ⟨rfl, hb⟩
      have hEva2 : Ext2 w14 va2 := ext_trans hEva1 hb
      clear hb
      go_wp2_with (fail)
      (with_reducible refine (HSP.out _ _ _).mono ?_)
      rintro e va3 ⟨rfl, hb⟩
      have hEva3 : Ext2 w14 va3 := ext_trans hEva2 hb
      clear hb
      go_wp2_with (fail)
      refine calls_name ?_
      intro va4 h4
      have n4 : va4.heap[va3.heap.size]? = some (.cells #[.int .i64 900, .int .i64 1000, .int .i64 910, .int .i64 1020, .int .i64 920, .int .i64 1040, .int .i64 930, .int .i64 1060] 28 (0, 0)) := by rw [h4]; exact blk_new _ _
      have hEva4 : Ext2 w14 va4 := by rw [h4]; exact ext_trans hEva3 (below_alloc' _ _)
      have hSS : Calls Try.prog 19 #[.slice s1.a 4 s1.cap, .slice (some ⟨va3.heap.size, 0, none⟩) 4 4] va4 fun e w' => e = .returned (.bool true) ∧ Below va4.heap.size va4 w' := by
        have h := spans_any (HS1.out.below hEva4) (m := [⟨900, 1000⟩, ⟨910, 1020⟩, ⟨920, 1040⟩, ⟨930, 1060⟩]) (t := ⟨some ⟨va3.heap.size, 0, none⟩, 4⟩) (rows_blk n4 (by omega) (by
          intro i j hi hj
          rcases (show i = 0 ∨ i = 1 ∨ i = 2 ∨ i = 3 by have : i < 4 := hi; omega) with rfl | rfl | rfl | rfl <;> rcases (by omega : j = 0 ∨ j = 1) with rfl | rfl <;> rfl))
        refine h.mono ?_
        rintro e w' ⟨rfl, q, rfl⟩
        exact ⟨by simp, below_drewN (Below.refl _ _) q⟩
      have HSS := Lib.hid hSS
      clear hSS n4 h4
      (with_reducible refine HSS.out.mono ?_)
      rintro e va5 ⟨rfl, hb⟩
      have hEva5 : Ext2 w14 va5 := ext_trans hEva4 hb
      clear hb HSS hEva0 hEva1 hEva2 hEva3 hEva4
      go_wp2_with (fail)
      have HS3 := Lib.hid (HS3.out.below hEva5)
      have hBa := below_ext hB14 hEva5
      clear HS1
      (with_reducible refine (HSP.out _ _ _).mono ?_)
      rintro e vb0 ⟨rfl, hb⟩
      have hEvb0 : Ext2 va5 vb0 := hb
      clear hb
      go_wp2_with (fail)
      (with_reducible refine (HSP.out _ _ _).mono ?_)
      rintro e vb1 ⟨rfl, hb⟩
      have hEvb1 : Ext2 va5 vb1 := ext_trans hEvb0 hb
      clear hb
      go_wp2_with (fail)
      (with_reducible refine (HSP.out _ _ _).mono ?_)
      rintro e vb2 ⟨rfl, hb⟩
      have hEvb2 : Ext2 va5 vb2 := ext_trans hEvb1 hb
      clear hb
      go_wp2_with (fail)
      (with_reducible refine (HSP.out _ _ _).mono ?_)
      rintro e vb3 ⟨rfl, hb⟩
      have hEvb3 : Ext2 va5 vb3 := ext_trans hEvb2 hb
      clear hb
      go_wp2_with (fail)
      refine calls_name ?_
      intro vb4 h4
      have n4 : vb4.heap[vb3.heap.size]? = some (.cells #[.int .i64 940, .int .i64 989, .int .i64 960, .int .i64 999, .int .i64 980, .int .i64 1019, .int .i64 1000, .int .i64 1039] 28 (0, 0)) := by rw [h4]; exact blk_new _ _
      have hEvb4 : Ext2 va5 vb4 := by rw [h4]; exact ext_trans hEvb3 (below_alloc' _ _)
      have hSS : Calls Try.prog 19 #[.slice s3.a 4 s3.cap, .slice (some ⟨vb3.heap.size, 0, none⟩) 4 4] vb4 fun e w' => e = .returned (.bool true) ∧ Below vb4.heap.size vb4 w' := by
        have h := spans_any (HS3.out.below hEvb4) (m := [⟨940, 989⟩, ⟨960, 999⟩, ⟨980, 1019⟩, ⟨1000, 1039⟩]) (t := ⟨some ⟨vb3.heap.size, 0, none⟩, 4⟩) (rows_blk n4 (by omega) (by
          intro i j hi hj
          rcases (show i = 0 ∨ i = 1 ∨ i = 2 ∨ i = 3 by have : i < 4 := hi; omega) with rfl | rfl | rfl | rfl <;> rcases (by omega : j = 0 ∨ j = 1) with rfl | rfl <;> rfl))
        refine h.mono ?_
        rintro e w' ⟨rfl, q, rfl⟩
        exact ⟨by simp, below_drewN (Below.refl _ _) q⟩
      have HSS := Lib.hid hSS
      clear hSS n4 h4
      (with_reducible refine HSS.out.mono ?_)
      rintro e vb5 ⟨rfl, hb⟩
      have hEvb5 : Ext2 va5 vb5 := ext_trans hEvb4 hb
      clear hb HSS hEvb0 hEvb1 hEvb2 hEvb3 hEvb4
      go_wp2_with (fail)
      have hBb := below_ext hBa hEvb5
      clear HS3 hEva5 hEvb5 hBa hB14
      refine (taskL_any _).mono ?_
      rintro e w20 ⟨⟨t7, t8, t9, rfl, k1, k2, k3⟩, hb20⟩
      have k4 : w20.heap[vb5.heap.size]? = some (.cells #[.int .i64 101, .int .i64 0, .int .i64 0] 51 (0, 0)) := below_blk hb20 (blk_new _ _) (by simp)
      have hE20 : Ext2 vb5 w20 := (below_alloc' _ _).trans (hb20.mono (by simp))
      have HC := Lib.hid (knLo k1 k2 k3 k4)
      clear k1 k2 k3 k4 hb20
      go_wp2_with (fail)
      refine HC.out.mono ?_
      rintro e w21 ⟨rfl, hb21⟩
      have hE21 : Ext2 vb5 w21 := hE20.trans (hb21.mono hE20.size)
      have hB21 := below_ext hBb hE21
      clear hb21 hE20 HC hE21
      go_wp2_with (fail)
      refine calls_name ?_
      intro w22 h22
      have z19 : w22.heap[w21.heap.size]? = some (Obj.cells #[.int .i64 103, .int .i64 (-1)] 28) := by rw [h22]; repeat' (first | (with_reducible assumption) | (with_reducible refine blk_set_ne ?_ ?_) | (with_reducible exact blk_new _ _) | (with_reducible refine blk_new' _ _ (by first | (with_reducible rfl) | (simp; done) | (simp <;> omega))) | (with_reducible refine blk_alloc ?_ _) | (with_reducible refine blk_drew ?_) | (with_reducible refine blk_drewN ?_ _) | (with_reducible refine Ext2.blk (by assumption) ?_) | omega | (simp <;> omega) | exact blk_set (by assumption) _ _)
      have hE22 : Ext2 w21 w22 := by rw [h22]; exact below_alloc' _ _
      have hB22 := below_ext hB21 hE22
      clear h22 hE22
      refine (taskL_any _).mono ?_
      rintro e w23 ⟨⟨t10, t11, t12, rfl, k1, k2, k3⟩, hb23⟩
      have hB23 := below_ext hB22 hb23
      have z19 := Ext2.blk hb23 z19
      have HC := Lib.hid (knMo k1 k2 k3)
      clear k1 k2 k3 hb23
      go_wp2_with (fail)
      refine HC.out.mono ?_
      rintro e w24 ⟨rfl, hb24⟩
      have hB24 := below_ext hB23 hb24
      have z19 := Ext2.blk hb24 z19
      clear hb24 HC hB23 hB22
      go_wp2_with (fail)
      refine wp_name ?_
      intro w25 h25
      have hE25 : Ext2 w24 w25 := by rw [h25]; exact below_alloc' _ _
      have z20 : w25.heap[w24.heap.size]? = some (Obj.cells #[.int .i64 (-1), .int .i64 (-1)] 28) := by rw [h25]; repeat' (first | (with_reducible assumption) | (with_reducible refine blk_set_ne ?_ ?_) | (with_reducible exact blk_new _ _) | (with_reducible refine blk_new' _ _ (by first | (with_reducible rfl) | (simp; done) | (simp <;> omega))) | (with_reducible refine blk_alloc ?_ _) | (with_reducible refine blk_drew ?_) | (with_reducible refine blk_drewN ?_ _) | (with_reducible refine Ext2.blk (by assumption) ?_) | omega | (simp <;> omega) | exact blk_set (by assumption) _ _)
      have z19 := Ext2.blk hE25 z19
      have hB25 := below_ext hB24 hE25
      clear h25 hE25
      have q19c := cell_blk z19
      have q19f := frz_blk z19
      have q20c := cell_blk z20
      have q20f := frz_blk z20
      refine region_ev [] [0, 1, 2, 3, 4, 5, 6, 7, 8, 9, 10, 11, 12, 13, 14, 15] [] [] (by kernel_rfl) (by kernel_rfl) (by intro c a d v w h; cases d <;> exact h) ?_
      simp only [picks, List.drop_succ_cons, List.drop_zero]
      repeat (refine wpQ0_step (fun K hK => ?_); go_simp; (refine hK _ ?_; clear hK K))
      refine wpQ0_nil ?_
      repeat ((with_reducible refine wpQ2_step (fun K hK => ?_)); go_simp; first | ((with_reducible refine hK _ ?_); clear hK K) | (apply Exists.intro; refine ⟨fun x => ?_, hK _ ?_⟩; ((with_reducible exact HSP.out _ _ x.1)); clear hK K))
      refine wpQ2_nil ?_
      refine Events.none_ fun w26 hg26 => ?_
      simp only [picks, List.drop_succ_cons, List.drop_zero]
      have hB26 := below_ext hB25 hg26
      clear q19c q19f q20c q20f z19 z20 hg26
      go_wp2_with (fail)
      refine wp_name ?_
      intro w27 h27
      have a0 : w27.heap[w26.heap.size]? = some (.cells #[.int .i64 900, .int .i64 910, .int .i64 925, .int .i64 944] 3 (0, 0)) := by rw [h27]; repeat' (first | (with_reducible assumption) | (with_reducible refine blk_set_ne ?_ ?_) | (with_reducible exact blk_new _ _) | (with_reducible refine blk_new' _ _ (by first | (with_reducible rfl) | (simp; done) | (simp <;> omega))) | (with_reducible refine blk_alloc ?_ _) | (with_reducible refine blk_drew ?_) | (with_reducible refine blk_drewN ?_ _) | (with_reducible refine Ext2.blk (by assumption) ?_) | omega | (simp <;> omega) | exact blk_set (by assumption) _ _)
      have a1 : w27.heap[w26.heap.size + 1]? = some (.cells #[.int .i64 900, .int .i64 909, .int .i64 925, .int .i64 944] 3 (0, 0)) := by rw [h27]; repeat' (first | (with_reducible assumption) | (with_reducible refine blk_set_ne ?_ ?_) | (with_reducible exact blk_new _ _) | (with_reducible refine blk_new' _ _ (by first | (with_reducible rfl) | (simp; done) | (simp <;> omega))) | (with_reducible refine blk_alloc ?_ _) | (with_reducible refine blk_drew ?_) | (with_reducible refine blk_drewN ?_ _) | (with_reducible refine Ext2.blk (by assumption) ?_) | omega | (simp <;> omega) | exact blk_set (by assumption) _ _)
      have a2 : w27.heap[w26.heap.size + 1 + 1]? = some (.cells #[.int .i64 900, .int .i64 910, .int .i64 929, .int .i64 949] 3 (0, 0)) := by rw [h27]; repeat' (first | (with_reducible assumption) | (with_reducible refine blk_set_ne ?_ ?_) | (with_reducible exact blk_new _ _) | (with_reducible refine blk_new' _ _ (by first | (with_reducible rfl) | (simp; done) | (simp <;> omega))) | (with_reducible refine blk_alloc ?_ _) | (with_reducible refine blk_drew ?_) | (with_reducible refine blk_drewN ?_ _) | (with_reducible refine Ext2.blk (by assumption) ?_) | omega | (simp <;> omega) | exact blk_set (by assumption) _ _)
      have a3 : w27.heap[w26.heap.size + 1 + 1 + 1]? = some (.cells #[.slice (some ⟨w26.heap.size, 0, none⟩) 4 4, .slice (some ⟨w26.heap.size + 1, 0, none⟩) 4 4, .slice (some ⟨w26.heap.size + 1 + 1, 0, none⟩) 4 4] 44 (0, 0)) := by rw [h27]; repeat' (first | (with_reducible assumption) | (with_reducible refine blk_set_ne ?_ ?_) | (with_reducible exact blk_new _ _) | (with_reducible refine blk_new' _ _ (by first | (with_reducible rfl) | (simp; done) | (simp <;> omega))) | (with_reducible refine blk_alloc ?_ _) | (with_reducible refine blk_drew ?_) | (with_reducible refine blk_drewN ?_ _) | (with_reducible refine Ext2.blk (by assumption) ?_) | omega | (simp <;> omega) | exact blk_set (by assumption) _ _)
      have a4 : w27.heap[w26.heap.size + 1 + 1 + 1 + 1]? = some (.cells #[.int .i64 (-1), .int .i64 1, .int .i64 3] 3 (0, 0)) := by rw [h27]; repeat' (first | (with_reducible assumption) | (with_reducible refine blk_set_ne ?_ ?_) | (with_reducible exact blk_new _ _) | (with_reducible refine blk_new' _ _ (by first | (with_reducible rfl) | (simp; done) | (simp <;> omega))) | (with_reducible refine blk_alloc ?_ _) | (with_reducible refine blk_drew ?_) | (with_reducible refine blk_drewN ?_ _) | (with_reducible refine Ext2.blk (by assumption) ?_) | omega | (simp <;> omega) | exact blk_set (by assumption) _ _)
      have hE27 : Ext2 w26 w27 := by rw [h27]; repeat' (first | exact Below.refl _ _ | assumption | refine below_drewN ?_ _ | refine Below.drew ?_ | refine Below.alloc ?_ (by first | assumption | omega | (simp <;> omega)) _ | refine Below.setCell ?_ (by first | assumption | omega | (simp <;> omega)) _ | refine Ext2.on (by assumption) ?_)
      have hB27 := below_ext hB26 hE27
      have A0 := Lib.hid a0; have A1 := Lib.hid a1; have A2 := Lib.hid a2; have A3 := Lib.hid a3; have A4 := Lib.hid a4
      clear h27 a0 a1 a2 a3 a4 hE27
      go_loopw [23] (fun i wr => ∃ n : Nat, i = .int .i64 (n : Int) ∧ n ≤ 3 ∧ Ext2 w27 wr) (fun i _ => 3 - (intOf i).toNat)
      case atStart => exact ⟨0, rfl, by omega, Below.refl _ _⟩
      case round =>
        obtain ⟨n, rfl, hn, hE⟩ := hrel
        have hEr : Ext2 w27 wr := hE
        clear hE
        by_cases hlt : n < 3
        · go_light
          have hci : ∃ bn, wr.cell? ⟨w26.heap.size + 1 + 1 + 1, n, none⟩ = some (.slice (some ⟨bn, 0, none⟩) 4 4) ∧ ∀ W, Ext2 wr W → IntsS W ⟨some ⟨bn, 0, none⟩, 4⟩ (knC n) := by
            rw [cell_blk (Ext2.blk hEr A3.out)]
            rcases (show n = 0 ∨ n = 1 ∨ n = 2 by omega) with rfl | rfl | rfl
            · exact ⟨_, rfl, fun W hW => rows_blk (Ext2.blk (ext_trans hEr hW) A0.out) (by omega) (by
                intro i j hi hj
                obtain rfl : j = 0 := by omega
                rcases (show i = 0 ∨ i = 1 ∨ i = 2 ∨ i = 3 by have : i < 4 := hi; omega) with rfl | rfl | rfl | rfl <;> rfl)⟩
            · exact ⟨_, rfl, fun W hW => rows_blk (Ext2.blk (ext_trans hEr hW) A1.out) (by omega) (by
                intro i j hi hj
                obtain rfl : j = 0 := by omega
                rcases (show i = 0 ∨ i = 1 ∨ i = 2 ∨ i = 3 by have : i < 4 := hi; omega) with rfl | rfl | rfl | rfl <;> rfl)⟩
            · exact ⟨_, rfl, fun W hW => rows_blk (Ext2.blk (ext_trans hEr hW) A2.out) (by omega) (by
                intro i j hi hj
                obtain rfl : j = 0 := by omega
                rcases (show i = 0 ∨ i = 1 ∨ i = 2 ∨ i = 3 by have : i < 4 := hi; omega) with rfl | rfl | rfl | rfl <;> rfl)⟩
          obtain ⟨bn, c21, hci⟩ := hci
          have HCI := Lib.hid hci
          have c22 : wr.cell? ⟨w26.heap.size + 1 + 1 + 1 + 1, n, none⟩ = some (.int .i64 (knO n)) := by
            rw [cell_blk (Ext2.blk hEr A4.out)]
            rcases (show n = 0 ∨ n = 1 ∨ n = 2 by omega) with rfl | rfl | rfl <;> rfl
          have r0 : (0 : Int) ≤ (n : Int) := by omega
          have r2 : (n : Int) < 3 := by omega
          have w3' : IntKind.i64.wrap ((n : Int) + 1) = (n : Int) + 1 := IntWalk.i64_in _ (by omega)
          have ne : (knO n != knO n) = false := by simp
          clear hci
          go_wp2_with (fail)
          refine region_pair [1, 2, 3] 0 4 [⟨[], [], [5, 6]⟩, ⟨[7, 8], [], [9, 10]⟩] (by kernel_rfl) (by kernel_rfl) (by intro c a d v w h; cases d <;> exact h) ?_
          simp only [picks, List.drop_succ_cons, List.drop_zero]
          repeat ((with_reducible refine wpQ0_step (fun K hK => ?_)); go_simp; ((with_reducible refine hK _ ?_); clear hK K))
          refine wpQ0_nil ?_
          intro w29 hEo
          have hEo : Ext2 wr w29 := hEo
          have c21 := (Below.cell hEo (cell_lt c21)).trans c21
          refine ⟨?_, ?_⟩
          · refine wpTl_cons ?_
            go_wp2_with (fail)
            refine (taskL_any _).mono ?_
            rintro e w28 ⟨⟨u1, u2, u3, rfl, k1, k2, k3⟩, hb28⟩
            have hEo := ext_trans hEo hb28
            have c21 := (Below.cell hb28 (cell_lt c21)).trans c21
            clear hb28
            go_wp2_with (fail)
            refine wpTl_cons ?_
            go_wp2_with (fail)
            refine wpTl_nil ?_
            refine wpSt_cons ?_
            simp only [picks, List.drop_succ_cons, List.drop_zero]
            refine wpQ0_nil ?_
            refine wpQ2_nil ?_
            intro w30 hb30
            have hE30 := ext_trans hEo hb30
            have k1 := Ext2.blk hb30 k1; have k2 := Ext2.blk hb30 k2; have k3 := Ext2.blk hb30 k3
            have HC := Lib.hid (knOw k1 k2 k3 (HCI.out w30 hE30))
            clear k1 k2 k3 hb30
            refine wpTl_cons ?_
            go_wp2_with (fail)
            (with_reducible refine HC.out.mono ?_)
            rintro e w31 ⟨rfl, hb31⟩
            have hE31 := ext_trans hE30 hb31
            have c22 := (Below.cell hE31 (cell_lt c22)).trans c22
            go_wp2_with (fail)
            refine wpTl_cons ?_
            go_wp2_with (fail)
            refine wpTl_nil ?_
            refine wpSt_cons ?_
            simp only [picks, List.drop_succ_cons, List.drop_zero]
            repeat ((with_reducible refine wpQ0_step (fun K hK => ?_)); go_simp; ((with_reducible refine hK _ ?_); clear hK K))
            refine wpQ0_nil ?_
            repeat ((with_reducible refine wpQ2_step (fun K hK => ?_)); go_simp; first | ((with_reducible refine hK _ ?_); clear hK K) | (apply Exists.intro; refine ⟨fun x => ?_, hK _ ?_⟩; (fail); clear hK K))
            refine wpQ2_nil ?_
            intro w32 hw32
            have hE32 := ext_trans hE31 hw32
            have c22 := (Below.cell hw32 (cell_lt c22)).trans c22
            clear hw32 hb31 hE30 HC
            refine wpTl_cons ?_
            go_wp2_with (fail)
            refine wpTl_cons ?_
            go_wp2_with (fail)
            refine wpTl_nil ?_
            refine wpSt_nil ?_
            have hE33 := ext_trans hEr hE32
            clear hEo hE31
            go_wp2_with (fail)
            go_roundw
            case rel => exact ⟨n + 1, by go_num, by omega, hE33⟩
            case measure => simp [intOf]; omega
          · refine wpTl_cons ?_
            go_wp2_with (fail)
            refine wpTl_cons ?_
            go_wp2_with (fail)
            refine (taskL_any _).mono ?_
            rintro e w28 ⟨⟨u1, u2, u3, rfl, k1, k2, k3⟩, hb28⟩
            have hEo := ext_trans hEo hb28
            clear hb28
            go_wp2_with (fail)
            refine wpTl_nil ?_
            refine wpSt_cons ?_
            simp only [picks, List.drop_succ_cons, List.drop_zero]
            refine wpQ0_nil ?_
            refine wpQ2_nil ?_
            intro w30 hb30
            have hE30 := ext_trans hEo hb30
            have k1 := Ext2.blk hb30 k1; have k2 := Ext2.blk hb30 k2; have k3 := Ext2.blk hb30 k3
            have HC := Lib.hid (knOw k1 k2 k3 (HCI.out w30 hE30))
            clear k1 k2 k3 hb30
            refine wpTl_cons ?_
            go_wp2_with (fail)
            (with_reducible refine HC.out.mono ?_)
            rintro e w31 ⟨rfl, hb31⟩
            have hE31 := ext_trans hE30 hb31
            have c22 := (Below.cell hE31 (cell_lt c22)).trans c22
            go_wp2_with (fail)
            refine wpTl_cons ?_
            go_wp2_with (fail)
            refine wpTl_nil ?_
            refine wpSt_cons ?_
            simp only [picks, List.drop_succ_cons, List.drop_zero]
            repeat ((with_reducible refine wpQ0_step (fun K hK => ?_)); go_simp; ((with_reducible refine hK _ ?_); clear hK K))
            refine wpQ0_nil ?_
            repeat ((with_reducible refine wpQ2_step (fun K hK => ?_)); go_simp; first | ((with_reducible refine hK _ ?_); clear hK K) | (apply Exists.intro; refine ⟨fun x => ?_, hK _ ?_⟩; (fail); clear hK K))
            refine wpQ2_nil ?_
            intro w32 hw32
            have hE32 := ext_trans hE31 hw32
            have c22 := (Below.cell hw32 (cell_lt c22)).trans c22
            clear hw32 hb31 hE30 HC
            refine wpTl_cons ?_
            go_wp2_with (fail)
            refine wpTl_cons ?_
            go_wp2_with (fail)
            refine wpTl_nil ?_
            refine wpSt_nil ?_
            have hE33 := ext_trans hEr hE32
            clear hEo hE31
            go_wp2_with (fail)
            go_roundw
            case rel => exact ⟨n + 1, by go_num, by omega, hE33⟩
            case measure => simp [intOf]; omega
        · obtain rfl : n = 3 := by omega
          have hBj := below_ext hB27 hEr
          go_wp2_with (fail)
          refine (awake_any _).mono ?_
          rintro e w40 ⟨rfl, hb40⟩
          have hB40 := below_ext hBj hb40
          go_wp2_with (fail)
          go_ret
          exact ⟨rfl, hB40⟩
end Go.Proofs.Ytfjbgcaogffiaaa
