/-
  law.BenchMerges, walked.
-/
import Derived.Test.YtojomdojblgegaaGreatDoorBAwk
import Derived.Test.YtojomdojblgegaaGreatDoorBRMg
namespace Go.Proofs.YtojomdojblgegaaGreatDoor
open Go.RowKit D
set_option linter.unusedVariables false
set_option linter.unusedSimpArgs false
attribute [local go_sem high] run_minI run_maxI
attribute [local go_sem] upon2 cls_cell cls_frozen forall_const exists_eq_left'
attribute [local go_sem] FirstUpon atBlk_cell
set_option maxRecDepth 100000 in
set_option maxHeartbeats 2000000 in
theorem lawMerges_any {ls : List (List Note)} {s : Sl} {hs : Nat → Sl} {w : World} (hl : NListsS w s hs ls) (hm : MaxAt w) : Calls Tryz.prog 3 #[.slice s.a ls.length s.cap] w fun e w' => e = .returned (.bool true) ∧ Below w.heap.size w w' := by
  have H1 := Lib.hid (merge_any hl hm)
  have H2 := Lib.hid fun (W : World) (hW : Ext2 w W) => mergeR_any (hl.below hW)
  have HA := Lib.hid fun (W : World) (hW : Ext2 w W) => awake_any (hm.below hW)
  have HSM := Lib.hid fun (s t : Sl) (l : List Note) (W : World) (h1 : NotesS W s l) (h2 : NotesS W t l) => sameNt_any h1 h2
  obtain ⟨sa, sc⟩ := s
  obtain ⟨m, hml⟩ : ∃ m, m = ls.length := ⟨_, rfl⟩
  obtain ⟨V, hV⟩ : ∃ V, V = mergeV ls := ⟨_, rfl⟩
  unfold MrgOut at H1 H2
  rw [← hml] at H1 H2 ⊢
  rw [← hV] at H1 H2
  obtain ⟨l, E⟩ := V
  dsimp only at H1 H2
  obtain ⟨q, hq⟩ : ∃ q, q = l.length := ⟨_, rfl⟩
  have HQ := Lib.hid hq
  rw [← hq] at H1 H2
  clear hl hm hml hV hq
  go_enter Tryz.func3, Tryz.ntmps3
  go_wp2_with (fail)
  (with_reducible refine H1.out.mono ?_)
  rintro e w4 ⟨⟨⟨s1a, s1c⟩, rfl, hN1⟩, hE4⟩
  have HE4 : Hid (Ext2 w w4) := Lib.hid hE4; have HN1 := Lib.hid hN1
  clear hE4 hN1 H1
  go_wp2_with (fail)
  (with_reducible refine (H2.out _ HE4.out).mono ?_)
  rintro e w5 ⟨⟨⟨s2a, s2c⟩, rfl, hN2⟩, hE5⟩
  have HE5 := Lib.hid (ext_trans HE4.out hE5); have HN2 := Lib.hid hN2; have HN15 := Lib.hid (HN1.out.below hE5)
  have HS : Hid (Calls Tryz.prog 12 #[.slice s1a q s1c, .slice s2a q s2c] w5 fun e w' => e = .returned (.bool true) ∧ Below w5.heap.size w5 w') := Lib.hid (by rw [HQ.out]; have h := HSM.out ⟨s1a, s1c⟩ ⟨s2a, s2c⟩ l w5 HN15.out HN2.out; rw [decide_true] at h; exact h)
  have n2 : (E == E) = true := by simp
  clear hE5 hN2 H2 HSM HN1
  go_wp2_with (fail)
  (with_reducible refine HS.out.mono ?_)
  rintro e w6 ⟨rfl, hE6⟩
  have HE6 := Lib.hid (ext_trans HE5.out hE6)
  have HA7 := Lib.hid (HA.out _ HE6.out)
  clear hE6
  go_wp2_with (fail)
  (with_reducible refine HA7.out.mono ?_)
  rintro e w8 ⟨rfl, hE8⟩
  have HE8 := Lib.hid (ext_trans HE6.out hE8)
  clear hE8
  go_wp2_with (fail)
  go_ret
  exact ⟨rfl, HE8.out⟩
end Go.Proofs.YtojomdojblgegaaGreatDoor
