/-
  The law DecayLevels, walked.
-/
import Derived.Test.YtfjbgcaogffiaaaDAwake
namespace Go.Proofs.Ytfjbgcaogffiaaa
open Go.RowKit D
set_option linter.unusedVariables false
set_option linter.unusedSimpArgs false
attribute [local go_sem high] run_minI run_maxI
attribute [local go_sem] upon2 cls_cell cls_frozen forall_const exists_eq_left'
attribute [local go_sem] FirstUpon
theorem spans_same {s t : Sl} {l : List Span} {w W : World} (hl : SpansS w s l) (hm : SpansS w t l) (hW : Ext2 w W) : Calls Try.prog 19 #[.slice s.a l.length s.cap, .slice t.a l.length t.cap] W fun e w' => e = .returned (.bool true) ∧ Below W.heap.size W w' :=
  (spans_any (hl.below hW) (hm.below hW)).mono fun e w' ⟨he, q, hq⟩ => ⟨by rw [he]; simp, by rw [hq]; exact below_drewN (Below.refl _ _) q⟩
theorem strikes_same {s t : Sl} {l : List Strike} {w W : World} (hl : StrikesS w s l) (hm : StrikesS w t l) (hW : Ext2 w W) : Calls Try.prog 20 #[.slice s.a l.length s.cap, .slice t.a l.length t.cap] W fun e w' => e = .returned (.bool true) ∧ Below W.heap.size W w' :=
  (strikes_any (hl.below hW) (hm.below hW)).mono fun e w' ⟨he, q, hq⟩ => ⟨by rw [he]; simp, by rw [hq]; exact below_drewN (Below.refl _ _) q⟩
set_option maxRecDepth 100000 in
set_option maxHeartbeats 2000000 in
theorem lawLevels_any {T : Task} {s : TSl} {w : World} (hT : TaskAt w T s) : Calls Try.prog 3 #[.agg #[.slice s.h.a T.rule.heat.length s.h.cap, .slice s.w.a T.rule.wet.length s.w.cap, .int .i64 T.rule.own, .int .i64 T.rule.feed, .int .i64 T.rule.g0, .int .i64 T.rule.g1, .int .i64 T.rule.g2, .int .i64 T.rule.lost, .int .i64 T.first, .slice s.d.a T.days.length s.d.cap, .int .i64 T.start.lo, .int .i64 T.start.hi, .slice s.t.a T.tests.length s.t.cap]] w fun e w' => e = .returned (.bool true) ∧ Below w.heap.size w w' := by
  have HP : Hid (∀ W, Below w.heap.size w W → Calls Try.prog 17 #[.agg #[.slice s.h.a T.rule.heat.length s.h.cap, .slice s.w.a T.rule.wet.length s.w.cap, .int .i64 T.rule.own, .int .i64 T.rule.feed, .int .i64 T.rule.g0, .int .i64 T.rule.g1, .int .i64 T.rule.g2, .int .i64 T.rule.lost, .int .i64 T.first, .slice s.d.a T.days.length s.d.cap, .int .i64 T.start.lo, .int .i64 T.start.hi, .slice s.t.a T.tests.length s.t.cap]] W (LevelsOut T W)) := Lib.hid fun W hW => levelsP_any (hT.below hW)
  have HR : Hid (∀ W, Below w.heap.size w W → Calls Try.prog 18 #[.agg #[.slice s.h.a T.rule.heat.length s.h.cap, .slice s.w.a T.rule.wet.length s.w.cap, .int .i64 T.rule.own, .int .i64 T.rule.feed, .int .i64 T.rule.g0, .int .i64 T.rule.g1, .int .i64 T.rule.g2, .int .i64 T.rule.lost, .int .i64 T.first, .slice s.d.a T.days.length s.d.cap, .int .i64 T.start.lo, .int .i64 T.start.hi, .slice s.t.a T.tests.length s.t.cap]] W (LevelsOut T W)) := Lib.hid fun W hW => levelsR_any (hT.below hW)
  obtain ⟨er, her⟩ : ∃ er, er = (D.checkTask T).2.2 := ⟨_, rfl⟩
  have HE := Lib.hid her
  clear hT her
  go_enter Try.func3, Try.ntmps3
  go_wp2_with (fail)
  (with_reducible refine (HP.out _ ?_).mono ?_)
  · repeat' (first | exact Below.refl _ _ | assumption | refine below_drewN ?_ _ | refine Below.drew ?_ | refine Below.alloc ?_ (by first | assumption | omega | (simp <;> omega)) _ | refine Below.setCell ?_ (by first | assumption | omega | (simp <;> omega)) _ | refine Ext2.on (by assumption) ?_)
  rintro e w1 ⟨⟨s1, s2, rfl, hs1, hs2⟩, hb1⟩
  have hB1 := Below.trans (Below.alloc (Below.refl w.heap.size w) (Nat.le_refl _) (Obj.cells #[.slice s.h.a T.rule.heat.length s.h.cap, .slice s.w.a T.rule.wet.length s.w.cap, .int .i64 T.rule.own, .int .i64 T.rule.feed, .int .i64 T.rule.g0, .int .i64 T.rule.g1, .int .i64 T.rule.g2, .int .i64 T.rule.lost, .int .i64 T.first, .slice s.d.a T.days.length s.d.cap, .int .i64 T.start.lo, .int .i64 T.start.hi, .slice s.t.a T.tests.length s.t.cap] 31)) (hb1.mono (by simp))
  have b0 : w1.heap[w.heap.size]? = some (Obj.cells #[.slice s.h.a T.rule.heat.length s.h.cap, .slice s.w.a T.rule.wet.length s.w.cap, .int .i64 T.rule.own, .int .i64 T.rule.feed, .int .i64 T.rule.g0, .int .i64 T.rule.g1, .int .i64 T.rule.g2, .int .i64 T.rule.lost, .int .i64 T.first, .slice s.d.a T.days.length s.d.cap, .int .i64 T.start.lo, .int .i64 T.start.hi, .slice s.t.a T.tests.length s.t.cap] 31) := below_blk hb1 (blk_new _ _) (by simp)
  have HS1 := Lib.hid hs1; have HS2 := Lib.hid hs2
  rw [← HE.out]
  clear hs1 hs2 hb1
  have q0c := cell_blk b0
  have q0f := frz_blk b0
  go_wp2_with (fail)
  (with_reducible refine (HR.out _ hB1).mono ?_)
  rintro e w2 ⟨⟨s3, s4, rfl, hs3, hs4⟩, hb2⟩
  have hB2 := hB1.trans (hb2.mono hB1.size)
  have hE2 : Ext2 w1 w2 := hb2
  have HA : Hid (∀ W, Ext2 w2 W → Calls Try.prog 19 #[.slice s1.a (levelsRes T).length s1.cap, .slice s3.a (levelsRes T).length s3.cap] W fun e w' => e = .returned (.bool true) ∧ Below W.heap.size W w') := Lib.hid fun W hW => spans_same (HS1.out.below hE2) hs3 hW
  have HB : Hid (∀ W, Ext2 w2 W → Calls Try.prog 20 #[.slice s2.a (struckRes T).length s2.cap, .slice s4.a (struckRes T).length s4.cap] W fun e w' => e = .returned (.bool true) ∧ Below W.heap.size W w') := Lib.hid fun W hW => strikes_same (HS2.out.below hE2) hs4 hW
  have HW : Hid (∀ W, Calls Try.prog 21 #[] W fun e w' => e = .returned (.bool true) ∧ Below W.heap.size W w') := Lib.hid fun W => awake_any W
  rw [← HE.out]
  clear hs3 hs4 hb2 q0c q0f b0 hB1 hE2
  go_wp2_with (fail)
  have hx2 : Ext2 w2 w2 := Below.refl _ _
  (with_reducible refine (HA.out _ hx2).mono ?_)
  rintro e w3 ⟨rfl, hg3⟩
  have hx3 : Ext2 w2 w3 := hg3
  go_wp2_with (fail)
  (with_reducible refine (HB.out _ hx3).mono ?_)
  rintro e w4 ⟨rfl, hg4⟩
  have hx4 : Ext2 w2 w4 := hx3.trans (Below.mono hg4 hx3.size)
  go_wp2_with (fail)
  (with_reducible refine (HW.out _).mono ?_)
  rintro e w5 ⟨rfl, hg5⟩
  have hx5 : Ext2 w2 w5 := hx4.trans (Below.mono hg5 hx4.size)
  have hb := hB2.trans (Below.mono hx5 hB2.size)
  clear hg3 hg4 hg5 hx2 hx3 hx4
  go_wp2_with (fail)
  go_ret
  exact ⟨rfl, hb⟩
end Go.Proofs.Ytfjbgcaogffiaaa
