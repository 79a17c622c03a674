/-
  The law DecayGrows, walked.
-/
import Derived.Test.YtfjbgcaogffiaaaDAwake
import Derived.Test.YtfjbgcaogffiaaaDGrowP
import Derived.Test.YtfjbgcaogffiaaaDRef6
namespace Go.Proofs.Ytfjbgcaogffiaaa
open Go.RowKit D
set_option linter.unusedVariables false
set_option linter.unusedSimpArgs false
attribute [local go_sem high] run_minI run_maxI
attribute [local go_sem] upon2 cls_cell cls_frozen forall_const exists_eq_left'
attribute [local go_sem] FirstUpon run_neq_span
set_option maxRecDepth 100000 in
set_option maxHeartbeats 2000000 in
theorem lawGrows_any {R : Rule} {hh hv : Sl} {d : Day} {n : Span} {w : World} (hR : RuleAt w R hh hv) : Calls Try.prog 13 #[.agg #[.slice hh.a R.heat.length hh.cap, .slice hv.a R.wet.length hv.cap, .int .i64 R.own, .int .i64 R.feed, .int .i64 R.g0, .int .i64 R.g1, .int .i64 R.g2, .int .i64 R.lost], .agg #[.int .i64 d.tlo, .int .i64 d.thi, .int .i64 d.dlo, .int .i64 d.dhi], .agg #[.int .i64 n.lo, .int .i64 n.hi]] w fun e w' => e = .returned (.bool true) ∧ Below w.heap.size w w' := by
  obtain ⟨S, se, hp⟩ : ∃ a b, strengthV R d = (a, b) := ⟨_, _, rfl⟩
  obtain ⟨G, ge, hq⟩ : ∃ a b, growV R d n = (a, b) := ⟨_, _, rfl⟩
  obtain ⟨g1, g2, hg⟩ : ∃ a b, gradeV R n.lo = (a, b) := ⟨_, _, rfl⟩
  have H1 : Hid (∀ W, Below w.heap.size w W → Calls Try.prog 40 #[.agg #[.slice hh.a R.heat.length hh.cap, .slice hv.a R.wet.length hv.cap, .int .i64 R.own, .int .i64 R.feed, .int .i64 R.g0, .int .i64 R.g1, .int .i64 R.g2, .int .i64 R.lost], .agg #[.int .i64 d.tlo, .int .i64 d.thi, .int .i64 d.dlo, .int .i64 d.dhi]] W fun e w' => e = .returned (.tuple #[.agg #[.int .i64 S.lo, .int .i64 S.hi], .int .i64 se]) ∧ Below W.heap.size W w') := Lib.hid fun W hW => by
    have h := StrengthP_any (d := d) (hR.below hW); rw [hp] at h; exact h
  have H2 : Hid (∀ W, Below w.heap.size w W → Calls Try.prog 41 #[.agg #[.slice hh.a R.heat.length hh.cap, .slice hv.a R.wet.length hv.cap, .int .i64 R.own, .int .i64 R.feed, .int .i64 R.g0, .int .i64 R.g1, .int .i64 R.g2, .int .i64 R.lost], .agg #[.int .i64 d.tlo, .int .i64 d.thi, .int .i64 d.dlo, .int .i64 d.dhi]] W fun e w' => e = .returned (.tuple #[.agg #[.int .i64 S.lo, .int .i64 S.hi], .int .i64 se]) ∧ Below W.heap.size W w') := Lib.hid fun W hW => by
    have h := StrengthR_any (d := d) (hR.below hW); rw [hp] at h; exact h
  have H3 : Hid (∀ W, Below w.heap.size w W → Calls Try.prog 42 #[.agg #[.slice hh.a R.heat.length hh.cap, .slice hv.a R.wet.length hv.cap, .int .i64 R.own, .int .i64 R.feed, .int .i64 R.g0, .int .i64 R.g1, .int .i64 R.g2, .int .i64 R.lost], .agg #[.int .i64 d.tlo, .int .i64 d.thi, .int .i64 d.dlo, .int .i64 d.dhi], .agg #[.int .i64 n.lo, .int .i64 n.hi]] W fun e w' => e = .returned (.tuple #[.agg #[.int .i64 G.lo, .int .i64 G.hi], .int .i64 ge]) ∧ Below W.heap.size W w') := Lib.hid fun W hW => by
    have h := GrowP_any (d := d) (n := n) (hR.below hW); rw [hq] at h; exact h
  have H4 : Hid (∀ W, Below w.heap.size w W → Calls Try.prog 24 #[.agg #[.slice hh.a R.heat.length hh.cap, .slice hv.a R.wet.length hv.cap, .int .i64 R.own, .int .i64 R.feed, .int .i64 R.g0, .int .i64 R.g1, .int .i64 R.g2, .int .i64 R.lost], .agg #[.int .i64 d.tlo, .int .i64 d.thi, .int .i64 d.dlo, .int .i64 d.dhi], .agg #[.int .i64 n.lo, .int .i64 n.hi]] W fun e w' => e = .returned (.tuple #[.agg #[.int .i64 G.lo, .int .i64 G.hi], .int .i64 ge]) ∧ Below W.heap.size W w') := Lib.hid fun W hW => by
    have h := growRef_any (d := d) (n := n) (hR.below hW); rw [hq] at h; exact h
  have H5 : Hid (∀ W, Below w.heap.size w W → Calls Try.prog 43 #[.agg #[.slice hh.a R.heat.length hh.cap, .slice hv.a R.wet.length hv.cap, .int .i64 R.own, .int .i64 R.feed, .int .i64 R.g0, .int .i64 R.g1, .int .i64 R.g2, .int .i64 R.lost], .int .i64 n.lo] W fun e w' => e = .returned (.tuple #[.int .i64 g1, .int .i64 g2]) ∧ Below W.heap.size W w') := Lib.hid fun W hW => by
    have h := gradeP_any (hR.below hW) n.lo; rw [hg] at h; exact h
  have H6 : Hid (∀ W, Below w.heap.size w W → Calls Try.prog 29 #[.agg #[.slice hh.a R.heat.length hh.cap, .slice hv.a R.wet.length hv.cap, .int .i64 R.own, .int .i64 R.feed, .int .i64 R.g0, .int .i64 R.g1, .int .i64 R.g2, .int .i64 R.lost], .int .i64 n.lo] W fun e w' => e = .returned (.tuple #[.int .i64 g1, .int .i64 g2]) ∧ Below W.heap.size W w') := Lib.hid fun W hW => by
    have h := gradeRef_any (hR.below hW) n.lo; rw [hg] at h; exact h
  have H7 : Hid (∀ W, Calls Try.prog 21 #[] W fun e w' => e = .returned (.bool true) ∧ Below W.heap.size W w') := Lib.hid fun W => awake_any W
  clear hR hp hq hg
  go_enter Try.func13, Try.ntmps13
  go_wp2_with (fail)
  (with_reducible refine (H1.out _ ?_).mono ?_)
  · repeat' (first | exact Below.refl _ _ | assumption | refine below_drewN ?_ _ | refine Below.drew ?_ | refine Below.alloc ?_ (by first | assumption | omega | (simp <;> omega)) _ | refine Below.setCell ?_ (by first | assumption | omega | (simp <;> omega)) _ | refine Ext2.on (by assumption) ?_)
  rintro e w1 ⟨rfl, hb1⟩
  have hB1 : Below w.heap.size w w1 := Below.trans (by repeat' (first | exact Below.refl _ _ | assumption | refine below_drewN ?_ _ | refine Below.drew ?_ | refine Below.alloc ?_ (by first | assumption | omega | (simp <;> omega)) _ | refine Below.setCell ?_ (by first | assumption | omega | (simp <;> omega)) _ | refine Ext2.on (by assumption) ?_)) (hb1.mono (by simp; omega))
  have x0 : w1.heap[w.heap.size]? = some (Obj.cells #[.slice hh.a R.heat.length hh.cap, .slice hv.a R.wet.length hv.cap, .int .i64 R.own, .int .i64 R.feed, .int .i64 R.g0, .int .i64 R.g1, .int .i64 R.g2, .int .i64 R.lost] 25) := below_blk hb1 (by repeat' (first | (with_reducible assumption) | (with_reducible refine blk_set_ne ?_ ?_) | (with_reducible exact blk_new _ _) | (with_reducible refine blk_new' _ _ (by first | (with_reducible rfl) | (simp; done) | (simp <;> omega))) | (with_reducible refine blk_alloc ?_ _) | (with_reducible refine blk_drew ?_) | (with_reducible refine blk_drewN ?_ _) | (with_reducible refine Ext2.blk (by assumption) ?_) | omega | (simp <;> omega) | exact blk_set (by assumption) _ _)) (by first | (simp; done) | (simp; omega))
  have x1 : w1.heap[w.heap.size + 1]? = some (Obj.cells #[.int .i64 d.tlo, .int .i64 d.thi, .int .i64 d.dlo, .int .i64 d.dhi] 48) := below_blk hb1 (by repeat' (first | (with_reducible assumption) | (with_reducible refine blk_set_ne ?_ ?_) | (with_reducible exact blk_new _ _) | (with_reducible refine blk_new' _ _ (by first | (with_reducible rfl) | (simp; done) | (simp <;> omega))) | (with_reducible refine blk_alloc ?_ _) | (with_reducible refine blk_drew ?_) | (with_reducible refine blk_drewN ?_ _) | (with_reducible refine Ext2.blk (by assumption) ?_) | omega | (simp <;> omega) | exact blk_set (by assumption) _ _)) (by first | (simp; done) | (simp; omega))
  have x2 : w1.heap[w.heap.size + 1 + 1]? = some (Obj.cells #[.int .i64 n.lo, .int .i64 n.hi] 28) := below_blk hb1 (by repeat' (first | (with_reducible assumption) | (with_reducible refine blk_set_ne ?_ ?_) | (with_reducible exact blk_new _ _) | (with_reducible refine blk_new' _ _ (by first | (with_reducible rfl) | (simp; done) | (simp <;> omega))) | (with_reducible refine blk_alloc ?_ _) | (with_reducible refine blk_drew ?_) | (with_reducible refine blk_drewN ?_ _) | (with_reducible refine Ext2.blk (by assumption) ?_) | omega | (simp <;> omega) | exact blk_set (by assumption) _ _)) (by first | (simp; done) | (simp; omega))
  have hz1 := blk_lt x2
  have HX0 := Lib.hid x0; have HX1 := Lib.hid x1; have HX2 := Lib.hid x2
  have e0 : w.heap.size < w1.heap.size := by omega
  have e1 : w.heap.size + 1 < w1.heap.size := by omega
  have e2 : ¬ w.heap.size = w1.heap.size := by omega
  have e3 : ¬ w.heap.size + 1 = w1.heap.size := by omega
  clear hb1
  have q0c := cell_blk x0
  have q0f := frz_blk x0
  have q1c := cell_blk x1
  have q1f := frz_blk x1
  go_wp2_with (fail)
  (with_reducible refine (H2.out _ ?_).mono ?_)
  · repeat' (first | exact Below.refl _ _ | assumption | refine below_drewN ?_ _ | refine Below.drew ?_ | refine Below.alloc ?_ (by first | assumption | omega | (simp <;> omega)) _ | refine Below.setCell ?_ (by first | assumption | omega | (simp <;> omega)) _ | refine Ext2.on (by assumption) ?_)
  rintro e w2 ⟨rfl, hb2⟩
  have s7 : w2.heap[w1.heap.size]? = some (Obj.cells #[.int .i64 S.lo, .int .i64 S.hi] 28) := below_blk hb2 (blk_new _ _) (by simp)
  have hE2 : Ext2 w1 w2 := (below_alloc' _ _).trans (hb2.mono (by simp))
  have hB2 := hB1.trans (Below.mono hE2 hB1.size)
  have hz2 := blk_lt s7
  clear hb2 q0c q0f q1c q1f x0 x1 x2 e0 e1 e2 e3 hB1
  have x0 := Ext2.blk hE2 HX0.out; have x1 := Ext2.blk hE2 HX1.out; have x2 := Ext2.blk hE2 HX2.out
  have hl1 := Ext2.size hE2
  have e0 : w.heap.size < w2.heap.size := by omega
  have e1 : w.heap.size + 1 < w2.heap.size := by omega
  have e2 : w.heap.size + 1 + 1 < w2.heap.size := by omega
  have e4 : ¬ w.heap.size = w2.heap.size := by omega
  have e5 : ¬ w.heap.size + 1 = w2.heap.size := by omega
  have e6 : ¬ w.heap.size + 1 + 1 = w2.heap.size := by omega
  have e7 : ¬ w1.heap.size = w2.heap.size := by omega
  have q0c := cell_blk x0
  have q0f := frz_blk x0
  have q1c := cell_blk x1
  have q1f := frz_blk x1
  have q2c := cell_blk x2
  have q2f := frz_blk x2
  have q7c := cell_blk s7
  have q7f := frz_blk s7
  go_wp2_with (fail)
  (with_reducible refine (H3.out _ ?_).mono ?_)
  · repeat' (first | exact Below.refl _ _ | assumption | refine below_drewN ?_ _ | refine Below.drew ?_ | refine Below.alloc ?_ (by first | assumption | omega | (simp <;> omega)) _ | refine Below.setCell ?_ (by first | assumption | omega | (simp <;> omega)) _ | refine Ext2.on (by assumption) ?_)
  rintro e w3 ⟨rfl, hb3⟩
  have s9 : w3.heap[w2.heap.size]? = some (Obj.cells #[.int .i64 S.lo, .int .i64 S.hi] 28) := below_blk hb3 (blk_new _ _) (by simp)
  have hE3 : Ext2 w2 w3 := (below_alloc' _ _).trans (hb3.mono (by simp))
  have hB3 := hB2.trans (Below.mono hE3 hB2.size)
  have s7 := Ext2.blk hE3 s7
  have x0 := Ext2.blk hE3 x0; have x1 := Ext2.blk hE3 x1; have x2 := Ext2.blk hE3 x2
  clear hb3 q0c q0f q1c q1f q2c q2f q7c q7f hB2
  have q0c := cell_blk x0
  have q0f := frz_blk x0
  have q1c := cell_blk x1
  have q1f := frz_blk x1
  have q2c := cell_blk x2
  have q2f := frz_blk x2
  have q7c := cell_blk s7
  have q7f := frz_blk s7
  go_wp2_with (fail)
  refine calls_name ?_
  intro w4 h4
  have hB4 : Below w.heap.size w w4 := by rw [h4]; exact below_set (below_set hB3 (by omega)) (by omega)
  have y0 : w4.heap[w.heap.size]? = some (Obj.cells #[.slice hh.a R.heat.length hh.cap, .slice hv.a R.wet.length hv.cap, .int .i64 R.own, .int .i64 R.feed, .int .i64 R.g0, .int .i64 R.g1, .int .i64 R.g2, .int .i64 R.lost] 25) := by rw [h4]; exact blk_set_ne (blk_set_ne x0 (by omega)) (by omega)
  have y2 : w4.heap[w.heap.size + 1 + 1]? = some (Obj.cells #[.int .i64 n.lo, .int .i64 n.hi] 28) := by rw [h4]; exact blk_set_ne (blk_set_ne x2 (by omega)) (by omega)
  have y7 : w4.heap[w1.heap.size]? = some (Obj.cells #[.int .i64 G.lo, .int .i64 G.hi] 28) := by rw [h4]; exact Eq.trans (blk_set (blk_set s7 _ _) _ _) rfl
  have y9 : w4.heap[w2.heap.size]? = some (Obj.cells #[.int .i64 S.lo, .int .i64 S.hi] 28) := by rw [h4]; exact blk_set_ne (blk_set_ne s9 (by omega)) (by omega)
  clear h4 q0c q0f q1c q1f q2c q2f q7c q7f x0 x1 x2 s7 s9 hB3
  (with_reducible refine (H4.out _ hB4).mono ?_)
  rintro e w5 ⟨rfl, hb5⟩
  have hB5 := hB4.trans (hb5.mono hB4.size)
  have y0 := Ext2.blk hb5 y0; have y2 := Ext2.blk hb5 y2; have y7 := Ext2.blk hb5 y7; have y9 := Ext2.blk hb5 y9
  clear hb5 hB4
  have q0c := cell_blk y0
  have q0f := frz_blk y0
  have q2c := cell_blk y2
  have q2f := frz_blk y2
  have q7c := cell_blk y7
  have q7f := frz_blk y7
  have q9c := cell_blk y9
  have q9f := frz_blk y9
  go_wp2_with (fail)
  refine calls_name ?_
  intro w6 h6
  have hB6 : Below w.heap.size w w6 := by rw [h6]; exact below_set (below_set hB5 (by omega)) (by omega)
  have y0 : w6.heap[w.heap.size]? = some (Obj.cells #[.slice hh.a R.heat.length hh.cap, .slice hv.a R.wet.length hv.cap, .int .i64 R.own, .int .i64 R.feed, .int .i64 R.g0, .int .i64 R.g1, .int .i64 R.g2, .int .i64 R.lost] 25) := by rw [h6]; exact blk_set_ne (blk_set_ne y0 (by omega)) (by omega)
  have y2 : w6.heap[w.heap.size + 1 + 1]? = some (Obj.cells #[.int .i64 n.lo, .int .i64 n.hi] 28) := by rw [h6]; exact blk_set_ne (blk_set_ne y2 (by omega)) (by omega)
  clear h6 q0c q0f q2c q2f q7c q7f q9c q9f y7 y9 hB5
  (with_reducible refine (H5.out _ hB6).mono ?_)
  rintro e w7 ⟨rfl, hb7⟩
  have hB7 := hB6.trans (hb7.mono hB6.size)
  have y0 := Ext2.blk hb7 y0; have y2 := Ext2.blk hb7 y2
  clear hb7 hB6
  have q0c := cell_blk y0
  have q0f := frz_blk y0
  have q2c := cell_blk y2
  have q2f := frz_blk y2
  go_wp2_with (fail)
  (with_reducible refine (H6.out _ hB7).mono ?_)
  rintro e w8 ⟨rfl, hb8⟩
  have hB8 := hB7.trans (hb8.mono hB7.size)
  clear hb8 hB7 q0c q0f q2c q2f y0 y2
  go_wp2_with (fail)
  (with_reducible refine (H7.out _).mono ?_)
  rintro e w9 ⟨rfl, hb9⟩
  have hB9 := hB8.trans (hb9.mono hB8.size)
  go_wp2_with (fail)
  go_ret
  exact ⟨rfl, hB9⟩
end Go.Proofs.Ytfjbgcaogffiaaa
