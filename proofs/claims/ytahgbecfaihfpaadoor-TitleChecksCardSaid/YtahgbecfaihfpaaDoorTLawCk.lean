/-
  The law TitleChecks, walked.
-/
import Derived.Test.YtahgbecfaihfpaaDoorTAwM
import Derived.Test.YtahgbecfaihfpaaDoorTRuleM
namespace Go.Proofs.YtahgbecfaihfpaaDoor
open Go.RowKit D
set_option linter.unusedVariables false
set_option linter.unusedSimpArgs false
attribute [local go_sem high] run_minI run_maxI
attribute [local go_sem] upon2 cls_cell cls_frozen forall_const exists_eq_left'
attribute [local go_sem] FirstUpon
set_option maxRecDepth 100000 in
set_option maxHeartbeats 2000000 in
theorem lawChecks_any {F : Font} {s : FSl} {R : Rul} {w : World} (hF : FontAt w F s) (hm : MaxAt w) : Calls Tryd.prog 8 #[.agg #[.int .i64 F.high, .int .i64 F.space, .slice s.g.a F.glyphs.length s.g.cap, .slice s.k.a F.kerns.length s.k.cap], .agg #[.int .i64 R.measure, .int .i64 R.lines, .int .i64 R.lead, .int .i64 R.short, .int .i64 R.extra, .int .i64 R.ink]] w fun e w' => e = .returned (.bool true) ∧ Below w.heap.size w w' := by
  obtain ⟨p1, p2, p3, hp⟩ : ∃ a b c, checkF F = (a, b, c) := ⟨_, _, _, rfl⟩
  obtain ⟨x, hx⟩ : ∃ x, x = checkRul F R := ⟨_, rfl⟩
  have H1 : Hid (∀ W, Below w.heap.size w W → Calls Tryd.prog 30 #[.agg #[.int .i64 F.high, .int .i64 F.space, .slice s.g.a F.glyphs.length s.g.cap, .slice s.k.a F.kerns.length s.k.cap]] W fun e w' => e = .returned (.tuple #[.int .i64 p1, .int .i64 p2, .int .i64 p3]) ∧ Below W.heap.size W w') := Lib.hid fun W hW => by
    have h := check_any (hF.below hW); rw [hp] at h; exact h
  have H2 : Hid (∀ W, Below w.heap.size w W → Calls Tryd.prog 24 #[.agg #[.int .i64 F.high, .int .i64 F.space, .slice s.g.a F.glyphs.length s.g.cap, .slice s.k.a F.kerns.length s.k.cap]] W fun e w' => e = .returned (.tuple #[.int .i64 p1, .int .i64 p2, .int .i64 p3]) ∧ Below W.heap.size W w') := Lib.hid fun W hW => by
    have h := checkR_any (hF.below hW); rw [hp] at h; exact h
  have H3 : Hid (∀ W, Below w.heap.size w W → Calls Tryd.prog 31 #[.agg #[.int .i64 F.high, .int .i64 F.space, .slice s.g.a F.glyphs.length s.g.cap, .slice s.k.a F.kerns.length s.k.cap], .agg #[.int .i64 R.measure, .int .i64 R.lines, .int .i64 R.lead, .int .i64 R.short, .int .i64 R.extra, .int .i64 R.ink]] W fun e w' => e = .returned (.int .i64 x) ∧ Below W.heap.size W w') := Lib.hid fun W hW => by
    have h := checkRule_any (R := R) (hF.below hW); rw [← hx] at h; exact h
  have H4 : Hid (∀ W, Below w.heap.size w W → Calls Tryd.prog 32 #[.agg #[.int .i64 F.high, .int .i64 F.space, .slice s.g.a F.glyphs.length s.g.cap, .slice s.k.a F.kerns.length s.k.cap], .agg #[.int .i64 R.measure, .int .i64 R.lines, .int .i64 R.lead, .int .i64 R.short, .int .i64 R.extra, .int .i64 R.ink]] W fun e w' => e = .returned (.int .i64 x) ∧ Below W.heap.size W w') := Lib.hid fun W hW => by
    have h := checkRuleR_any (R := R) (hF.below hW); rw [← hx] at h; exact h
  have H5 : Hid (∀ W, Below w.heap.size w W → Calls Tryd.prog 20 #[] W fun e w' => e = .returned (.bool true) ∧ Below W.heap.size W w') := Lib.hid fun W hW => awake_any (hm.below hW)
  clear hF hm hp hx
  go_enter Tryd.func8, Tryd.ntmps8
  go_wp2_with (fail)
  (with_reducible refine (H1.out _ ?_).mono ?_)
  · repeat' (first | exact Below.refl _ _ | assumption | refine below_drewN ?_ _ | refine Below.drew ?_ | refine Below.alloc ?_ (by first | assumption | omega | (simp <;> omega)) _ | refine Below.setCell ?_ (by first | assumption | omega | (simp <;> omega)) _ | refine Ext2.on (by assumption) ?_)
  rintro e w1 ⟨rfl, hb1⟩
  have hB1 : Below w.heap.size w w1 := Below.trans (by repeat' (first | exact Below.refl _ _ | assumption | refine below_drewN ?_ _ | refine Below.drew ?_ | refine Below.alloc ?_ (by first | assumption | omega | (simp <;> omega)) _ | refine Below.setCell ?_ (by first | assumption | omega | (simp <;> omega)) _ | refine Ext2.on (by assumption) ?_)) (hb1.mono (by simp; omega))
  have b0 : w1.heap[w.heap.size]? = some (Obj.cells #[.int .i64 F.high, .int .i64 F.space, .slice s.g.a F.glyphs.length s.g.cap, .slice s.k.a F.kerns.length s.k.cap] 25) := below_blk hb1 (by repeat' (first | (with_reducible assumption) | (with_reducible refine blk_set_ne ?_ ?_) | (with_reducible exact blk_new _ _) | (with_reducible refine blk_new' _ _ (by first | (with_reducible rfl) | (simp; done) | (simp <;> omega))) | (with_reducible refine blk_alloc ?_ _) | (with_reducible refine blk_drew ?_) | (with_reducible refine blk_drewN ?_ _) | (with_reducible refine Ext2.blk (by assumption) ?_) | omega | (simp <;> omega) | exact blk_set (by assumption) _ _)) (by simp; omega)
  have b1 : w1.heap[w.heap.size + 1]? = some (Obj.cells #[.int .i64 R.measure, .int .i64 R.lines, .int .i64 R.lead, .int .i64 R.short, .int .i64 R.extra, .int .i64 R.ink] 34) := below_blk hb1 (by repeat' (first | (with_reducible assumption) | (with_reducible refine blk_set_ne ?_ ?_) | (with_reducible exact blk_new _ _) | (with_reducible refine blk_new' _ _ (by first | (with_reducible rfl) | (simp; done) | (simp <;> omega))) | (with_reducible refine blk_alloc ?_ _) | (with_reducible refine blk_drew ?_) | (with_reducible refine blk_drewN ?_ _) | (with_reducible refine Ext2.blk (by assumption) ?_) | omega | (simp <;> omega) | exact blk_set (by assumption) _ _)) (by simp)
  clear hb1
  have q0c := cell_blk b0
  have q0f := frz_blk b0
  go_wp2_with (fail)
  (with_reducible refine (H2.out _ hB1).mono ?_)
  rintro e w2 ⟨rfl, hb2⟩
  have hB2 := below_ext hB1 hb2
  have b0 := Ext2.blk hb2 b0
  have b1 := Ext2.blk hb2 b1
  have E3 := hid_ext H3 hB2; have E4 := hid_ext H4 hB2; have E5 := hid_ext H5 hB2
  clear hb2 hB1 q0c q0f H1 H2 H3 H4 H5
  have HB2 := Lib.hid hB2
  have q0c := cell_blk b0
  have q0f := frz_blk b0
  have q1c := cell_blk b1
  have q1f := frz_blk b1
  go_wp2_with (fail)
  refine region_st [⟨[], [0, 1, 2, 3, 4, 5, 6, 7, 8, 9, 10, 11, 12, 13, 14, 15, 16, 17, 18, 19, 20, 21, 22, 23, 24, 25], []⟩] (by kernel_rfl) (by kernel_rfl) (by intro c a d v w h; cases d <;> exact h) ?_
  refine wpSt_cons ?_
  simp only [picks, List.drop_succ_cons, List.drop_zero]
  repeat ((with_reducible refine wpQ0_step (fun K hK => ?_)); go_simp; ((with_reducible refine hK _ ?_); clear hK K))
  refine wpQ0_nil ?_
  repeat ((with_reducible refine wpQ2_step (fun K hK => ?_)); go_simp; first | ((with_reducible refine hK _ ?_); clear hK K) | (apply Exists.intro; refine ⟨fun x => ?_, hK _ ?_⟩; (first | (with_reducible exact E3.out x.1 x.2) | (with_reducible exact E4.out x.1 x.2) | (with_reducible exact E5.out x.1 x.2)); clear hK K))
  refine wpQ2_nil ?_
  intro w9 hw9
  refine wpTl_nil ?_
  refine wpSt_nil ?_
  have hB9 := below_ext HB2.out hw9
  clear hw9 q0c q0f q1c q1f
  go_wp2_with (fail)
  go_ret
  exact ⟨rfl, hB9⟩
end Go.Proofs.YtahgbecfaihfpaaDoor
