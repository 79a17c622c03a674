/-
  The law TitleJudges, walked.
-/
import Derived.Test.YtahgbecfaihfpaaDoorTRefJ
namespace Go.Proofs.YtahgbecfaihfpaaDoor
open Go.RowKit D
set_option linter.unusedVariables false
set_option linter.unusedSimpArgs false
attribute [local go_sem high] run_minI run_maxI
attribute [local go_sem] upon2 cls_cell cls_frozen forall_const exists_eq_left'
attribute [local go_sem] FirstUpon
set_option maxRecDepth 100000 in
set_option maxHeartbeats 2000000 in
theorem lawJudges_any {F : Font} {s : FSl} {R : Rul} {t : ByteArray} {es : Sl} {E : List Int} {w : World} (hF : FontAt w F s) (ht : t.size ≤ maxLen) (hE : IntsS w es E) (hm : MaxAt w) : Calls Tryd.prog 4 #[.agg #[.int .i64 F.high, .int .i64 F.space, .slice s.g.a F.glyphs.length s.g.cap, .slice s.k.a F.kerns.length s.k.cap, .int .i64 R.measure, .int .i64 R.lines, .int .i64 R.lead, .int .i64 R.short, .int .i64 R.extra, .int .i64 R.ink, .string t], .slice es.a E.length es.cap] w fun e w' => e = .returned (.bool true) ∧ Below w.heap.size w w' := by
  obtain ⟨⟨c, d⟩, hV⟩ : ∃ V, V = judgeV F R t E := ⟨_, rfl⟩
  have H1 : Hid (∀ W, Below w.heap.size w W → Calls Tryd.prog 21 #[.agg #[.int .i64 F.high, .int .i64 F.space, .slice s.g.a F.glyphs.length s.g.cap, .slice s.k.a F.kerns.length s.k.cap], .agg #[.int .i64 R.measure, .int .i64 R.lines, .int .i64 R.lead, .int .i64 R.short, .int .i64 R.extra, .int .i64 R.ink], .string t, .slice es.a E.length es.cap] W fun e w' => e = .returned (.tuple #[.int .i64 c, .int .i64 d]) ∧ Below W.heap.size W w') := Lib.hid fun W hW => by
    have h := judge_any (R := R) (t := t) (hF.below hW) (hm.below hW) (RowS.below hE hW); rw [← hV] at h; exact h
  have H2 : Hid (∀ W, Below w.heap.size w W → Calls Tryd.prog 22 #[.agg #[.int .i64 F.high, .int .i64 F.space, .slice s.g.a F.glyphs.length s.g.cap, .slice s.k.a F.kerns.length s.k.cap], .agg #[.int .i64 R.measure, .int .i64 R.lines, .int .i64 R.lead, .int .i64 R.short, .int .i64 R.extra, .int .i64 R.ink], .string t, .slice es.a E.length es.cap] W fun e w' => e = .returned (.tuple #[.int .i64 c, .int .i64 d]) ∧ Below W.heap.size W w') := Lib.hid fun W hW => by
    have h := judgeR_any (R := R) (t := t) (hF.below hW) ht (RowS.below hE hW); rw [← hV] at h; exact h
  have H5 : Hid (∀ W, Below w.heap.size w W → Calls Tryd.prog 20 #[] W fun e w' => e = .returned (.bool true) ∧ Below W.heap.size W w') := Lib.hid fun W hW => awake_any (hm.below hW)
  clear hF hm ht hE hV
  go_enter Tryd.func4, Tryd.ntmps4
  go_wp2_with (fail)
  (with_reducible refine (H1.out _ ?_).mono ?_)
  · repeat' (first | exact Below.refl _ _ | assumption | refine below_drewN ?_ _ | refine Below.drew ?_ | refine Below.alloc ?_ (by first | assumption | omega | (simp <;> omega)) _ | refine Below.setCell ?_ (by first | assumption | omega | (simp <;> omega)) _ | refine Ext2.on (by assumption) ?_)
  rintro e w1 ⟨rfl, hb1⟩
  have hB1 : Below w.heap.size w w1 := Below.trans (by repeat' (first | exact Below.refl _ _ | assumption | refine below_drewN ?_ _ | refine Below.drew ?_ | refine Below.alloc ?_ (by first | assumption | omega | (simp <;> omega)) _ | refine Below.setCell ?_ (by first | assumption | omega | (simp <;> omega)) _ | refine Ext2.on (by assumption) ?_)) (hb1.mono (by simp))
  have b0 : w1.heap[w.heap.size]? = some (Obj.cells #[.int .i64 F.high, .int .i64 F.space, .slice s.g.a F.glyphs.length s.g.cap, .slice s.k.a F.kerns.length s.k.cap, .int .i64 R.measure, .int .i64 R.lines, .int .i64 R.lead, .int .i64 R.short, .int .i64 R.extra, .int .i64 R.ink, .string t] 36) := below_blk hb1 (by repeat' (first | (with_reducible assumption) | (with_reducible refine blk_set_ne ?_ ?_) | (with_reducible exact blk_new _ _) | (with_reducible refine blk_new' _ _ (by first | (with_reducible rfl) | (simp; done) | (simp <;> omega))) | (with_reducible refine blk_alloc ?_ _) | (with_reducible refine blk_drew ?_) | (with_reducible refine blk_drewN ?_ _) | (with_reducible refine Ext2.blk (by assumption) ?_) | omega | (simp <;> omega) | exact blk_set (by assumption) _ _)) (by simp)
  clear hb1
  have q0c := cell_blk b0
  have q0f := frz_blk b0
  go_wp2_with (fail)
  (with_reducible refine (H2.out _ hB1).mono ?_)
  rintro e w2 ⟨rfl, hb2⟩
  have hB2 := below_ext hB1 hb2
  have HB2 := Lib.hid hB2
  clear hb2 hB1 hB2 q0c q0f b0
  go_wp2_with (fail)
  (with_reducible refine (H5.out _ HB2.out).mono ?_)
  rintro e w4 ⟨rfl, hb4⟩
  have hB4 := below_ext HB2.out hb4
  clear hb4
  go_wp2_with (fail)
  go_ret
  exact ⟨rfl, hB4⟩
end Go.Proofs.YtahgbecfaihfpaaDoor
