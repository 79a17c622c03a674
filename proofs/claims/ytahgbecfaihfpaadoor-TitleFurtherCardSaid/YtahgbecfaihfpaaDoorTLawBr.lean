/-
  The law TitleBreaks, walked.
-/
import Derived.Test.YtahgbecfaihfpaaDoorTRefK
namespace Go.Proofs.YtahgbecfaihfpaaDoor
open Go.RowKit D
set_option linter.unusedVariables false
set_option linter.unusedSimpArgs false
attribute [local go_sem high] run_minI run_maxI
attribute [local go_sem] upon2 cls_cell cls_frozen forall_const exists_eq_left'
attribute [local go_sem] FirstUpon
/-- What Break returns, as a list. -/
theorem breakPost_list {w w' : World} {F : Font} {R : Rul} {t : ByteArray} {e : Ending} (h : BreakPost w F R t e w') : ∃ sl : Sl, e = .returned (.tuple #[.slice sl.a (if openE F R t = 0 then breaksL F R (partsS t) else []).length sl.cap, .int .i64 (openE F R t)]) ∧ RowS w' sl 4 (if openE F R t = 0 then breaksL F R (partsS t) else []).length (fun i => lnV (lnD (if openE F R t = 0 then breaksL F R (partsS t) else []) i)) ∧ Below w.heap.size w w' := by
  obtain ⟨⟨v, rfl, hv⟩, hb⟩ := h
  by_cases h0 : openE F R t = 0
  · simp only [if_pos h0] at hv ⊢
    obtain ⟨sl, rfl, hr⟩ := hv
    exact ⟨sl, by rw [h0], hr, hb⟩
  · simp only [if_neg h0] at hv ⊢
    subst hv
    exact ⟨⟨none, 0⟩, rfl, ⟨Nat.le_refl _, by simp, fun i j hi => absurd hi (Nat.not_lt_zero i)⟩, hb⟩
theorem restPost_list {w w' : World} {F : Font} {R : Rul} {t : ByteArray} {e : Ending} (h : RestPostR w F R t e w') : ∃ sl : Sl, e = .returned (.tuple #[.slice sl.a (if openE F R t = 0 then restL F R (partsS t) else []).length sl.cap, .int .i64 (openE F R t)]) ∧ IntsS w' sl (if openE F R t = 0 then restL F R (partsS t) else []) ∧ Below w.heap.size w w' := by
  obtain ⟨⟨v, rfl, hv⟩, hb⟩ := h
  by_cases h0 : openE F R t = 0
  · simp only [if_pos h0] at hv ⊢
    obtain ⟨sl, rfl, hr⟩ := hv
    exact ⟨sl, by rw [h0], hr, hb⟩
  · simp only [if_neg h0] at hv ⊢
    subst hv
    exact ⟨⟨none, 0⟩, rfl, ⟨Nat.le_refl _, by simp, fun i j hi => absurd hi (Nat.not_lt_zero i)⟩, hb⟩
theorem restPost_R {w w' : World} {F : Font} {R : Rul} {t : ByteArray} {e : Ending} (h : RestPost w F R t e w') : RestPostR w F R t e w' := by
  obtain ⟨⟨v, rfl, hv⟩, hb⟩ := h
  refine ⟨⟨v, rfl, ?_⟩, hb⟩
  by_cases h0 : openE F R t = 0
  · rw [if_pos h0] at hv ⊢
    obtain ⟨sl, rfl, hr⟩ := hv
    exact ⟨sl, rfl, hr.1⟩
  · rw [if_neg h0] at hv ⊢; exact hv
set_option maxRecDepth 100000 in
set_option maxHeartbeats 2000000 in
theorem lawBreaks_any {F : Font} {s : FSl} {R : Rul} {t : ByteArray} {w : World} (hF : FontAt w F s) (ht : t.size ≤ maxLen) (hm : MaxAt w) : Calls Tryd.prog 9 #[.agg #[.int .i64 F.high, .int .i64 F.space, .slice s.g.a F.glyphs.length s.g.cap, .slice s.k.a F.kerns.length s.k.cap], .agg #[.int .i64 R.measure, .int .i64 R.lines, .int .i64 R.lead, .int .i64 R.short, .int .i64 R.extra, .int .i64 R.ink], .string t] w fun e w' => e = .returned (.bool true) ∧ Below w.heap.size w w' := by
  have H1 : Hid (∀ W, Below w.heap.size w W → Calls Tryd.prog 33 #[.agg #[.int .i64 F.high, .int .i64 F.space, .slice s.g.a F.glyphs.length s.g.cap, .slice s.k.a F.kerns.length s.k.cap], .agg #[.int .i64 R.measure, .int .i64 R.lines, .int .i64 R.lead, .int .i64 R.short, .int .i64 R.extra, .int .i64 R.ink], .string t] W (BreakPost W F R t)) := Lib.hid fun W hW => break_any (hF.below hW) (hm.below hW)
  have H2 : Hid (∀ W, Below w.heap.size w W → Calls Tryd.prog 34 #[.agg #[.int .i64 F.high, .int .i64 F.space, .slice s.g.a F.glyphs.length s.g.cap, .slice s.k.a F.kerns.length s.k.cap], .agg #[.int .i64 R.measure, .int .i64 R.lines, .int .i64 R.lead, .int .i64 R.short, .int .i64 R.extra, .int .i64 R.ink], .string t] W (BreakPost W F R t)) := Lib.hid fun W hW => breakR_any (hF.below hW) ht
  have H3 : Hid (∀ W, Below w.heap.size w W → Calls Tryd.prog 25 #[.agg #[.int .i64 F.high, .int .i64 F.space, .slice s.g.a F.glyphs.length s.g.cap, .slice s.k.a F.kerns.length s.k.cap], .agg #[.int .i64 R.measure, .int .i64 R.lines, .int .i64 R.lead, .int .i64 R.short, .int .i64 R.extra, .int .i64 R.ink], .string t] W (RestPost W F R t)) := Lib.hid fun W hW => rest_any (hF.below hW) (hm.below hW)
  have H4 : Hid (∀ W, Below w.heap.size w W → Calls Tryd.prog 36 #[.agg #[.int .i64 F.high, .int .i64 F.space, .slice s.g.a F.glyphs.length s.g.cap, .slice s.k.a F.kerns.length s.k.cap], .agg #[.int .i64 R.measure, .int .i64 R.lines, .int .i64 R.lead, .int .i64 R.short, .int .i64 R.extra, .int .i64 R.ink], .string t] W (RestPostR W F R t)) := Lib.hid fun W hW => restR_any (hF.below hW) ht
  have H5 : Hid (∀ W, Below w.heap.size w W → Calls Tryd.prog 20 #[] W fun e w' => e = .returned (.bool true) ∧ Below W.heap.size W w') := Lib.hid fun W hW => awake_any (hm.below hW)
  obtain ⟨x, hx⟩ : ∃ x, x = openE F R t := ⟨_, rfl⟩
  obtain ⟨L, hL⟩ : ∃ L, L = (if openE F R t = 0 then breaksL F R (partsS t) else []) := ⟨_, rfl⟩
  obtain ⟨M, hM⟩ : ∃ M, M = (if openE F R t = 0 then restL F R (partsS t) else []) := ⟨_, rfl⟩
  have HX := Lib.hid hx; have HL := Lib.hid hL; have HM := Lib.hid hM
  clear hF hm ht hx hL hM
  go_enter Tryd.func9, Tryd.ntmps9
  go_wp2_with (fail)
  (with_reducible refine (H1.out _ ?_).mono ?_)
  · repeat' (first | exact Below.refl _ _ | assumption | refine below_drewN ?_ _ | refine Below.drew ?_ | refine Below.alloc ?_ (by first | assumption | omega | (simp <;> omega)) _ | refine Below.setCell ?_ (by first | assumption | omega | (simp <;> omega)) _ | refine Ext2.on (by assumption) ?_)
  intro e w1 hp
  obtain ⟨s1, rfl, hi1, hb1⟩ := breakPost_list hp
  rw [← HL.out] at hi1 ⊢
  rw [← HX.out]
  have hB1 : Below w.heap.size w w1 := Below.trans (by repeat' (first | exact Below.refl _ _ | assumption | refine below_drewN ?_ _ | refine Below.drew ?_ | refine Below.alloc ?_ (by first | assumption | omega | (simp <;> omega)) _ | refine Below.setCell ?_ (by first | assumption | omega | (simp <;> omega)) _ | refine Ext2.on (by assumption) ?_)) (hb1.mono (by simp; omega))
  have b0 : w1.heap[w.heap.size]? = some (Obj.cells #[.int .i64 F.high, .int .i64 F.space, .slice s.g.a F.glyphs.length s.g.cap, .slice s.k.a F.kerns.length s.k.cap] 25) := below_blk hb1 (by repeat' (first | (with_reducible assumption) | (with_reducible refine blk_set_ne ?_ ?_) | (with_reducible exact blk_new _ _) | (with_reducible refine blk_new' _ _ (by first | (with_reducible rfl) | (simp; done) | (simp <;> omega))) | (with_reducible refine blk_alloc ?_ _) | (with_reducible refine blk_drew ?_) | (with_reducible refine blk_drewN ?_ _) | (with_reducible refine Ext2.blk (by assumption) ?_) | omega | (simp <;> omega) | exact blk_set (by assumption) _ _)) (by simp; omega)
  have b1 : w1.heap[w.heap.size + 1]? = some (Obj.cells #[.int .i64 R.measure, .int .i64 R.lines, .int .i64 R.lead, .int .i64 R.short, .int .i64 R.extra, .int .i64 R.ink] 34) := below_blk hb1 (by repeat' (first | (with_reducible assumption) | (with_reducible refine blk_set_ne ?_ ?_) | (with_reducible exact blk_new _ _) | (with_reducible refine blk_new' _ _ (by first | (with_reducible rfl) | (simp; done) | (simp <;> omega))) | (with_reducible refine blk_alloc ?_ _) | (with_reducible refine blk_drew ?_) | (with_reducible refine blk_drewN ?_ _) | (with_reducible refine Ext2.blk (by assumption) ?_) | omega | (simp <;> omega) | exact blk_set (by assumption) _ _)) (by simp)
  have HI1 := Lib.hid hi1; have HB1 := Lib.hid hB1
  clear hb1 hi1 hp hB1
  have q0c := cell_blk b0
  have q0f := frz_blk b0
  have q1c := cell_blk b1
  have q1f := frz_blk b1
  go_wp2_with (fail)
  (with_reducible refine (H2.out _ HB1.out).mono ?_)
  intro e w2 hp
  obtain ⟨s2, rfl, hi2, hb2⟩ := breakPost_list hp
  rw [← HL.out] at hi2 ⊢
  rw [← HX.out]
  have HB2 := Lib.hid (below_ext HB1.out hb2)
  have HIC := Lib.hid (sameLines_any (RowS.below HI1.out hb2) hi2)
  have b0 := Ext2.blk hb2 b0; have b1 := Ext2.blk hb2 b1
  clear hb2 hi2 hp q0c q0f q1c q1f
  go_wp2_with (fail)
  refine HIC.out.mono ?_
  rintro e w3 ⟨rfl, hb3⟩
  simp only [decide_true]
  have HB3 := Lib.hid (below_ext HB2.out hb3)
  have b0 := Ext2.blk hb3 b0; have b1 := Ext2.blk hb3 b1
  clear hb3
  have q0c := cell_blk b0
  have q0f := frz_blk b0
  have q1c := cell_blk b1
  have q1f := frz_blk b1
  go_wp2_with (fail)
  (with_reducible refine (H3.out _ HB3.out).mono ?_)
  intro e w4 hp
  obtain ⟨s4, rfl, hi4, hb4⟩ := restPost_list (restPost_R hp)
  rw [← HM.out] at hi4 ⊢
  rw [← HX.out]
  have HB4 := Lib.hid (below_ext HB3.out hb4)
  have HI4 := Lib.hid hi4
  have b0 := Ext2.blk hb4 b0; have b1 := Ext2.blk hb4 b1
  clear hb4 hi4 hp q0c q0f q1c q1f
  have q0c := cell_blk b0
  have q0f := frz_blk b0
  have q1c := cell_blk b1
  have q1f := frz_blk b1
  go_wp2_with (fail)
  (with_reducible refine (H4.out _ HB4.out).mono ?_)
  intro e w5 hp
  obtain ⟨s5, rfl, hi5, hb5⟩ := restPost_list hp
  rw [← HM.out] at hi5 ⊢
  rw [← HX.out]
  have HB5 := Lib.hid (below_ext HB4.out hb5)
  have HI5 := Lib.hid (intsR_any (RowS.below HI4.out hb5) hi5)
  clear hb5 hi5 hp q0c q0f q1c q1f b0 b1
  go_wp2_with (fail)
  refine HI5.out.mono ?_
  rintro e w6 ⟨rfl, hb6⟩
  simp only [decide_true]
  have HB6 := Lib.hid (below_ext HB5.out hb6)
  clear hb6
  go_wp2_with (fail)
  (with_reducible refine (H5.out _ HB6.out).mono ?_)
  rintro e w7 ⟨rfl, hb7⟩
  have hB7 := below_ext HB6.out hb7
  clear hb7
  go_wp2_with (fail)
  go_ret
  exact ⟨rfl, hB7⟩
end Go.Proofs.YtahgbecfaihfpaaDoor
