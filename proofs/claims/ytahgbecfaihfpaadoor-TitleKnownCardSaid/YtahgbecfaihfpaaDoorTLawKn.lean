/-
  The law TitleKnown, walked.
-/
import Derived.Test.YtahgbecfaihfpaaDoorTSameL
namespace Go.Proofs.YtahgbecfaihfpaaDoor.D
def exFin : ByteArray := ⟨#[102, 105, 110]⟩
def exAx : ByteArray := ⟨#[97, 120]⟩
theorem exFinS : setS exF exFin.data.toList = some [3, 4] := by kernel_rfl
theorem exFinE : setE exF exFin = 0 := by kernel_rfl
theorem exFinW : widS exF [3, 4] 2 = 6 := by kernel_rfl
theorem exAxE : setE exF exAx = 200 := by kernel_rfl
theorem exBrk : breaksL exF exR (partsS exT) = [⟨0, 2, 12, 0⟩, ⟨2, 4, 12, 0⟩] := by kernel_rfl
theorem exJ3 : judgeV exF exR exT [2, 3, 4] = (64, 0) := by kernel_rfl
theorem exPl1 : placeV exF exR exT 1 = (⟨0, 0, 5⟩, 0) := by kernel_rfl
theorem exPl3 : placeV exF exR exT 3 = (⟨0, 1, 6⟩, 0) := by kernel_rfl
end Go.Proofs.YtahgbecfaihfpaaDoor.D
namespace Go.Proofs.YtahgbecfaihfpaaDoor
open Go.RowKit D
set_option linter.unusedVariables false
set_option linter.unusedSimpArgs false
attribute [local go_sem high] run_minI run_maxI
attribute [local go_sem] upon2 cls_cell cls_frozen forall_const exists_eq_left'
attribute [local go_sem] FirstUpon
theorem knSetC {w : World} {s : FSl} (hF : FontAt w exF s) : Calls Tryd.prog 17 #[.agg #[.int .i64 exF.high, .int .i64 exF.space, .slice s.g.a exF.glyphs.length s.g.cap, .slice s.k.a exF.kerns.length s.k.cap], .string ⟨#[102, 105, 110]⟩] w fun e w' => (∃ gs : Sl, e = .returned (.tuple #[.slice gs.a 2 gs.cap, .int .i64 6, .int .i64 0]) ∧ IntsS w' gs [3, 4]) ∧ Below w.heap.size w w' := by
  have h := setApi_any (t := exFin) hF
  refine h.mono ?_
  rintro e w' ⟨⟨gv, wd, rfl, hv⟩, hb⟩
  unfold SetVal at hv
  rw [exFinE] at hv ⊢
  rw [if_pos rfl, exFinS] at hv
  obtain ⟨l, hl, rfl, gs, rfl, hi⟩ := hv
  obtain rfl := Option.some.inj hl
  exact ⟨⟨gs, rfl, hi.1⟩, hb⟩
theorem knSetN {w : World} {s : FSl} (hF : FontAt w exF s) : Calls Tryd.prog 17 #[.agg #[.int .i64 exF.high, .int .i64 exF.space, .slice s.g.a exF.glyphs.length s.g.cap, .slice s.k.a exF.kerns.length s.k.cap], .string ⟨#[97, 120]⟩] w fun e w' => e = .returned (.tuple #[.slice none 0 0, .int .i64 0, .int .i64 200]) ∧ Below w.heap.size w w' := by
  have h := setApi_any (t := exAx) hF
  refine h.mono ?_
  rintro e w' ⟨⟨gv, wd, rfl, hv⟩, hb⟩
  unfold SetVal at hv
  rw [exAxE] at hv ⊢
  rw [if_neg (by decide)] at hv
  obtain ⟨rfl, rfl⟩ := hv
  exact ⟨rfl, hb⟩
theorem knBrkC {w : World} {s : FSl} (hF : FontAt w exF s) (hm : MaxAt w) : Calls Tryd.prog 33 #[.agg #[.int .i64 exF.high, .int .i64 exF.space, .slice s.g.a exF.glyphs.length s.g.cap, .slice s.k.a exF.kerns.length s.k.cap], .agg #[.int .i64 exR.measure, .int .i64 exR.lines, .int .i64 exR.lead, .int .i64 exR.short, .int .i64 exR.extra, .int .i64 exR.ink], .string exT] w fun e w' => (∃ sl : Sl, e = .returned (.tuple #[.slice sl.a 2 sl.cap, .int .i64 0]) ∧ RowS w' sl 4 2 (fun i => lnV (lnD [⟨0, 2, 12, 0⟩, ⟨2, 4, 12, 0⟩] i))) ∧ Below w.heap.size w w' := by
  refine (break_any hF hm).mono ?_
  rintro e w' ⟨⟨v, rfl, hv⟩, hb⟩
  rw [exOpen] at hv ⊢
  rw [if_pos rfl, exBrk] at hv
  obtain ⟨sl, rfl, hi⟩ := hv
  exact ⟨⟨sl, rfl, hi⟩, hb⟩
theorem knJC {w : World} {s : FSl} {b : Nat} (hF : FontAt w exF s) (hm : MaxAt w) (hE : w.heap[b]? = some (.cells #[.int .i64 2, .int .i64 3, .int .i64 4] 3 (0, 0))) : Calls Tryd.prog 21 #[.agg #[.int .i64 exF.high, .int .i64 exF.space, .slice s.g.a exF.glyphs.length s.g.cap, .slice s.k.a exF.kerns.length s.k.cap], .agg #[.int .i64 exR.measure, .int .i64 exR.lines, .int .i64 exR.lead, .int .i64 exR.short, .int .i64 exR.extra, .int .i64 exR.ink], .string exT, .slice (some ⟨b, 0, none⟩) 3 3] w fun e w' => e = .returned (.tuple #[.int .i64 64, .int .i64 0]) ∧ Below w.heap.size w w' := by
  have h := judge_any (R := exR) (t := exT) hF hm (ints_blk (l := [2, 3, 4]) hE (by decide))
  rw [exJ3] at h
  exact h
theorem knP1 {w : World} {s : FSl} (hF : FontAt w exF s) (hm : MaxAt w) : Calls Tryd.prog 40 #[.agg #[.int .i64 exF.high, .int .i64 exF.space, .slice s.g.a exF.glyphs.length s.g.cap, .slice s.k.a exF.kerns.length s.k.cap], .agg #[.int .i64 exR.measure, .int .i64 exR.lines, .int .i64 exR.lead, .int .i64 exR.short, .int .i64 exR.extra, .int .i64 exR.ink], .string exT, .int .i64 1] w fun e w' => e = .returned (.tuple #[.agg #[.int .i64 0, .int .i64 0, .int .i64 5], .int .i64 0]) ∧ Below w.heap.size w w' := by
  have h := place_any (R := exR) (t := exT) (i := 1) hF hm (by decide)
  rw [exPl1] at h
  exact h
theorem knP3 {w : World} {s : FSl} (hF : FontAt w exF s) (hm : MaxAt w) : Calls Tryd.prog 40 #[.agg #[.int .i64 exF.high, .int .i64 exF.space, .slice s.g.a exF.glyphs.length s.g.cap, .slice s.k.a exF.kerns.length s.k.cap], .agg #[.int .i64 exR.measure, .int .i64 exR.lines, .int .i64 exR.lead, .int .i64 exR.short, .int .i64 exR.extra, .int .i64 exR.ink], .string exT, .int .i64 3] w fun e w' => e = .returned (.tuple #[.agg #[.int .i64 0, .int .i64 1, .int .i64 6], .int .i64 0]) ∧ Below w.heap.size w w' := by
  have h := place_any (R := exR) (t := exT) (i := 3) hF hm (by decide)
  rw [exPl3] at h
  exact h
set_option maxRecDepth 100000 in
set_option maxHeartbeats 2000000 in
theorem lawKnown_any {w : World} (hm : MaxAt w) : Calls Tryd.prog 15 #[] w fun e w' => e = .returned (.bool true) ∧ Below w.heap.size w w' := by
  have HM := Lib.hid hm
  clear hm
  go_enter Tryd.func15, Tryd.ntmps15
  go_wp2_with (fail)
  refine (fontL_any _).mono ?_
  rintro e w1 ⟨⟨s1, rfl, hf1⟩, hb1⟩
  have HC := Lib.hid (knSetC hf1)
  have HB1 := Lib.hid hb1
  clear hf1 hb1
  go_wp2_with (fail)
  refine HC.out.mono ?_
  rintro e w2 ⟨⟨g1, rfl, hi1⟩, hb2⟩
  have HB2 := Lib.hid (below_ext HB1.out hb2)
  have HI1 := Lib.hid hi1
  clear HC HB1 hb2 hi1
  go_wp2_with (fail)
  refine (fontL_any _).mono ?_
  rintro e w3 ⟨⟨s2, rfl, hf2⟩, hb3⟩
  have HC := Lib.hid (knSetN hf2)
  have HB3 := Lib.hid hb3
  clear hf2 hb3
  go_wp2_with (fail)
  refine HC.out.mono ?_
  rintro e w4 ⟨rfl, hb4⟩
  have hE4 : Ext2 w2 w4 := ext_trans HB3.out hb4
  have HI1 := Lib.hid (RowS.below HI1.out hE4)
  have HB4 := Lib.hid (below_ext HB2.out hE4)
  clear HC HB3 hb4 hE4 HB2
  go_wp2_with (fail)
  refine (fontL_any _).mono ?_
  rintro e w5 ⟨⟨s3, rfl, hfx⟩, hb1⟩
  go_wp2_with (fail)
  refine (ruleL_any _).mono ?_
  rintro e w6 ⟨rfl, hb2⟩
  go_wp2_with (fail)
  refine (textL_any _).mono ?_
  rintro e w7 ⟨rfl, hb3⟩
  have hE3 : Ext2 w4 w7 := ext_trans hb1 (ext_trans hb2 hb3)
  have HC := Lib.hid (knBrkC (hfx.below (ext_trans hb2 hb3)) (HM.out.below (below_ext HB4.out hE3)))
  have HE3 := Lib.hid hE3
  clear hfx hb1 hb2 hb3 hE3
  go_wp2_with (fail)
  refine HC.out.mono ?_
  rintro e w8 ⟨⟨g2, rfl, hi2⟩, hb8⟩
  have hE8 : Ext2 w4 w8 := ext_trans HE3.out hb8
  have HI1 := Lib.hid (RowS.below HI1.out hE8)
  have HI2 := Lib.hid hi2
  have HB4 := Lib.hid (below_ext HB4.out hE8)
  clear HC HE3 hb8 hE8 hi2
  go_wp2_with (fail)
  refine (fontL_any _).mono ?_
  rintro e w9 ⟨⟨s4, rfl, hf4⟩, hb9⟩
  go_wp2_with (fail)
  refine (ruleL_any _).mono ?_
  rintro e w10 ⟨rfl, hb10⟩
  go_wp2_with (fail)
  refine (textL_any _).mono ?_
  rintro e w11 ⟨rfl, hb11⟩
  have HE11 : Hid (Ext2 w8 w11) := Lib.hid (ext_trans hb9 (ext_trans hb10 hb11))
  have HF11 := Lib.hid (hf4.below (ext_trans hb10 hb11))
  clear hf4 hb9 hb10 hb11
  go_wp2_with (fail)
  refine calls_name ?_
  intro w12 h12
  have hA : Ext2 w11 w12 := by rw [h12]; exact below_alloc' _ _
  have n12 : w12.heap[w11.heap.size]? = some (.cells #[.int .i64 2, .int .i64 3, .int .i64 4] 3 (0, 0)) := by rw [h12]; exact blk_new _ _
  have hE12 := ext_trans HE11.out hA
  refine (knJC (HF11.out.below hA) (HM.out.below (below_ext HB4.out hE12)) n12).mono ?_
  rintro e w13 ⟨rfl, hb13⟩
  have hE13 := ext_trans hE12 hb13
  have HI1 := Lib.hid (RowS.below HI1.out hE13); have HI2 := Lib.hid (RowS.below HI2.out hE13)
  have HB4 := Lib.hid (below_ext HB4.out hE13)
  clear h12 hA n12 hE12 hb13 hE13 HE11 HF11
  go_wp2_with (fail)
  refine (fontL_any _).mono ?_
  rintro e w14 ⟨⟨s5, rfl, hfx⟩, hb1⟩
  go_wp2_with (fail)
  refine (ruleL_any _).mono ?_
  rintro e w15 ⟨rfl, hb2⟩
  go_wp2_with (fail)
  refine (textL_any _).mono ?_
  rintro e w16 ⟨rfl, hb3⟩
  have hE3 : Ext2 w13 w16 := ext_trans hb1 (ext_trans hb2 hb3)
  have HC := Lib.hid (knP1 (hfx.below (ext_trans hb2 hb3)) (HM.out.below (below_ext HB4.out hE3)))
  have HE3 := Lib.hid hE3
  clear hfx hb1 hb2 hb3 hE3
  go_wp2_with (fail)
  refine HC.out.mono ?_
  rintro e w17 ⟨rfl, hb17⟩
  have hE17 := ext_trans HE3.out hb17
  have HI1 := Lib.hid (RowS.below HI1.out hE17); have HI2 := Lib.hid (RowS.below HI2.out hE17)
  have HB4 := Lib.hid (below_ext HB4.out hE17)
  clear HC HE3 hb17 hE17
  go_wp2_with (fail)
  refine calls_name ?_
  intro w18 h18
  have hA : Ext2 w17 w18 := by rw [h18]; repeat' (first | exact Below.refl _ _ | assumption | refine below_drewN ?_ _ | refine Below.drew ?_ | refine Below.alloc ?_ (by first | assumption | omega | (simp <;> omega)) _ | refine Below.setCell ?_ (by first | assumption | omega | (simp <;> omega)) _ | refine Ext2.on (by assumption) ?_)
  obtain ⟨p1, hp1⟩ : ∃ x, x = w17.heap.size := ⟨_, rfl⟩
  have n18 : w18.heap[p1]? = some (.cells #[.int .i64 0, .int .i64 0, .int .i64 5] 76 (0, 0)) := by rw [h18, hp1]; repeat' (first | (with_reducible assumption) | (with_reducible refine blk_set_ne ?_ ?_) | (with_reducible exact blk_new _ _) | (with_reducible refine blk_new' _ _ (by first | (with_reducible rfl) | (simp; done) | (simp <;> omega))) | (with_reducible refine blk_alloc ?_ _) | (with_reducible refine blk_drew ?_) | (with_reducible refine blk_drewN ?_ _) | (with_reducible refine Ext2.blk (by assumption) ?_) | omega | (simp <;> omega) | exact blk_set (by assumption) _ _)
  have HI1 := Lib.hid (RowS.below HI1.out hA); have HI2 := Lib.hid (RowS.below HI2.out hA)
  have HB4 := Lib.hid (below_ext HB4.out hA)
  have HN := Lib.hid n18
  rw [← hp1]
  clear h18 hA n18 hp1
  refine (fontL_any _).mono ?_
  rintro e w19 ⟨⟨s6, rfl, hfx⟩, hb1⟩
  go_wp2_with (fail)
  refine (ruleL_any _).mono ?_
  rintro e w20 ⟨rfl, hb2⟩
  go_wp2_with (fail)
  refine (textL_any _).mono ?_
  rintro e w21 ⟨rfl, hb3⟩
  have hE3 : Ext2 w18 w21 := ext_trans hb1 (ext_trans hb2 hb3)
  have HC := Lib.hid (knP3 (hfx.below (ext_trans hb2 hb3)) (HM.out.below (below_ext HB4.out hE3)))
  have HE3 := Lib.hid hE3
  clear hfx hb1 hb2 hb3 hE3
  go_wp2_with (fail)
  refine HC.out.mono ?_
  rintro e w22 ⟨rfl, hb22⟩
  have hE22 := ext_trans HE3.out hb22
  have HI1 := Lib.hid (RowS.below HI1.out hE22); have HI2 := Lib.hid (RowS.below HI2.out hE22)
  have HB4 := Lib.hid (below_ext HB4.out hE22)
  have HN := Lib.hid (Ext2.blk hE22 HN.out)
  clear HC HE3 hb22 hE22
  go_wp2_with (fail)
  refine calls_name ?_
  intro w23 h23
  have hA : Ext2 w22 w23 := by rw [h23]; repeat' (first | exact Below.refl _ _ | assumption | refine below_drewN ?_ _ | refine Below.drew ?_ | refine Below.alloc ?_ (by first | assumption | omega | (simp <;> omega)) _ | refine Below.setCell ?_ (by first | assumption | omega | (simp <;> omega)) _ | refine Ext2.on (by assumption) ?_)
  obtain ⟨p3, hp3⟩ : ∃ x, x = w22.heap.size := ⟨_, rfl⟩
  have n23 : w23.heap[p3]? = some (.cells #[.int .i64 0, .int .i64 1, .int .i64 6] 76 (0, 0)) := by rw [h23, hp3]; exact blk_alloc (blk_new _ _) _
  have x23 : w23.heap[w22.heap.size + 1]? = some (.cells #[.int .i64 3, .int .i64 4] 3 (0, 0)) := by rw [h23]; exact blk_new' _ _ (by simp)
  have h := intsR_any (RowS.below HI1.out hA) (ints_blk (l := [3, 4]) x23 (by decide))
  refine h.mono ?_
  clear h
  rintro e w24 ⟨rfl, hb24⟩
  have hE24 := ext_trans hA hb24
  have HI2 := Lib.hid (RowS.below HI2.out hE24)
  have HB4 := Lib.hid (below_ext HB4.out hE24)
  have HN := Lib.hid (Ext2.blk hE24 HN.out)
  have HN3 := Lib.hid (Ext2.blk hb24 n23)
  rw [← hp3]
  clear h23 hA n23 x23 hb24 hE24 hp3
  rw [decide_eq_true rfl]
  go_wp2_with (fail)
  refine calls_name ?_
  intro w25 h25
  have hA : Ext2 w24 w25 := by rw [h25]; exact below_alloc' _ _
  have n25 : w25.heap[w24.heap.size]? = some (.cells #[.int .i64 0, .int .i64 2, .int .i64 12, .int .i64 0, .int .i64 2, .int .i64 4, .int .i64 12, .int .i64 0] 71 (0, 0)) := by rw [h25]; exact blk_new _ _
  have h := sameLines_any (l := [⟨0, 2, 12, 0⟩, ⟨2, 4, 12, 0⟩]) (s := g2) (RowS.below HI2.out hA) (m := [⟨0, 2, 12, 0⟩, ⟨2, 4, 12, 0⟩]) (t := ⟨some ⟨w24.heap.size, 0, none⟩, 2⟩) (rows_blk n25 (by decide) (by
    intro i j hi hj
    rcases (show i = 0 ∨ i = 1 by have : i < 2 := hi; omega) with rfl | rfl <;> rcases (by omega : j = 0 ∨ j = 1 ∨ j = 2 ∨ j = 3) with rfl | rfl | rfl | rfl <;> rfl))
  refine h.mono ?_
  clear h
  rintro e w26 ⟨rfl, hb26⟩
  have hE26 := ext_trans hA hb26
  have HB4 := Lib.hid (below_ext HB4.out hE26)
  have n1 := Ext2.blk hE26 HN.out
  have n3 := Ext2.blk hE26 HN3.out
  clear h25 hA n25 hb26 hE26 HN HN3
  rw [decide_eq_true rfl]
  have q1c := cell_blk n1
  have q1f := frz_blk n1
  have q3c := cell_blk n3
  have q3f := frz_blk n3
  have H5 : Hid (∀ W, Below w.heap.size w W → Calls Tryd.prog 20 #[] W fun e w' => e = .returned (.bool true) ∧ Below W.heap.size W w') := Lib.hid fun W hW => awake_any (HM.out.below hW)
  go_wp2_with (fail)
  (with_reducible refine (H5.out _ HB4.out).mono ?_)
  rintro e w27 ⟨rfl, hb27⟩
  have hB27 := below_ext HB4.out hb27
  clear hb27
  go_wp2_with (fail)
  go_ret
  exact ⟨rfl, hB27⟩
end Go.Proofs.YtahgbecfaihfpaaDoor
