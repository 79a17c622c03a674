/-
  The law TitlePages, walked.
-/
import Derived.Test.YtahgbecfaihfpaaDoorTRefH
import Derived.Test.YtahgbecfaihfpaaDoorTRefP
import Derived.Test.YtahgbecfaihfpaaDoorTFrm
import Derived.Test.YtahgbecfaihfpaaDoorTAwM
namespace Go.Proofs.YtahgbecfaihfpaaDoor
open Go.RowKit D
set_option linter.unusedVariables false
set_option linter.unusedSimpArgs false
attribute [local go_sem high] run_minI run_maxI
attribute [local go_sem] upon2 cls_cell cls_frozen forall_const exists_eq_left'
attribute [local go_sem] FirstUpon
theorem run_eq_pl (w : World) (x0 x1 x2 : Int) : (binOp .eql 76 (.agg #[.int .i64 x0, .int .i64 x1, .int .i64 x2]) (.agg #[.int .i64 x0, .int .i64 x1, .int .i64 x2])).run Tryd.prog w = .ok (.bool true) w := by
  go_simp
/-- What Pages returns, as a list. -/
theorem pagesPost_list {w w' : World} {F : Font} {R : Rul} {t : ByteArray} {e : Ending} (h : PagesPost w F R t e w') : ∃ (sl : Sl) (pb : Nat → Nat), e = .returned (.tuple #[.slice sl.a (if openE F R t = 0 then npg F R (partsS t) (partsS t).length else 0) sl.cap, .int .i64 (openE F R t)]) ∧ RowS w' sl 3 (if openE F R t = 0 then npg F R (partsS t) (partsS t).length else 0) (frC F R pb) ∧ (∀ p, p < (if openE F R t = 0 then npg F R (partsS t) (partsS t).length else 0) → PixAt w' (pb p) (pixN F R) R.ink (ptsK F R (partsS t) p (partsS t).length)) ∧ Below w.heap.size w w' := by
  obtain ⟨⟨v, rfl, hv⟩, hb⟩ := h
  by_cases h0 : openE F R t = 0
  · simp only [if_pos h0] at hv ⊢
    obtain ⟨sl, pb, rfl, hr, hp⟩ := hv
    exact ⟨sl, pb, by rw [h0], hr, hp, hb⟩
  · simp only [if_neg h0] at hv ⊢
    subst hv
    exact ⟨⟨none, 0⟩, fun _ => 0, rfl, ⟨Nat.le_refl _, by simp, fun i j hi => absurd hi (Nat.not_lt_zero i)⟩, fun p hp => absurd hp (Nat.not_lt_zero p), hb⟩
theorem PixAt.ext2 {W W' : World} {b N : Nat} {ink : Int} {L : List Nat} (h : PixAt W b N ink L) (hg : Ext2 W W') : PixAt W' b N ink L := by
  obtain ⟨c, h1, h2, h3⟩ := h
  exact ⟨c, Ext2.blk hg h1, h2, h3⟩
set_option maxRecDepth 100000 in
set_option maxHeartbeats 2000000 in
theorem lawPages_any {F : Font} {s : FSl} {R : Rul} {t : ByteArray} {i : Int} {w : World} (hF : FontAt w F s) (ht : t.size ≤ maxLen) (hi : -9223372036854775808 ≤ i ∧ i ≤ 9223372036854775807) (hm : MaxAt w) : Calls Tryd.prog 13 #[.agg #[.int .i64 F.high, .int .i64 F.space, .slice s.g.a F.glyphs.length s.g.cap, .slice s.k.a F.kerns.length s.k.cap, .int .i64 R.measure, .int .i64 R.lines, .int .i64 R.lead, .int .i64 R.short, .int .i64 R.extra, .int .i64 R.ink, .string t], .int .i64 i] w fun e w' => e = .returned (.bool true) ∧ Below w.heap.size w w' := by
  have H1 : Hid (∀ W, Below w.heap.size w W → Calls Tryd.prog 28 #[.agg #[.int .i64 F.high, .int .i64 F.space, .slice s.g.a F.glyphs.length s.g.cap, .slice s.k.a F.kerns.length s.k.cap], .agg #[.int .i64 R.measure, .int .i64 R.lines, .int .i64 R.lead, .int .i64 R.short, .int .i64 R.extra, .int .i64 R.ink], .string t] W (PagesPost W F R t)) := Lib.hid fun W hW => pages_any (hF.below hW) (hm.below hW)
  have H2 : Hid (∀ W, Below w.heap.size w W → Calls Tryd.prog 38 #[.agg #[.int .i64 F.high, .int .i64 F.space, .slice s.g.a F.glyphs.length s.g.cap, .slice s.k.a F.kerns.length s.k.cap], .agg #[.int .i64 R.measure, .int .i64 R.lines, .int .i64 R.lead, .int .i64 R.short, .int .i64 R.extra, .int .i64 R.ink], .string t] W (PagesPost W F R t)) := Lib.hid fun W hW => pagesR_any (hF.below hW) ht
  have H5 : Hid (∀ W, Below w.heap.size w W → Calls Tryd.prog 20 #[] W fun e w' => e = .returned (.bool true) ∧ Below W.heap.size W w') := Lib.hid fun W hW => awake_any (hm.below hW)
  obtain ⟨x, hx⟩ : ∃ x, x = openE F R t := ⟨_, rfl⟩
  obtain ⟨m, hM⟩ : ∃ m, m = (if openE F R t = 0 then npg F R (partsS t) (partsS t).length else 0) := ⟨_, rfl⟩
  obtain ⟨⟨⟨a0, a1, a2⟩, d⟩, hV⟩ : ∃ V, V = placeV F R t i := ⟨_, rfl⟩
  have hv2 : ∀ {W W' : World} {e : Ending}, PlacePost W (placeV F R t i) e W' → e = .returned (.tuple #[.agg #[.int .i64 a0, .int .i64 a1, .int .i64 a2], .int .i64 d]) ∧ Below W.heap.size W W' := fun h => by rw [← hV] at h; exact h
  have H3 : Hid (∀ W, Below w.heap.size w W → Calls Tryd.prog 40 #[.agg #[.int .i64 F.high, .int .i64 F.space, .slice s.g.a F.glyphs.length s.g.cap, .slice s.k.a F.kerns.length s.k.cap], .agg #[.int .i64 R.measure, .int .i64 R.lines, .int .i64 R.lead, .int .i64 R.short, .int .i64 R.extra, .int .i64 R.ink], .string t, .int .i64 i] W fun e W' => e = .returned (.tuple #[.agg #[.int .i64 a0, .int .i64 a1, .int .i64 a2], .int .i64 d]) ∧ Below W.heap.size W W') := Lib.hid fun W hW => (place_any (hF.below hW) (hm.below hW) (IntWalk.i64_in _ (by omega))).mono fun e W' h => hv2 h
  have H4 : Hid (∀ W, Below w.heap.size w W → Calls Tryd.prog 41 #[.agg #[.int .i64 F.high, .int .i64 F.space, .slice s.g.a F.glyphs.length s.g.cap, .slice s.k.a F.kerns.length s.k.cap], .agg #[.int .i64 R.measure, .int .i64 R.lines, .int .i64 R.lead, .int .i64 R.short, .int .i64 R.extra, .int .i64 R.ink], .string t, .int .i64 i] W fun e W' => e = .returned (.tuple #[.agg #[.int .i64 a0, .int .i64 a1, .int .i64 a2], .int .i64 d]) ∧ Below W.heap.size W W') := Lib.hid fun W hW => (placeR_any (hF.below hW) ht).mono fun e W' h => hv2 h
  have HEQ : ∀ W : World, (binOp .eql 76 (.agg #[.int .i64 a0, .int .i64 a1, .int .i64 a2]) (.agg #[.int .i64 a0, .int .i64 a1, .int .i64 a2])).run Tryd.prog W = .ok (.bool true) W := fun W => run_eq_pl W a0 a1 a2
  have HX := Lib.hid hx; have HM := Lib.hid hM
  clear hF hm ht hx hM hV hv2 hi
  go_enter Tryd.func13, Tryd.ntmps13
  go_wp2_with (fail)
  (with_reducible refine (H1.out _ ?_).mono ?_)
  · repeat' (first | exact Below.refl _ _ | assumption | refine below_drewN ?_ _ | refine Below.drew ?_ | refine Below.alloc ?_ (by first | assumption | omega | (simp <;> omega)) _ | refine Below.setCell ?_ (by first | assumption | omega | (simp <;> omega)) _ | refine Ext2.on (by assumption) ?_)
  intro e w1 hp
  obtain ⟨s1, pb1, rfl, hr1, hq1, hb1⟩ := pagesPost_list hp
  rw [← HM.out] at hr1 hq1 ⊢
  rw [← HX.out]
  have hB1 : Below w.heap.size w w1 := Below.trans (by repeat' (first | exact Below.refl _ _ | assumption | refine below_drewN ?_ _ | refine Below.drew ?_ | refine Below.alloc ?_ (by first | assumption | omega | (simp <;> omega)) _ | refine Below.setCell ?_ (by first | assumption | omega | (simp <;> omega)) _ | refine Ext2.on (by assumption) ?_)) (hb1.mono (by simp))
  have b0 : w1.heap[w.heap.size]? = some (Obj.cells #[.int .i64 F.high, .int .i64 F.space, .slice s.g.a F.glyphs.length s.g.cap, .slice s.k.a F.kerns.length s.k.cap, .int .i64 R.measure, .int .i64 R.lines, .int .i64 R.lead, .int .i64 R.short, .int .i64 R.extra, .int .i64 R.ink, .string t] 36) := below_blk hb1 (by repeat' (first | (with_reducible assumption) | (with_reducible refine blk_set_ne ?_ ?_) | (with_reducible exact blk_new _ _) | (with_reducible refine blk_new' _ _ (by first | (with_reducible rfl) | (simp; done) | (simp <;> omega))) | (with_reducible refine blk_alloc ?_ _) | (with_reducible refine blk_drew ?_) | (with_reducible refine blk_drewN ?_ _) | (with_reducible refine Ext2.blk (by assumption) ?_) | omega | (simp <;> omega) | exact blk_set (by assumption) _ _)) (by simp)
  have HR1 := Lib.hid hr1; have HQ1 := Lib.hid hq1; have HB1 := Lib.hid hB1
  clear hb1 hr1 hq1 hp hB1
  have q0c := cell_blk b0
  have q0f := frz_blk b0
  go_wp2_with (fail)
  (with_reducible refine (H2.out _ HB1.out).mono ?_)
  intro e w2 hp
  obtain ⟨s2, pb2, rfl, hr2, hq2, hb2⟩ := pagesPost_list hp
  rw [← HM.out] at hr2 hq2 ⊢
  rw [← HX.out]
  have HB2 := Lib.hid (below_ext HB1.out hb2)
  have HIC := Lib.hid (framesR_any (RowS.below HR1.out hb2) (fun p hp => PixAt.ext2 (HQ1.out p hp) hb2) hr2 hq2)
  have b0 := Ext2.blk hb2 b0
  clear hb2 hr2 hq2 hp q0c q0f
  go_wp2_with (fail)
  refine HIC.out.mono ?_
  rintro e w3 ⟨rfl, hb3⟩
  have HB3 := Lib.hid (below_ext HB2.out hb3)
  have b0 := Ext2.blk hb3 b0
  clear hb3
  have q0c := cell_blk b0
  have q0f := frz_blk b0
  go_wp2_with (fail)
  (with_reducible refine (H3.out _ HB3.out).mono ?_)
  rintro e w4 ⟨rfl, hb4⟩
  have HB4 := Lib.hid (below_ext HB3.out hb4)
  have HP : Hid (Ext2 w4 (w4.alloc (Obj.cells #[.int .i64 a0, .int .i64 a1, .int .i64 a2] 76))) := Lib.hid (below_alloc' _ _)
  have b1 : (w4.alloc (Obj.cells #[.int .i64 a0, .int .i64 a1, .int .i64 a2] 76)).heap[w4.heap.size]? = some (Obj.cells #[.int .i64 a0, .int .i64 a1, .int .i64 a2] 76) := blk_new _ _
  have b0 := Ext2.blk HP.out (Ext2.blk hb4 b0)
  clear hb4 q0c q0f
  have q0c := cell_blk b0
  have q0f := frz_blk b0
  go_wp2_with (fail)
  (with_reducible refine (H4.out _ (below_ext HB4.out HP.out)).mono ?_)
  rintro e w5 ⟨rfl, hb5⟩
  have HB5 := Lib.hid (below_ext (below_ext HB4.out HP.out) hb5)
  have HQ : Hid (Ext2 w5 (w5.alloc (Obj.cells #[.int .i64 a0, .int .i64 a1, .int .i64 a2] 76))) := Lib.hid (below_alloc' _ _)
  have b2 : (w5.alloc (Obj.cells #[.int .i64 a0, .int .i64 a1, .int .i64 a2] 76)).heap[w5.heap.size]? = some (Obj.cells #[.int .i64 a0, .int .i64 a1, .int .i64 a2] 76) := blk_new _ _
  have b1 := Ext2.blk HQ.out (Ext2.blk hb5 b1)
  clear hb5 q0c q0f b0
  have q1c := cell_blk b1
  have q1f := frz_blk b1
  have q2c := cell_blk b2
  have q2f := frz_blk b2
  go_wp2_with (fail)
  (with_reducible refine (H5.out _ (below_ext HB5.out HQ.out)).mono ?_)
  rintro e w7 ⟨rfl, hb7⟩
  have hB7 := below_ext (below_ext HB5.out HQ.out) hb7
  clear hb7
  go_wp2_with (fail)
  go_ret
  exact ⟨rfl, hB7⟩
end Go.Proofs.YtahgbecfaihfpaaDoor
