/-
  The law TitleSets, walked.
-/
import Derived.Test.YtahgbecfaihfpaaDoorTAwM
import Derived.Test.YtahgbecfaihfpaaDoorTRefX
namespace Go.Proofs.YtahgbecfaihfpaaDoor
open Go.RowKit D
set_option linter.unusedVariables false
set_option linter.unusedSimpArgs false
attribute [local go_sem high] run_minI run_maxI
attribute [local go_sem] upon2 cls_cell cls_frozen forall_const exists_eq_left'
attribute [local go_sem] FirstUpon
/-- What Set returns, as a list. -/
theorem setVal_list {w : World} {F : Font} {t : ByteArray} {gv : Value} {wd : Int} (h : SetVal w F t gv wd) : ∃ sl : Sl, gv = .slice sl.a (if setE F t = 0 then ((setS F t.data.toList).getD []).map Int.ofNat else []).length sl.cap ∧ IntsS w sl (if setE F t = 0 then ((setS F t.data.toList).getD []).map Int.ofNat else []) ∧ wd = if setE F t = 0 then widS F ((setS F t.data.toList).getD []) ((setS F t.data.toList).getD []).length else 0 := by
  unfold SetVal at h
  by_cases h0 : setE F t = 0
  · rw [if_pos h0] at h
    obtain ⟨l, hl, hw, gs, hg, hi⟩ := h
    rw [if_pos h0, if_pos h0, hl]
    refine ⟨gs, ?_, hi.1, hw⟩
    rw [hg, Option.getD_some, ints_len]
  · rw [if_neg h0] at h
    rw [if_neg h0, if_neg h0]
    exact ⟨⟨none, 0⟩, h.1, ⟨Nat.le_refl _, by simp, fun i j hi => absurd hi (Nat.not_lt_zero i)⟩, h.2⟩
set_option maxRecDepth 100000 in
set_option maxHeartbeats 2000000 in
theorem lawSets_any {F : Font} {s : FSl} {t : ByteArray} {w : World} (hF : FontAt w F s) (ht : t.size ≤ maxLen) (hm : MaxAt w) : Calls Tryd.prog 3 #[.agg #[.int .i64 F.high, .int .i64 F.space, .slice s.g.a F.glyphs.length s.g.cap, .slice s.k.a F.kerns.length s.k.cap], .string t] w fun e w' => e = .returned (.bool true) ∧ Below w.heap.size w w' := by
  have H1 : Hid (∀ W, Below w.heap.size w W → Calls Tryd.prog 17 #[.agg #[.int .i64 F.high, .int .i64 F.space, .slice s.g.a F.glyphs.length s.g.cap, .slice s.k.a F.kerns.length s.k.cap], .string t] W (SetPost W F t)) := Lib.hid fun W hW => setApi_any (hF.below hW)
  have H2 : Hid (∀ W, Below w.heap.size w W → Calls Tryd.prog 18 #[.agg #[.int .i64 F.high, .int .i64 F.space, .slice s.g.a F.glyphs.length s.g.cap, .slice s.k.a F.kerns.length s.k.cap], .string t] W (SetPost W F t)) := Lib.hid fun W hW => setApiR_any (hF.below hW) ht
  have H5 : Hid (∀ W, Below w.heap.size w W → Calls Tryd.prog 20 #[] W fun e w' => e = .returned (.bool true) ∧ Below W.heap.size W w') := Lib.hid fun W hW => awake_any (hm.below hW)
  obtain ⟨x, hx⟩ : ∃ x, x = setE F t := ⟨_, rfl⟩
  obtain ⟨L, hL⟩ : ∃ L, L = (if setE F t = 0 then ((setS F t.data.toList).getD []).map Int.ofNat else []) := ⟨_, rfl⟩
  obtain ⟨N, hN⟩ : ∃ N, N = (if setE F t = 0 then widS F ((setS F t.data.toList).getD []) ((setS F t.data.toList).getD []).length else 0) := ⟨_, rfl⟩
  have HX := Lib.hid hx; have HL := Lib.hid hL; have HN := Lib.hid hN
  clear hF hm ht hx hL hN
  go_enter Tryd.func3, Tryd.ntmps3
  go_wp2_with (fail)
  (with_reducible refine (H1.out _ ?_).mono ?_)
  · repeat' (first | exact Below.refl _ _ | assumption | refine below_drewN ?_ _ | refine Below.drew ?_ | refine Below.alloc ?_ (by first | assumption | omega | (simp <;> omega)) _ | refine Below.setCell ?_ (by first | assumption | omega | (simp <;> omega)) _ | refine Ext2.on (by assumption) ?_)
  rintro e w1 ⟨⟨gv, wd, rfl, hv⟩, hb1⟩
  obtain ⟨s1, rfl, hi1, rfl⟩ := setVal_list hv
  rw [← HL.out] at hi1 ⊢
  rw [← HN.out, ← HX.out]
  have hB1 : Below w.heap.size w w1 := Below.trans (by repeat' (first | exact Below.refl _ _ | assumption | refine below_drewN ?_ _ | refine Below.drew ?_ | refine Below.alloc ?_ (by first | assumption | omega | (simp <;> omega)) _ | refine Below.setCell ?_ (by first | assumption | omega | (simp <;> omega)) _ | refine Ext2.on (by assumption) ?_)) (hb1.mono (by simp))
  have b0 : w1.heap[w.heap.size]? = some (Obj.cells #[.int .i64 F.high, .int .i64 F.space, .slice s.g.a F.glyphs.length s.g.cap, .slice s.k.a F.kerns.length s.k.cap] 25) := below_blk hb1 (by repeat' (first | (with_reducible assumption) | (with_reducible refine blk_set_ne ?_ ?_) | (with_reducible exact blk_new _ _) | (with_reducible refine blk_new' _ _ (by first | (with_reducible rfl) | (simp; done) | (simp <;> omega))) | (with_reducible refine blk_alloc ?_ _) | (with_reducible refine blk_drew ?_) | (with_reducible refine blk_drewN ?_ _) | (with_reducible refine Ext2.blk (by assumption) ?_) | omega | (simp <;> omega) | exact blk_set (by assumption) _ _)) (by simp)
  have HI1 := Lib.hid hi1
  clear hb1 hi1 hv
  have q0c := cell_blk b0
  have q0f := frz_blk b0
  go_wp2_with (fail)
  (with_reducible refine (H2.out _ hB1).mono ?_)
  rintro e w2 ⟨⟨gv, wd, rfl, hv⟩, hb2⟩
  obtain ⟨s2, rfl, hi2, rfl⟩ := setVal_list hv
  rw [← HL.out] at hi2 ⊢
  rw [← HN.out, ← HX.out]
  have hB2 := below_ext hB1 hb2
  have HIC := Lib.hid (intsR_any (RowS.below HI1.out hb2) hi2)
  have HB2 := Lib.hid hB2
  clear hb2 hi2 hv q0c q0f b0 hB1 hB2
  go_wp2_with (fail)
  refine HIC.out.mono ?_
  rintro e w3 ⟨rfl, hb3⟩
  simp only [decide_true]
  have hB3 := below_ext HB2.out hb3
  have HB3 := Lib.hid hB3
  clear hb3 hB3
  go_wp2_with (fail)
  (with_reducible refine (H5.out _ HB3.out).mono ?_)
  rintro e w4 ⟨rfl, hb4⟩
  have hB4 := below_ext HB3.out hb4
  clear hb4
  go_wp2_with (fail)
  go_ret
  exact ⟨rfl, hB4⟩
end Go.Proofs.YtahgbecfaihfpaaDoor
