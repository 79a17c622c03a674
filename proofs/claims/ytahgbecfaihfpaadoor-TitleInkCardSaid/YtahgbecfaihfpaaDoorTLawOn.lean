/-
  The law TitleOne, walked.
-/
import Derived.Test.YtahgbecfaihfpaaDoorTPlOne
import Derived.Test.YtahgbecfaihfpaaDoorTSameL
namespace Go.Proofs.YtahgbecfaihfpaaDoor
open Go.RowKit D
set_option linter.unusedVariables false
set_option linter.unusedSimpArgs false
attribute [local go_sem high] run_minI run_maxI
attribute [local go_sem] upon2 cls_cell cls_frozen forall_const exists_eq_left'
attribute [local go_sem] FirstUpon
theorem text_small {F : Font} {R : Rul} {t : ByteArray} (h : openE F R t = 0) : t.size ≤ 1000 := by
  have h2 : wordsE F R t = 0 := by unfold openE at h; split at h <;> omega
  unfold wordsE at h2
  split at h2
  · omega
  · omega
set_option maxRecDepth 100000 in
set_option maxHeartbeats 2000000 in
theorem lawOne_any {F : Font} {s : FSl} {R : Rul} {t : ByteArray} {w : World} (hF : FontAt w F s) (ht : t.size ≤ maxLen) (hm : MaxAt w) : Calls Tryd.prog 12 #[.agg #[.int .i64 F.high, .int .i64 F.space, .slice s.g.a F.glyphs.length s.g.cap, .slice s.k.a F.kerns.length s.k.cap, .int .i64 R.measure, .int .i64 R.lines, .int .i64 R.lead, .int .i64 R.short, .int .i64 R.extra, .int .i64 R.ink, .string t]] w fun e w' => e = .returned (.bool true) ∧ Below w.heap.size w w' := by
  have HBK : Hid (∀ W, Below w.heap.size w W → Calls Tryd.prog 33 #[.agg #[.int .i64 F.high, .int .i64 F.space, .slice s.g.a F.glyphs.length s.g.cap, .slice s.k.a F.kerns.length s.k.cap], .agg #[.int .i64 R.measure, .int .i64 R.lines, .int .i64 R.lead, .int .i64 R.short, .int .i64 R.extra, .int .i64 R.ink], .string t] W (BreakPost W F R t)) := Lib.hid fun W hW => break_any (hF.below hW) (hm.below hW)
  have H5 : Hid (∀ W, Below w.heap.size w W → Calls Tryd.prog 20 #[] W fun e w' => e = .returned (.bool true) ∧ Below W.heap.size W w') := Lib.hid fun W hW => awake_any (hm.below hW)
  have HF := Lib.hid hF
  obtain ⟨x, hx⟩ : ∃ x, x = openE F R t := ⟨_, rfl⟩
  have HX := Lib.hid hx
  clear hF hm hx
  go_enter Tryd.func12, Tryd.ntmps12
  go_wp2_with (fail)
  (with_reducible refine (HBK.out _ ?_).mono ?_)
  · repeat' (first | exact Below.refl _ _ | assumption | refine below_drewN ?_ _ | refine Below.drew ?_ | refine Below.alloc ?_ (by first | assumption | omega | (simp <;> omega)) _ | refine Below.setCell ?_ (by first | assumption | omega | (simp <;> omega)) _ | refine Ext2.on (by assumption) ?_)
  rintro e w1 ⟨⟨v1, rfl, hv1⟩, hb1⟩
  rw [← HX.out] at hv1 ⊢
  have hB1 : Below w.heap.size w w1 := Below.trans (by repeat' (first | exact Below.refl _ _ | assumption | refine below_drewN ?_ _ | refine Below.drew ?_ | refine Below.alloc ?_ (by first | assumption | omega | (simp <;> omega)) _ | refine Below.setCell ?_ (by first | assumption | omega | (simp <;> omega)) _ | refine Ext2.on (by assumption) ?_)) (hb1.mono (by simp))
  have b0 : w1.heap[w.heap.size]? = some (Obj.cells #[.int .i64 F.high, .int .i64 F.space, .slice s.g.a F.glyphs.length s.g.cap, .slice s.k.a F.kerns.length s.k.cap, .int .i64 R.measure, .int .i64 R.lines, .int .i64 R.lead, .int .i64 R.short, .int .i64 R.extra, .int .i64 R.ink, .string t] 36) := below_blk hb1 (by repeat' (first | (with_reducible assumption) | (with_reducible refine blk_set_ne ?_ ?_) | (with_reducible exact blk_new _ _) | (with_reducible refine blk_new' _ _ (by first | (with_reducible rfl) | (simp; done) | (simp <;> omega))) | (with_reducible refine blk_alloc ?_ _) | (with_reducible refine blk_drew ?_) | (with_reducible refine blk_drewN ?_ _) | (with_reducible refine Ext2.blk (by assumption) ?_) | omega | (simp <;> omega) | exact blk_set (by assumption) _ _)) (by simp)
  have HB1 := Lib.hid hB1; have HB0 := Lib.hid b0
  clear hb1 hB1
  by_cases h0 : x = 0
  case neg =>
    rw [if_neg h0] at hv1
    subst hv1
    have e1 : (x != 0) = true := by simp [h0]
    clear h0 b0
    go_wp2_with (fail)
    (with_reducible refine (H5.out _ HB1.out).mono ?_)
    rintro e w3 ⟨rfl, hb3⟩
    have hB3 := below_ext HB1.out hb3
    clear hb3
    go_wp2_with (fail)
    go_ret
    exact ⟨rfl, hB3⟩
  case pos =>
    rw [if_pos h0] at hv1
    subst h0
    obtain ⟨hk, hr, htx⟩ := open_ok HX.out.symm
    have hsm := text_small HX.out.symm
    have hset : ∀ i, i < (partsS t).length → setE F (strD (partsS t) i) = 0 := fun i hi => setE_ok HX.out.symm hi
    have HWO := Lib.hid (wordsL_any (t := t) (w := w1) hsm)
    obtain ⟨P, hP⟩ : ∃ P, P = partsS t := ⟨_, rfl⟩
    rw [← hP] at hv1 htx hset HWO
    obtain ⟨sl, rfl, hl⟩ := hv1
    have hlc := hl.le; have hlm := hl.max
    have HL := Lib.hid hl; have HK := Lib.hid hk; have HTX := Lib.hid htx; have HP := Lib.hid hP; have HRO := Lib.hid hr; have HST := Lib.hid hset
    have hln := lines_ok htx
    have hn40 := htx.n40; have hn1 := htx.n1
    have hbl : (breaksL F R P).length = nLines F R P := breaks_len ..
    rw [hbl] at hlc
    rw [hbl]
    obtain ⟨N, hN⟩ : ∃ N, N = nLines F R P := ⟨_, rfl⟩
    rw [← hN] at hlc hln ⊢
    have HN := Lib.hid hN; have HBL := Lib.hid hbl
    have hN40 : N ≤ P.length := hln.1
    have hN1 : 1 ≤ N := hln.2.2.2
    have hsp := hk.space
    have hww : ∀ i, i < P.length → 0 ≤ wW F (strD P i) ∧ wW F (strD P i) ≤ 68 := fun i hi => by have h1 := htx.wide i hi; have h2 := hr.measure; omega
    have HWW := Lib.hid hww
    clear hk hr htx hl hP hN hset hbl hln hww
    have q0c := cell_blk b0
    have q0f := frz_blk b0
    go_wp2_with (fail)
    refine HWO.out.mono ?_
    rintro e w2 ⟨⟨s2, rfl, hs2⟩, hb2⟩
    have HB2 := Lib.hid (below_ext HB1.out hb2)
    have b0 := Ext2.blk hb2 b0
    have h2c := hs2.le; have h2m := hs2.max
    have HL2 := Lib.hid (RowS.below HL.out hb2)
    have HWI := Lib.hid (widthsL_any (HF.out.below HB2.out) HST.out hs2 (by omega))
    clear hb2 q0c q0f hs2
    have q0c := cell_blk b0
    have q0f := frz_blk b0
    go_wp2_with (fail)
    refine HWI.out.mono ?_
    rintro e w3 ⟨⟨s3, rfl, hs3⟩, hb3⟩
    have HB3 := Lib.hid (below_ext HB2.out hb3)
    have b0 := Ext2.blk hb3 b0
    have HB03 := Lib.hid b0
    have h3c := hs3.le; have h3m := hs3.max
    rw [widL_len] at h3c
    have HL3 := Lib.hid (RowS.below HL2.out hb3)
    obtain ⟨wb, woff, hwa, -⟩ := int_cell hs3 (i := 0) (by rw [widL_len]; omega)
    obtain ⟨wa, wc⟩ := s3
    dsimp only at hwa h3c h3m
    subst hwa
    have HW3 := Lib.hid hs3
    clear hb3 q0c q0f hs3
    have e1 : ((N : Int) == 0) = false := by simp; omega
    have e2 : ¬ (N : Int) > (P.length : Int) := by omega
    have wl : IntKind.i64.wrap ((P.length : Int) - 1) = (P.length : Int) - 1 := IntWalk.i64_in _ (by omega)
    have hmul : 0 ≤ ((P.length : Int) - 1) * F.space ∧ ((P.length : Int) - 1) * F.space ≤ 39 * 20 := ⟨Int.mul_nonneg (by omega) (by omega), Int.mul_le_mul (by omega) (by omega) (by omega) (by omega)⟩
    obtain ⟨M, hM⟩ : ∃ M, M = ((P.length : Int) - 1) * F.space := ⟨_, rfl⟩
    rw [← hM] at hmul
    have wm : IntKind.i64.wrap (((P.length : Int) - 1) * F.space) = M := by rw [← hM]; exact IntWalk.i64_in _ (by omega)
    have HMM := Lib.hid hM
    clear hM
    have q0c := cell_blk b0
    have q0f := frz_blk b0
    go_wp2_with (fail)
    clear q0c q0f b0 wm wl
    have h00 : M = sumW F P 0 0 + ((P.length : Int) - 0) * F.space := by rw [HMM.out, sumW, Int.sub_zero, Int.sub_mul]; omega
    have H00 := Lib.hid h00
    clear h00
    go_loopw [8, 9] (fun v i wr => ∃ (k : Nat) (S : Int), i = .int .i64 (k : Int) ∧ k ≤ P.length ∧ v = .int .i64 S ∧ S = sumW F P 0 k + ((P.length : Int) - k) * F.space ∧ -20 ≤ S ∧ S ≤ 780 + 68 * (k : Int) ∧ wr = w3) (fun _ i _ => P.length - (intOf i).toNat)
    case atStart => exact ⟨0, M, rfl, Nat.zero_le _, rfl, H00.out, by omega, by omega, rfl⟩
    case round =>
      obtain ⟨k, S, rfl, hk, rfl, hS, hS1, hS2, rfl⟩ := hrel
      have HS := Lib.hid hS
      clear hS
      by_cases hlt : k < P.length
      · go_light
        obtain ⟨_, _, h1, c0⟩ := int_cell HW3.out (i := k) (by rw [widL_len]; exact hlt)
        obtain ⟨rfl, rfl⟩ : wb = _ ∧ woff = _ := by simpa using h1
        rw [widL_at F P hlt] at c0
        have hwk := HWW.out k hlt
        obtain ⟨wk, hwk2⟩ : ∃ x, x = wW F (strD P k) := ⟨_, rfl⟩
        rw [← hwk2] at c0 hwk
        have r0 : (0 : Int) ≤ (k : Int) := by omega
        have r1 : (k : Int) < (P.length : Int) := by omega
        have w3' : IntKind.i64.wrap ((k : Int) + 1) = (k : Int) + 1 := IntWalk.i64_in _ (by omega)
        have ws : IntKind.i64.wrap (S + wk) = S + wk := IntWalk.i64_in _ (by omega)
        have hst : S + wk = sumW F P 0 (k + 1) + ((P.length : Int) - ((k + 1 : Nat) : Int)) * F.space := by
          rw [HS.out, sumW, Nat.zero_add, ← hwk2]
          have e : ((P.length : Int) - ((k + 1 : Nat) : Int)) * F.space = ((P.length : Int) - (k : Int)) * F.space - F.space := by
            rw [show ((P.length : Int) - ((k + 1 : Nat) : Int)) = ((P.length : Int) - (k : Int)) - 1 by omega, Int.sub_mul, Int.one_mul]
          rw [e]; omega
        have HST2 := Lib.hid hst
        clear h1 hwk2 hst
        go_wp2_with (fail)
        go_roundw
        case rel => exact ⟨k + 1, S + wk, by go_num, hlt, rfl, HST2.out, by omega, by omega, True.intro⟩
        case measure => simp [intOf]; omega
      · obtain rfl : k = P.length := by omega
        have r1 : ¬ (P.length : Int) < (P.length : Int) := by omega
        have hSw : S = wideL F P 0 P.length := by
          rw [HS.out]; unfold wideL; rw [Nat.sub_zero, Int.sub_self, Int.zero_mul, Int.add_zero]
        have HSW := Lib.hid hSw
        have b0 := HB03.out
        clear hlt hSw
        have q0c := cell_blk b0
        have q0f := frz_blk b0
        by_cases hfit : S > R.measure
        · have hmore := more_lines HTX.out (by rw [← HSW.out]; exact hfit)
          rw [← HN.out] at hmore
          have e3 : (N : Int) > 1 := by omega
          go_wp2_with (fail)
          (with_reducible refine (H5.out _ HB3.out).mono ?_)
          rintro e w4 ⟨rfl, hb4⟩
          have hB4 := below_ext HB3.out hb4
          clear hb4
          go_wp2_with (fail)
          go_ret
          exact ⟨rfl, hB4⟩
        · have hone := one_line HK.out HRO.out HTX.out (by rw [← HSW.out]; omega)
          have HONE := Lib.hid hone
          clear hone
          go_wp2_with (fail)
          refine calls_name ?_
          intro w4 h4
          have hA : Ext2 wr w4 := by rw [h4]; exact below_alloc' _ _
          have n4 : w4.heap[wr.heap.size]? = some (Obj.cells #[.int .i64 0, .int .i64 (P.length : Int), .int .i64 S, .int .i64 0] 71 (0, 0)) := by rw [h4]; exact blk_new _ _
          have h := sameLines_any (l := breaksL F R P) (s := sl) (RowS.below HL3.out hA) (m := [⟨0, P.length, S, 0⟩]) (t := ⟨some ⟨wr.heap.size, 0, none⟩, 1⟩) (rows_blk n4 (by decide) (by
            intro i j hi hj
            obtain rfl : i = 0 := by have : i < 1 := hi; omega
            rcases (by omega : j = 0 ∨ j = 1 ∨ j = 2 ∨ j = 3) with rfl | rfl | rfl | rfl <;> rfl))
          rw [HBL.out, ← HN.out, decide_eq_true (by rw [HONE.out, HSW.out])] at h
          refine h.mono ?_
          clear h
          rintro e w5 ⟨rfl, hb5⟩
          have HB5 := Lib.hid (below_ext HB3.out (ext_trans hA hb5))
          clear h4 hA n4 hb5
          go_wp2_with (fail)
          (with_reducible refine (H5.out _ HB5.out).mono ?_)
          rintro e w6 ⟨rfl, hb6⟩
          have hB6 := below_ext HB5.out hb6
          clear hb6
          go_wp2_with (fail)
          go_ret
          exact ⟨rfl, hB6⟩
end Go.Proofs.YtahgbecfaihfpaaDoor
