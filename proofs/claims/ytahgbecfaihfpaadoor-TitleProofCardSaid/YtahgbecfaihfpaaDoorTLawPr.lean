/-
  The law TitleProof, walked.
-/
import Derived.Test.YtahgbecfaihfpaaDoorTPlProof
import Derived.Test.YtahgbecfaihfpaaDoorTLawOn
namespace Go.Proofs.YtahgbecfaihfpaaDoor
open Go.RowKit D
set_option linter.unusedVariables false
set_option linter.unusedSimpArgs false
attribute [local go_sem high] run_minI run_maxI
attribute [local go_sem] upon2 cls_cell cls_frozen forall_const exists_eq_left'
attribute [local go_sem] FirstUpon
set_option maxRecDepth 100000 in
set_option maxHeartbeats 2000000 in
theorem lawProof_any {F : Font} {s : FSl} {R : Rul} {t : ByteArray} {w : World} (hF : FontAt w F s) (ht : t.size ≤ maxLen) (hm : MaxAt w) : Calls Tryd.prog 6 #[.agg #[.int .i64 F.high, .int .i64 F.space, .slice s.g.a F.glyphs.length s.g.cap, .slice s.k.a F.kerns.length s.k.cap, .int .i64 R.measure, .int .i64 R.lines, .int .i64 R.lead, .int .i64 R.short, .int .i64 R.extra, .int .i64 R.ink, .string t]] w fun e w' => e = .returned (.bool true) ∧ Below w.heap.size w w' := by
  have HRE : Hid (∀ W, Below w.heap.size w W → Calls Tryd.prog 25 #[.agg #[.int .i64 F.high, .int .i64 F.space, .slice s.g.a F.glyphs.length s.g.cap, .slice s.k.a F.kerns.length s.k.cap], .agg #[.int .i64 R.measure, .int .i64 R.lines, .int .i64 R.lead, .int .i64 R.short, .int .i64 R.extra, .int .i64 R.ink], .string t] W (RestPost W F R t)) := Lib.hid fun W hW => rest_any (hF.below hW) (hm.below hW)
  have H5 : Hid (∀ W, Below w.heap.size w W → Calls Tryd.prog 20 #[] W fun e w' => e = .returned (.bool true) ∧ Below W.heap.size W w') := Lib.hid fun W hW => awake_any (hm.below hW)
  have HF := Lib.hid hF
  obtain ⟨x, hx⟩ : ∃ x, x = openE F R t := ⟨_, rfl⟩
  have HX := Lib.hid hx
  clear hF hm hx
  go_enter Tryd.func6, Tryd.ntmps6
  go_wp2_with (fail)
  (with_reducible refine (HRE.out _ ?_).mono ?_)
  · repeat' (first | exact Below.refl _ _ | assumption | refine below_drewN ?_ _ | refine Below.drew ?_ | refine Below.alloc ?_ (by first | assumption | omega | (simp <;> omega)) _ | refine Below.setCell ?_ (by first | assumption | omega | (simp <;> omega)) _ | refine Ext2.on (by assumption) ?_)
  rintro e w1 ⟨⟨v1, rfl, hv1⟩, hb1⟩
  rw [← HX.out] at hv1 ⊢
  have hB1 : Below w.heap.size w w1 := Below.trans (by repeat' (first | exact Below.refl _ _ | assumption | refine below_drewN ?_ _ | refine Below.drew ?_ | refine Below.alloc ?_ (by first | assumption | omega | (simp <;> omega)) _ | refine Below.setCell ?_ (by first | assumption | omega | (simp <;> omega)) _ | refine Ext2.on (by assumption) ?_)) (hb1.mono (by simp))
  have b0 : w1.heap[w.heap.size]? = some (Obj.cells #[.int .i64 F.high, .int .i64 F.space, .slice s.g.a F.glyphs.length s.g.cap, .slice s.k.a F.kerns.length s.k.cap, .int .i64 R.measure, .int .i64 R.lines, .int .i64 R.lead, .int .i64 R.short, .int .i64 R.extra, .int .i64 R.ink, .string t] 36) := below_blk hb1 (by repeat' (first | (with_reducible assumption) | (with_reducible refine blk_set_ne ?_ ?_) | (with_reducible exact blk_new _ _) | (with_reducible refine blk_new' _ _ (by first | (with_reducible rfl) | (simp; done) | (simp <;> omega))) | (with_reducible refine blk_alloc ?_ _) | (with_reducible refine blk_drew ?_) | (with_reducible refine blk_drewN ?_ _) | (with_reducible refine Ext2.blk (by assumption) ?_) | omega | (simp <;> omega) | exact blk_set (by assumption) _ _)) (by simp)
  have HB1 := Lib.hid hB1; have HB0 := Lib.hid b0
  clear hb1 hB1
  by_cases h0 : x = 0
  case neg =>
    rw [if_neg h0] at hv1
    subst hv1
    have e1 : (x != 0) = true := by simp [h0]
    clear h0 b0
    go_wp2_with (fail)
    (with_reducible refine (H5.out _ HB1.out).mono ?_)
    rintro e w3 ⟨rfl, hb3⟩
    have hB3 := below_ext HB1.out hb3
    clear hb3
    go_wp2_with (fail)
    go_ret
    exact ⟨rfl, hB3⟩
  case pos =>
    rw [if_pos h0] at hv1
    subst h0
    obtain ⟨hk, hr, htx⟩ := open_ok HX.out.symm
    have hsm := text_small HX.out.symm
    have hset : ∀ i, i < (partsS t).length → setE F (strD (partsS t) i) = 0 := fun i hi => setE_ok HX.out.symm hi
    have HWO := Lib.hid (wordsL_any (t := t) (w := w1) hsm)
    obtain ⟨P, hP⟩ : ∃ P, P = partsS t := ⟨_, rfl⟩
    rw [← hP] at hv1 htx hset HWO
    obtain ⟨sl, rfl, hl⟩ := hv1
    have hlc := hl.1.le; have hlm := hl.1.max
    have hrl : (restL F R P).length = P.length + 1 := rest_len F R P
    rw [hrl] at hlc
    rw [hrl]
    obtain ⟨rb, roff, hra, -⟩ := int_cell hl.1 (i := 0) (by rw [hrl]; omega)
    obtain ⟨ra, rc⟩ := sl
    dsimp only at hra hlc hlm
    subst hra
    dsimp only
    have HL := Lib.hid hl.1; have HK := Lib.hid hk; have HTX := Lib.hid htx; have HP := Lib.hid hP; have HRO := Lib.hid hr; have HST := Lib.hid hset
    have hn40 := htx.n40; have hn1 := htx.n1
    have hsp := hk.space
    have hms := hr.measure
    have hex := hr.extra
    have hww : ∀ i, i < P.length → 0 ≤ wW F (strD P i) ∧ wW F (strD P i) ≤ 68 := fun i hi => by have h1 := htx.wide i hi; omega
    have HWW := Lib.hid hww
    clear hk hr htx hl hP hset hww hrl
    have q0c := cell_blk b0
    have q0f := frz_blk b0
    go_wp2_with (fail)
    refine HWO.out.mono ?_
    rintro e w2 ⟨⟨s2, rfl, hs2⟩, hb2⟩
    have HB2 := Lib.hid (below_ext HB1.out hb2)
    have b0 := Ext2.blk hb2 b0
    have h2c := hs2.le; have h2m := hs2.max
    obtain ⟨sb, soff, hsa, -⟩ := str_cell hs2 (i := 0) (by omega)
    obtain ⟨sa, sc⟩ := s2
    dsimp only at hsa h2c h2m
    subst hsa
    dsimp only
    have HL2 := Lib.hid (RowS.below HL.out hb2)
    have HS2 := Lib.hid hs2
    have HWI := Lib.hid (widthsL_any (HF.out.below HB2.out) HST.out hs2 (by omega))
    clear hb2 q0c q0f hs2
    have q0c := cell_blk b0
    have q0f := frz_blk b0
    go_wp2_with (fail)
    refine HWI.out.mono ?_
    rintro e w3 ⟨⟨s3, rfl, hs3⟩, hb3⟩
    have HB3 := Lib.hid (below_ext HB2.out hb3)
    have b0 := Ext2.blk hb3 b0
    have HB03 := Lib.hid b0
    have h3c := hs3.le; have h3m := hs3.max
    rw [widL_len] at h3c
    have HL3 := Lib.hid (RowS.below HL2.out hb3)
    have HS3 := Lib.hid (RowS.below HS2.out hb3)
    obtain ⟨wb, woff, hwa, -⟩ := int_cell hs3 (i := 0) (by rw [widL_len]; omega)
    obtain ⟨wa, wc⟩ := s3
    dsimp only at hwa h3c h3m
    subst hwa
    dsimp only
    have HW3 := Lib.hid hs3
    clear hb3 q0c q0f hs3
    have wl : IntKind.i64.wrap ((P.length : Int) + 1) = (P.length : Int) + 1 := IntWalk.i64_in _ (by omega)
    have e1 : (((P.length : Int) + 1) != ((P.length : Int) + 1)) = false := by simp
    have i0 : (0 : Int) ≤ (P.length : Int) := by omega
    have i1 : (P.length : Int) < (P.length : Int) + 1 := by omega
    obtain ⟨_, _, hz1, cz⟩ := int_cell HL3.out (i := P.length) (by rw [rest_len]; omega)
    obtain ⟨rfl, rfl⟩ : rb = _ ∧ roff = _ := by simpa using hz1
    rw [restL_at F R P (by omega), restS_end] at cz
    dsimp only at cz
    clear hz1
    go_wp2_with (fail)
    clear wl e1 i0 i1 cz b0
    go_loopw [8] (fun i wr => ∃ k : Nat, i = .int .i64 (k : Int) ∧ k ≤ P.length ∧ Ext2 w3 wr) (fun i _ => P.length - (intOf i).toNat)
    case atStart => exact ⟨0, rfl, Nat.zero_le _, Below.refl _ _⟩
    case round =>
      obtain ⟨i, rfl, hi, hEi⟩ := hrel
      have HEi := Lib.hid hEi
      have b0 := Ext2.blk hEi HB03.out
      by_cases hil : i < P.length
      · go_light
        have r0 : (0 : Int) ≤ (i : Int) := by omega
        have r1 : (i : Int) < (P.length : Int) := by omega
        have w3' : IntKind.i64.wrap ((i : Int) + 1) = (i : Int) + 1 := IntWalk.i64_in _ (by omega)
        have wn : IntKind.i64.wrap (-F.space) = -F.space := IntWalk.i64_in _ (by omega)
        have q0c := cell_blk b0
        have q0f := frz_blk b0
        go_wp2_with (fail)
        clear q0c q0f b0 wn
        go_loopw [9, 10, 11] (fun v f j wr => ∃ (k : Nat) (b : Bool), j = .int .i64 (k : Int) ∧ i ≤ k ∧ k ≤ P.length ∧ v = .int .i64 (sumW F P i (k - i)) ∧ f = .bool b ∧ ((∃ e, i < e ∧ e ≤ k ∧ metAt F R P i e) → b = true) ∧ Ext2 w3 wr) (fun _ _ j _ => P.length - (intOf j).toNat)
        case atStart => exact ⟨i, false, rfl, Nat.le_refl _, hi, by rw [Nat.sub_self]; rfl, rfl, fun ⟨e, h1, h2, _⟩ => by omega, HEi.out⟩
        case round =>
          obtain ⟨k, b, rfl, hik, hk, rfl, rfl, hfd, hEr⟩ := hrel
          have HFD := Lib.hid hfd; have HEr := Lib.hid hEr
          have b0 := Ext2.blk hEr HB03.out
          clear hfd
          by_cases hlt : k < P.length
          · obtain ⟨_, _, h1, c0⟩ := int_cell (RowS.below HW3.out hEr) (i := k) (by rw [widL_len]; exact hlt)
            obtain ⟨rfl, rfl⟩ : wb = _ ∧ woff = _ := by simpa using h1
            rw [widL_at F P hlt] at c0
            have hwk := HWW.out k hlt
            have hsr := sumW_rng HK.out HRO.out HTX.out i (k - i) (by omega)
            have hst : sumW F P i (k - i + 1) = sumW F P i (k - i) + F.space + wW F (strD P k) := by rw [sumW, show i + (k - i) = k by omega]; omega
            obtain ⟨wk, hwk2⟩ : ∃ x, x = wW F (strD P k) := ⟨_, rfl⟩
            obtain ⟨S, hS⟩ : ∃ x, x = sumW F P i (k - i) := ⟨_, rfl⟩
            obtain ⟨S', hS'⟩ : ∃ x, x = sumW F P i (k - i + 1) := ⟨_, rfl⟩
            rw [← hwk2] at c0 hwk hst
            rw [← hS] at hsr hst ⊢
            rw [← hS'] at hst
            have k0 : (0 : Int) ≤ (k : Int) := by omega
            have k1 : (k : Int) < (P.length : Int) := by omega
            have wk1 : IntKind.i64.wrap ((k : Int) + 1) = (k : Int) + 1 := IntWalk.i64_in _ (by omega)
            have ws1 : IntKind.i64.wrap (S + F.space) = S + F.space := IntWalk.i64_in _ (by omega)
            have ws2 : IntKind.i64.wrap (S + F.space + wk) = S' := by rw [hst]; exact IntWalk.i64_in _ (by omega)
            have HSS := Lib.hid hS'
            have hS'r : -20 ≤ S' ∧ S' ≤ 3000 := by omega
            clear h1 hwk2 hS hS' hst hsr hwk
            have q0c := cell_blk b0
            have q0f := frz_blk b0
            go_wp2_with (fail)
            refine region_ev [] [0, 1, 2, 3, 4, 5, 6, 7, 8, 9, 10] [] [] (by kernel_rfl) (by kernel_rfl) (by intro c a d v w h; cases d <;> exact h) ?_
            simp only [picks, List.drop_succ_cons, List.drop_zero]
            repeat (refine wpQ0_step (fun K hK => ?_); go_simp; (refine hK _ ?_; clear hK K))
            refine wpQ0_nil ?_
            repeat ((with_reducible refine wpQ2_step (fun K hK => ?_)); go_simp; first | ((with_reducible refine hK _ ?_); clear hK K) | (apply Exists.intro; refine ⟨fun x => ?_, hK _ ?_⟩; (fail); clear hK K))
            refine wpQ2_nil ?_
            refine Events.none_ fun w8 hg8 => ?_
            simp only [picks, List.drop_succ_cons, List.drop_zero]
            have HE8 := Lib.hid (ext_trans HEr.out hg8)
            have b0 := Ext2.blk hg8 b0
            clear q0c q0f c0 ws1 ws2 hg8
            by_cases hwide : S' > R.measure
            · have hbf := end_before HK.out HTX.out hil hik hlt (by rw [← HSS.out]; exact hwide)
              have hbt : b = true := HFD.out ⟨_, (endN_ok HTX.out hil).2.1, hbf, met_end HTX.out hil⟩
              subst hbt
              clear hbf
              have q0c := cell_blk b0
              have q0f := frz_blk b0
              go_wp2_with (fail)
              go_roundw
              case rel => exact ⟨i + 1, by go_num, hil, HE8.out⟩
              case measure => simp [intOf]; omega
            · have hnl := no_less HK.out HTX.out hik hlt (by rw [← HSS.out]; omega)
              obtain ⟨_, _, h1, ci⟩ := int_cell (RowS.below HL3.out HE8.out) (i := i) (by rw [rest_len]; omega)
              obtain ⟨rfl, rfl⟩ : rb = _ ∧ roff = _ := by simpa using h1
              obtain ⟨_, _, h2, cn⟩ := int_cell (RowS.below HL3.out HE8.out) (i := k + 1) (by rw [rest_len]; omega)
              obtain ⟨rfl, rfl⟩ : rb = _ ∧ roff = _ := by simpa using h2
              rw [restL_at F R P (by omega)] at ci cn
              obtain ⟨_, _, h3, cs⟩ := str_cell (RowS.below HS3.out HE8.out) hlt
              obtain ⟨rfl, rfl⟩ : sb = _ ∧ soff = _ := by simpa using h3
              have hri := (rest_rng HK.out HRO.out HTX.out (i := i) hi).1
              have hrn := (rest_rng HK.out HRO.out HTX.out (i := k + 1) (by omega)).1
              have hcr := costL_rng HK.out HRO.out HTX.out (a := i) (z := k + 1) (by omega) (by omega)
              have hmet : metAt F R P i (k + 1) ↔ (restS F R P i).cost = costL F R P i (k + 1) + (restS F R P (k + 1)).cost := Iff.rfl
              have hcl : costL F R P i (k + 1) = if k + 1 = P.length then 0 else (R.measure - S') * (R.measure - S') + (if ((strD P k).size : Int) ≤ R.short then R.extra else 0) := by
                unfold costL wideL
                rw [HSS.out, show k + 1 - i = k - i + 1 by omega, Nat.add_sub_cancel]
              obtain ⟨p, hp⟩ : ∃ p, p = strD P k := ⟨_, rfl⟩
              obtain ⟨A, hA⟩ : ∃ x, x = (restS F R P i).cost := ⟨_, rfl⟩
              obtain ⟨B, hB⟩ : ∃ x, x = (restS F R P (k + 1)).cost := ⟨_, rfl⟩
              obtain ⟨C, hC⟩ : ∃ x, x = costL F R P i (k + 1) := ⟨_, rfl⟩
              obtain ⟨D, hD⟩ : ∃ x, x = (R.measure - S') * (R.measure - S') := ⟨_, rfl⟩
              rw [← hp] at cs hcl
              rw [← hA] at ci hri hnl hmet
              rw [← hB] at cn hrn hnl hmet
              rw [← hC] at hcr hnl hmet hcl
              have hDr := sq_rng (d := R.measure - S') (by omega) (by omega)
              rw [← hD] at hDr hcl
              have wd1 : IntKind.i64.wrap (R.measure - S') = R.measure - S' := IntWalk.i64_in _ (by omega)
              have wd2 : IntKind.i64.wrap ((R.measure - S') * (R.measure - S')) = D := by rw [← hD]; exact IntWalk.i64_in _ (by omega)
              have wc : IntKind.i64.wrap (C + B) = C + B := IntWalk.i64_in _ (by omega)
              have n0 : (0 : Int) ≤ (k : Int) + 1 := by omega
              have n1 : (k : Int) + 1 < (P.length : Int) + 1 := by omega
              have n2 : (i : Int) < (P.length : Int) + 1 := by omega
              have hge : decide (A > C + B) = false := decide_eq_false (by omega)
              have hpz : p.size ≤ 24 := by rw [hp]; exact HTX.out.size k hlt
              have HMET := Lib.hid hmet
              have cn : w8.cell? ⟨rb, roff + (k + 1), none⟩ = some (.int .i64 B) := cn
              clear h1 h2 h3 hmet hp hA hB hC hD hnl
              by_cases hlast : k + 1 = P.length
              · have hC0 : C = 0 := by rw [hcl, if_pos hlast]
                have l1 : ¬ (k : Int) + 1 < (P.length : Int) := by omega
                have HC0 := Lib.hid hC0
                have hgeB : decide (A > B) = false := decide_eq_false (by have := of_decide_eq_false hge; omega)
                have wB : IntKind.i64.wrap B = B := IntWalk.i64_in _ (by omega)
                clear hcl hDr wd1 wd2 hC0 hge wc hlast
                have q0c := cell_blk b0
                have q0f := frz_blk b0
                go_wp2_with (fail)
                refine region_ev [] [0, 1, 2, 3, 4, 5, 6, 7, 8, 9, 10, 11] [] [] (by kernel_rfl) (by kernel_rfl) (by intro c a d v w h; cases d <;> exact h) ?_
                simp only [picks, List.drop_succ_cons, List.drop_zero]
                repeat (refine wpQ0_step (fun K hK => ?_); go_simp; (refine hK _ ?_; clear hK K))
                refine wpQ0_nil ?_
                repeat ((with_reducible refine wpQ2_step (fun K hK => ?_)); go_simp; first | ((with_reducible refine hK _ ?_); clear hK K) | (apply Exists.intro; refine ⟨fun x => ?_, hK _ ?_⟩; (fail); clear hK K))
                refine wpQ2_nil ?_
                refine Events.none_ fun w9 hg9 => ?_
                simp only [picks, List.drop_succ_cons, List.drop_zero]
                have HE9 := Lib.hid (ext_trans HE8.out hg9)
                have b0 := Ext2.blk hg9 b0
                have ci := (Below.cell hg9 (cell_lt ci)).trans ci
                have cn := (Below.cell hg9 (cell_lt cn)).trans cn
                clear q0c q0f hg9
                have q0c := cell_blk b0
                have q0f := frz_blk b0
                go_wp2_with (fail)
                cases b with
                | true =>
                  refine region_st [⟨[], [0, 1, 2, 3, 4, 5, 6, 7, 8, 9, 10, 11, 12, 13, 14, 15], []⟩] (by kernel_rfl) (by kernel_rfl) (by intro c a d v w h; cases d <;> exact h) ?_
                  refine wpSt_cons ?_
                  simp only [picks, List.drop_succ_cons, List.drop_zero]
                  repeat ((with_reducible refine wpQ0_step (fun K hK => ?_)); go_simp; ((with_reducible refine hK _ ?_); clear hK K))
                  refine wpQ0_nil ?_
                  repeat ((with_reducible refine wpQ2_step (fun K hK => ?_)); go_simp; first | ((with_reducible refine hK _ ?_); clear hK K) | (apply Exists.intro; refine ⟨fun x => ?_, hK _ ?_⟩; (fail); clear hK K))
                  refine wpQ2_nil ?_
                  intro w10 hw10
                  refine wpTl_nil ?_
                  refine wpSt_nil ?_
                  have hE10 := ext_trans HE9.out hw10
                  clear q0c q0f b0 ci cn cs hw10
                  go_wp2_with (fail)
                  go_roundw
                  case rel => exact ⟨k + 1, true, by go_num, by omega, hlt, by rw [HSS.out, show k + 1 - i = k - i + 1 by omega], rfl, fun _ => rfl, hE10⟩
                  case measure => simp [intOf]; omega
                | false =>
                  by_cases hm : A = B
                  · have hme : (A == B) = true := by simp [hm]
                    refine region_st [⟨[], [0, 1, 2, 3, 4, 5, 6, 7, 8, 9, 10, 11, 12, 13, 14, 15], []⟩] (by kernel_rfl) (by kernel_rfl) (by intro c a d v w h; cases d <;> exact h) ?_
                    refine wpSt_cons ?_
                    simp only [picks, List.drop_succ_cons, List.drop_zero]
                    repeat ((with_reducible refine wpQ0_step (fun K hK => ?_)); go_simp; ((with_reducible refine hK _ ?_); clear hK K))
                    refine wpQ0_nil ?_
                    repeat ((with_reducible refine wpQ2_step (fun K hK => ?_)); go_simp; first | ((with_reducible refine hK _ ?_); clear hK K) | (apply Exists.intro; refine ⟨fun x => ?_, hK _ ?_⟩; (fail); clear hK K))
                    refine wpQ2_nil ?_
                    intro w10 hw10
                    refine wpTl_nil ?_
                    refine wpSt_nil ?_
                    have hE10 := ext_trans HE9.out hw10
                    clear q0c q0f b0 ci cn cs hw10
                    go_wp2_with (fail)
                    go_roundw
                    case rel => exact ⟨k + 1, true, by go_num, by omega, hlt, by rw [HSS.out, show k + 1 - i = k - i + 1 by omega], rfl, fun _ => rfl, hE10⟩
                    case measure => simp [intOf]; omega
                  · have hme : (A == B) = false := beq_eq_false_iff_ne.2 hm
                    have HNM := Lib.hid hm
                    refine region_st [⟨[], [0, 1, 2, 3, 4, 5, 6, 7, 8, 9, 10, 11, 12, 13, 14, 15], []⟩] (by kernel_rfl) (by kernel_rfl) (by intro c a d v w h; cases d <;> exact h) ?_
                    refine wpSt_cons ?_
                    simp only [picks, List.drop_succ_cons, List.drop_zero]
                    repeat ((with_reducible refine wpQ0_step (fun K hK => ?_)); go_simp; ((with_reducible refine hK _ ?_); clear hK K))
                    refine wpQ0_nil ?_
                    repeat ((with_reducible refine wpQ2_step (fun K hK => ?_)); go_simp; first | ((with_reducible refine hK _ ?_); clear hK K) | (apply Exists.intro; refine ⟨fun x => ?_, hK _ ?_⟩; (fail); clear hK K))
                    refine wpQ2_nil ?_
                    intro w10 hw10
                    refine wpTl_nil ?_
                    refine wpSt_nil ?_
                    have hE10 := ext_trans HE9.out hw10
                    clear q0c q0f b0 ci cn cs hw10 hm
                    go_wp2_with (fail)
                    go_roundw
                    case rel => exact ⟨k + 1, false, by go_num, by omega, hlt, by rw [HSS.out, show k + 1 - i = k - i + 1 by omega], rfl, fun ⟨e, h1, h2, h3⟩ => by
                      rcases Nat.lt_or_ge e (k + 1) with h | h
                      · exact HFD.out ⟨e, h1, by omega, h3⟩
                      · obtain rfl : e = k + 1 := by omega
                        exact HNM.out (by have h4 := HMET.out.1 h3; have h5 := HC0.out; omega) |>.elim, hE10⟩
                    case measure => simp [intOf]; omega
              · rw [if_neg hlast] at hcl
                have l1 : (k : Int) + 1 < (P.length : Int) := by omega
                by_cases hsh : (p.size : Int) ≤ R.short
                · rw [if_pos hsh] at hcl
                  have we : IntKind.i64.wrap (D + R.extra) = C := by rw [hcl]; exact IntWalk.i64_in _ (by omega)
                  clear hcl
                  have q0c := cell_blk b0
                  have q0f := frz_blk b0
                  go_wp2_with (fail)
                  refine region_ev [] [0, 1, 2, 3, 4, 5, 6, 7, 8] [] [] (by kernel_rfl) (by kernel_rfl) (by intro c a d v w h; cases d <;> exact h) ?_
                  simp only [picks, List.drop_succ_cons, List.drop_zero]
                  repeat (refine wpQ0_step (fun K hK => ?_); go_simp; (refine hK _ ?_; clear hK K))
                  refine wpQ0_nil ?_
                  repeat ((with_reducible refine wpQ2_step (fun K hK => ?_)); go_simp; first | ((with_reducible refine hK _ ?_); clear hK K) | (apply Exists.intro; refine ⟨fun x => ?_, hK _ ?_⟩; (fail); clear hK K))
                  refine wpQ2_nil ?_
                  refine Events.none_ fun w85 hg85 => ?_
                  simp only [picks, List.drop_succ_cons, List.drop_zero]
                  have HE8 := Lib.hid (ext_trans HE8.out hg85)
                  have b0 := Ext2.blk hg85 b0
                  have ci := (Below.cell hg85 (cell_lt ci)).trans ci
                  have cn := (Below.cell hg85 (cell_lt cn)).trans cn
                  have cs := True.intro
                  clear q0c q0f hg85
                  have q0c := cell_blk b0
                  have q0f := frz_blk b0
                  go_wp2_with (fail)
                  refine region_ev [] [0, 1, 2, 3, 4, 5, 6, 7, 8, 9, 10, 11] [] [] (by kernel_rfl) (by kernel_rfl) (by intro c a d v w h; cases d <;> exact h) ?_
                  simp only [picks, List.drop_succ_cons, List.drop_zero]
                  repeat (refine wpQ0_step (fun K hK => ?_); go_simp; (refine hK _ ?_; clear hK K))
                  refine wpQ0_nil ?_
                  repeat ((with_reducible refine wpQ2_step (fun K hK => ?_)); go_simp; first | ((with_reducible refine hK _ ?_); clear hK K) | (apply Exists.intro; refine ⟨fun x => ?_, hK _ ?_⟩; (fail); clear hK K))
                  refine wpQ2_nil ?_
                  refine Events.none_ fun w9 hg9 => ?_
                  simp only [picks, List.drop_succ_cons, List.drop_zero]
                  have HE9 := Lib.hid (ext_trans HE8.out hg9)
                  have b0 := Ext2.blk hg9 b0
                  have ci := (Below.cell hg9 (cell_lt ci)).trans ci
                  have cn := (Below.cell hg9 (cell_lt cn)).trans cn
                  clear q0c q0f hg9
                  have q0c := cell_blk b0
                  have q0f := frz_blk b0
                  go_wp2_with (fail)
                  cases b with
                  | true =>
                    refine region_st [⟨[], [0, 1, 2, 3, 4, 5, 6, 7, 8, 9, 10, 11, 12, 13, 14, 15], []⟩] (by kernel_rfl) (by kernel_rfl) (by intro c a d v w h; cases d <;> exact h) ?_
                    refine wpSt_cons ?_
                    simp only [picks, List.drop_succ_cons, List.drop_zero]
                    repeat ((with_reducible refine wpQ0_step (fun K hK => ?_)); go_simp; ((with_reducible refine hK _ ?_); clear hK K))
                    refine wpQ0_nil ?_
                    repeat ((with_reducible refine wpQ2_step (fun K hK => ?_)); go_simp; first | ((with_reducible refine hK _ ?_); clear hK K) | (apply Exists.intro; refine ⟨fun x => ?_, hK _ ?_⟩; (fail); clear hK K))
                    refine wpQ2_nil ?_
                    intro w10 hw10
                    refine wpTl_nil ?_
                    refine wpSt_nil ?_
                    have hE10 := ext_trans HE9.out hw10
                    clear q0c q0f b0 ci cn cs hw10
                    go_wp2_with (fail)
                    go_roundw
                    case rel => exact ⟨k + 1, true, by go_num, by omega, hlt, by rw [HSS.out, show k + 1 - i = k - i + 1 by omega], rfl, fun _ => rfl, hE10⟩
                    case measure => simp [intOf]; omega
                  | false =>
                    by_cases hm : A = C + B
                    · have hme : (A == C + B) = true := by simp [hm]
                      refine region_st [⟨[], [0, 1, 2, 3, 4, 5, 6, 7, 8, 9, 10, 11, 12, 13, 14, 15], []⟩] (by kernel_rfl) (by kernel_rfl) (by intro c a d v w h; cases d <;> exact h) ?_
                      refine wpSt_cons ?_
                      simp only [picks, List.drop_succ_cons, List.drop_zero]
                      repeat ((with_reducible refine wpQ0_step (fun K hK => ?_)); go_simp; ((with_reducible refine hK _ ?_); clear hK K))
                      refine wpQ0_nil ?_
                      repeat ((with_reducible refine wpQ2_step (fun K hK => ?_)); go_simp; first | ((with_reducible refine hK _ ?_); clear hK K) | (apply Exists.intro; refine ⟨fun x => ?_, hK _ ?_⟩; (fail); clear hK K))
                      refine wpQ2_nil ?_
                      intro w10 hw10
                      refine wpTl_nil ?_
                      refine wpSt_nil ?_
                      have hE10 := ext_trans HE9.out hw10
                      clear q0c q0f b0 ci cn cs hw10
                      go_wp2_with (fail)
                      go_roundw
                      case rel => exact ⟨k + 1, true, by go_num, by omega, hlt, by rw [HSS.out, show k + 1 - i = k - i + 1 by omega], rfl, fun _ => rfl, hE10⟩
                      case measure => simp [intOf]; omega
                    · have hme : (A == C + B) = false := beq_eq_false_iff_ne.2 hm
                      have HNM := Lib.hid hm
                      refine region_st [⟨[], [0, 1, 2, 3, 4, 5, 6, 7, 8, 9, 10, 11, 12, 13, 14, 15], []⟩] (by kernel_rfl) (by kernel_rfl) (by intro c a d v w h; cases d <;> exact h) ?_
                      refine wpSt_cons ?_
                      simp only [picks, List.drop_succ_cons, List.drop_zero]
                      repeat ((with_reducible refine wpQ0_step (fun K hK => ?_)); go_simp; ((with_reducible refine hK _ ?_); clear hK K))
                      refine wpQ0_nil ?_
                      repeat ((with_reducible refine wpQ2_step (fun K hK => ?_)); go_simp; first | ((with_reducible refine hK _ ?_); clear hK K) | (apply Exists.intro; refine ⟨fun x => ?_, hK _ ?_⟩; (fail); clear hK K))
                      refine wpQ2_nil ?_
                      intro w10 hw10
                      refine wpTl_nil ?_
                      refine wpSt_nil ?_
                      have hE10 := ext_trans HE9.out hw10
                      clear q0c q0f b0 ci cn cs hw10 hm
                      go_wp2_with (fail)
                      go_roundw
                      case rel => exact ⟨k + 1, false, by go_num, by omega, hlt, by rw [HSS.out, show k + 1 - i = k - i + 1 by omega], rfl, fun ⟨e, h1, h2, h3⟩ => by
                        rcases Nat.lt_or_ge e (k + 1) with h | h
                        · exact HFD.out ⟨e, h1, by omega, h3⟩
                        · obtain rfl : e = k + 1 := by omega
                          exact absurd (HMET.out.1 h3) HNM.out, hE10⟩
                      case measure => simp [intOf]; omega
                · rw [if_neg hsh, Int.add_zero] at hcl
                  rw [← hcl] at wd2
                  clear hcl
                  have q0c := cell_blk b0
                  have q0f := frz_blk b0
                  go_wp2_with (fail)
                  refine region_ev [] [0, 1, 2, 3, 4, 5, 6, 7, 8] [] [] (by kernel_rfl) (by kernel_rfl) (by intro c a d v w h; cases d <;> exact h) ?_
                  simp only [picks, List.drop_succ_cons, List.drop_zero]
                  repeat (refine wpQ0_step (fun K hK => ?_); go_simp; (refine hK _ ?_; clear hK K))
                  refine wpQ0_nil ?_
                  repeat ((with_reducible refine wpQ2_step (fun K hK => ?_)); go_simp; first | ((with_reducible refine hK _ ?_); clear hK K) | (apply Exists.intro; refine ⟨fun x => ?_, hK _ ?_⟩; (fail); clear hK K))
                  refine wpQ2_nil ?_
                  refine Events.none_ fun w85 hg85 => ?_
                  simp only [picks, List.drop_succ_cons, List.drop_zero]
                  have HE8 := Lib.hid (ext_trans HE8.out hg85)
                  have b0 := Ext2.blk hg85 b0
                  have ci := (Below.cell hg85 (cell_lt ci)).trans ci
                  have cn := (Below.cell hg85 (cell_lt cn)).trans cn
                  have cs := True.intro
                  clear q0c q0f hg85
                  have q0c := cell_blk b0
                  have q0f := frz_blk b0
                  go_wp2_with (fail)
                  refine region_ev [] [0, 1, 2, 3, 4, 5, 6, 7, 8, 9, 10, 11] [] [] (by kernel_rfl) (by kernel_rfl) (by intro c a d v w h; cases d <;> exact h) ?_
                  simp only [picks, List.drop_succ_cons, List.drop_zero]
                  repeat (refine wpQ0_step (fun K hK => ?_); go_simp; (refine hK _ ?_; clear hK K))
                  refine wpQ0_nil ?_
                  repeat ((with_reducible refine wpQ2_step (fun K hK => ?_)); go_simp; first | ((with_reducible refine hK _ ?_); clear hK K) | (apply Exists.intro; refine ⟨fun x => ?_, hK _ ?_⟩; (fail); clear hK K))
                  refine wpQ2_nil ?_
                  refine Events.none_ fun w9 hg9 => ?_
                  simp only [picks, List.drop_succ_cons, List.drop_zero]
                  have HE9 := Lib.hid (ext_trans HE8.out hg9)
                  have b0 := Ext2.blk hg9 b0
                  have ci := (Below.cell hg9 (cell_lt ci)).trans ci
                  have cn := (Below.cell hg9 (cell_lt cn)).trans cn
                  clear q0c q0f hg9
                  have q0c := cell_blk b0
                  have q0f := frz_blk b0
                  go_wp2_with (fail)
                  cases b with
                  | true =>
                    refine region_st [⟨[], [0, 1, 2, 3, 4, 5, 6, 7, 8, 9, 10, 11, 12, 13, 14, 15], []⟩] (by kernel_rfl) (by kernel_rfl) (by intro c a d v w h; cases d <;> exact h) ?_
                    refine wpSt_cons ?_
                    simp only [picks, List.drop_succ_cons, List.drop_zero]
                    repeat ((with_reducible refine wpQ0_step (fun K hK => ?_)); go_simp; ((with_reducible refine hK _ ?_); clear hK K))
                    refine wpQ0_nil ?_
                    repeat ((with_reducible refine wpQ2_step (fun K hK => ?_)); go_simp; first | ((with_reducible refine hK _ ?_); clear hK K) | (apply Exists.intro; refine ⟨fun x => ?_, hK _ ?_⟩; (fail); clear hK K))
                    refine wpQ2_nil ?_
                    intro w10 hw10
                    refine wpTl_nil ?_
                    refine wpSt_nil ?_
                    have hE10 := ext_trans HE9.out hw10
                    clear q0c q0f b0 ci cn cs hw10
                    go_wp2_with (fail)
                    go_roundw
                    case rel => exact ⟨k + 1, true, by go_num, by omega, hlt, by rw [HSS.out, show k + 1 - i = k - i + 1 by omega], rfl, fun _ => rfl, hE10⟩
                    case measure => simp [intOf]; omega
                  | false =>
                    by_cases hm : A = C + B
                    · have hme : (A == C + B) = true := by simp [hm]
                      refine region_st [⟨[], [0, 1, 2, 3, 4, 5, 6, 7, 8, 9, 10, 11, 12, 13, 14, 15], []⟩] (by kernel_rfl) (by kernel_rfl) (by intro c a d v w h; cases d <;> exact h) ?_
                      refine wpSt_cons ?_
                      simp only [picks, List.drop_succ_cons, List.drop_zero]
                      repeat ((with_reducible refine wpQ0_step (fun K hK => ?_)); go_simp; ((with_reducible refine hK _ ?_); clear hK K))
                      refine wpQ0_nil ?_
                      repeat ((with_reducible refine wpQ2_step (fun K hK => ?_)); go_simp; first | ((with_reducible refine hK _ ?_); clear hK K) | (apply Exists.intro; refine ⟨fun x => ?_, hK _ ?_⟩; (fail); clear hK K))
                      refine wpQ2_nil ?_
                      intro w10 hw10
                      refine wpTl_nil ?_
                      refine wpSt_nil ?_
                      have hE10 := ext_trans HE9.out hw10
                      clear q0c q0f b0 ci cn cs hw10
                      go_wp2_with (fail)
                      go_roundw
                      case rel => exact ⟨k + 1, true, by go_num, by omega, hlt, by rw [HSS.out, show k + 1 - i = k - i + 1 by omega], rfl, fun _ => rfl, hE10⟩
                      case measure => simp [intOf]; omega
                    · have hme : (A == C + B) = false := beq_eq_false_iff_ne.2 hm
                      have HNM := Lib.hid hm
                      refine region_st [⟨[], [0, 1, 2, 3, 4, 5, 6, 7, 8, 9, 10, 11, 12, 13, 14, 15], []⟩] (by kernel_rfl) (by kernel_rfl) (by intro c a d v w h; cases d <;> exact h) ?_
                      refine wpSt_cons ?_
                      simp only [picks, List.drop_succ_cons, List.drop_zero]
                      repeat ((with_reducible refine wpQ0_step (fun K hK => ?_)); go_simp; ((with_reducible refine hK _ ?_); clear hK K))
                      refine wpQ0_nil ?_
                      repeat ((with_reducible refine wpQ2_step (fun K hK => ?_)); go_simp; first | ((with_reducible refine hK _ ?_); clear hK K) | (apply Exists.intro; refine ⟨fun x => ?_, hK _ ?_⟩; (fail); clear hK K))
                      refine wpQ2_nil ?_
                      intro w10 hw10
                      refine wpTl_nil ?_
                      refine wpSt_nil ?_
                      have hE10 := ext_trans HE9.out hw10
                      clear q0c q0f b0 ci cn cs hw10 hm
                      go_wp2_with (fail)
                      go_roundw
                      case rel => exact ⟨k + 1, false, by go_num, by omega, hlt, by rw [HSS.out, show k + 1 - i = k - i + 1 by omega], rfl, fun ⟨e, h1, h2, h3⟩ => by
                        rcases Nat.lt_or_ge e (k + 1) with h | h
                        · exact HFD.out ⟨e, h1, by omega, h3⟩
                        · obtain rfl : e = k + 1 := by omega
                          exact absurd (HMET.out.1 h3) HNM.out, hE10⟩
                      case measure => simp [intOf]; omega
          · obtain rfl : k = P.length := by omega
            have k1 : ¬ (P.length : Int) < (P.length : Int) := by omega
            have hbt : b = true := HFD.out ⟨_, (endN_ok HTX.out hil).2.1, (endN_ok HTX.out hil).2.2.2.1, met_end HTX.out hil⟩
            subst hbt
            clear hlt b0 hEr
            go_wp2_with (fail)
            go_roundw
            case rel => exact ⟨i + 1, by go_num, hil, HEr.out⟩
            case measure => simp [intOf]; omega
      · obtain rfl : i = P.length := by omega
        have r1 : ¬ (P.length : Int) < (P.length : Int) := by omega
        have HBi := Lib.hid (below_ext HB3.out hEi)
        clear hil b0 hEi
        go_wp2_with (fail)
        (with_reducible refine (H5.out _ HBi.out).mono ?_)
        rintro e w4 ⟨rfl, hb4⟩
        have hB4 := below_ext HBi.out hb4
        clear hb4
        go_wp2_with (fail)
        go_ret
        exact ⟨rfl, hB4⟩
end Go.Proofs.YtahgbecfaihfpaaDoor
