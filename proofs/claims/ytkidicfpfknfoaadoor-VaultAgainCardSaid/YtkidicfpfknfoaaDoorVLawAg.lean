/-
  The law VaultAgain, walked.
-/
import Derived.Test.YtkidicfpfknfoaaDoorVAwake
import Derived.Test.YtkidicfpfknfoaaDoorVSlc
import Derived.Test.YtkidicfpfknfoaaDoorVTempA
import Derived.Test.YtkidicfpfknfoaaDoorVPlAgn
namespace Go.Proofs.YtkidicfpfknfoaaDoor
open Go.RowKit D
set_option linter.unusedVariables false
set_option linter.unusedSimpArgs false
attribute [local go_sem high] run_minI run_maxI
attribute [local go_sem] upon2 cls_cell cls_frozen forall_const exists_eq_left'
attribute [local go_sem] FirstUpon
attribute [local go_sem high] run_moves_to run_errs_to
theorem moved_valid {S : Site} {L : List Mv} (hk : Chk S) (hl : L.length ≤ 60) (hv : ∀ i, i < L.length → mvE S (mvD L i) = 0) : movedE S L = 0 := movedE_none (chk_iff.2 hk) hl hv
set_option maxRecDepth 100000 in
set_option maxHeartbeats 8000000 in
theorem lawAgain_any {S : Site} {s : SSl} {L : List Mv} {sl : Sl} {x0 x1 : Int} {w : World} (hS : SiteAt w S s) (hL : MovesS w sl L) (hx : (0 ≤ x0 ∧ x0 ≤ 255) ∧ 0 ≤ x1 ∧ x1 ≤ 255) (hm : MaxAt w) :
    Calls Tryd.prog 8 #[.agg #[.slice s.r.a S.rooms.length s.r.cap, .slice s.c.a S.cans.length s.c.cap, .int .i64 S.rlo, .int .i64 S.rhi, .slice s.p.a S.steps.length s.p.cap], .slice sl.a L.length sl.cap, .agg #[.int .u8 x0, .int .u8 x1]] w fun e w' => e = .returned (.bool true) ∧ Below w.heap.size w w' := by
  have HS := Lib.hid hS; have HL := Lib.hid hL; have HM := Lib.hid hm
  have hll := hL.le; have hlm := hL.max
  have hcl := hS.cn.le; have hcm := hS.cn.max
  obtain ⟨⟨hx0, hx0'⟩, hx1, hx1'⟩ := hx
  clear hS hL hm
  go_enter Tryd.func8, Tryd.ntmps8
  go_wp2_with (fail)
  refine calls_name ?_
  intro w1 hw1
  obtain ⟨n3, hn3⟩ : ∃ n, n = w.heap.size := ⟨_, rfl⟩
  obtain ⟨n5, hn5⟩ : ∃ n, n = n3 + 1 := ⟨_, rfl⟩
  have hE1 : Ext2 w w1 := by rw [hw1]; exact ext_trans (below_alloc' _ _) (below_alloc' _ _)
  have X3 : Hid (w1.heap[n3]? = some (Obj.cells #[.slice s.r.a S.rooms.length s.r.cap, .slice s.c.a S.cans.length s.c.cap, .int .i64 S.rlo, .int .i64 S.rhi, .slice s.p.a S.steps.length s.p.cap] 28)) := Lib.hid (by rw [hw1, hn3]; exact blk_alloc (blk_new _ _) _)
  have X5 : Hid (w1.heap[n5]? = some (.cells #[.int .u8 x0, .int .u8 x1] 34 (0, 0))) := Lib.hid (by rw [hw1, hn5, hn3]; exact blk_new' _ _ (by simp))
  have HE1 := Lib.hid hE1
  rw [← hn3, ← hn5]
  clear hw1 hn3 hn5 hE1
  refine (playA_any (HS.out.below HE1.out) (HL.out.below HE1.out) (HM.out.below HE1.out)).mono ?_
  rintro e w2 ⟨⟨ma, mc⟩, ⟨wa, wc⟩, rfl, hMs, hWs, hb2⟩
  obtain ⟨E, hE⟩ : ∃ E, E = movedE S L := ⟨_, rfl⟩
  by_cases hE0 : E = 0
  case neg =>
    have e1 : playMv S L = [] := by unfold playMv; rw [← hE, if_neg hE0]
    rw [e1, ← hE]
    have hd : (E != 0) = true := by simp [hE0]
    have HAW := Lib.hid (awake_any (HM.out.below (ext_trans HE1.out hb2)))
    have HE2 := Lib.hid (ext_trans HE1.out hb2)
    clear hMs hWs hb2 hE hE0 e1
    go_wp2_with (fail)
    refine HAW.out.mono ?_
    rintro e w3 ⟨rfl, hb3⟩
    go_wp2_with (fail)
    go_ret
    exact ⟨rfl, ext_trans HE2.out hb3⟩
  rw [← hE]
  subst hE0
  obtain ⟨hck, h60, hval⟩ := movedE_ok hE.symm
  obtain ⟨n, hn⟩ : ∃ n : Nat, n = x0.toNat % (L.length + 1) := ⟨_, rfl⟩
  have hnl : n ≤ L.length := by have := Nat.mod_lt x0.toNat (show 0 < L.length + 1 by omega); omega
  have hAg := again_v hval hnl
  have e1 : playMv S L = (playV S L).1 := by unfold playMv; rw [← hE, if_pos rfl]
  have e2 : playWy S L = (playV S L).2 := by unfold playWy; rw [← hE, if_pos rfl]
  rw [e1] at hMs; rw [e2] at hWs
  rw [e1, e2]
  obtain ⟨M, hM⟩ : ∃ M, M = (playV S L).1 := ⟨_, rfl⟩
  obtain ⟨Wy, hWy⟩ : ∃ M, M = (playV S L).2 := ⟨_, rfl⟩
  rw [← hM] at hMs ⊢; rw [← hWy] at hWs ⊢
  have hwl : Wy.length = L.length := by rw [hWy]; exact hAg.why
  have hml : M.length ≤ L.length := by rw [hM]; exact hAg.le
  have hkp : Kept S M := by rw [hM]; exact hAg.kept
  have hmE : movedE S M = 0 := moved_valid hck (by omega) (valid_kept hkp)
  have hnE : movedE S (L.take n) = 0 := moved_valid hck (by rw [List.length_take]; omega) (valid_take hval n)
  have hMc := hMs.le; have hMm := hMs.max; have hWc := hWs.le; have hWm := hWs.max
  dsimp only at hMc hMm hWc hWm
  have HCK := Lib.hid hck; have HAG := Lib.hid hAg; have HEL := Lib.hid hE; have HN := Lib.hid hn; have HMP := Lib.hid hM; have HWP := Lib.hid hWy; have HKP := Lib.hid hkp; have HME := Lib.hid hmE; have HNE := Lib.hid hnE
  have HE2 := Lib.hid (ext_trans HE1.out hb2)
  have X32 := Lib.hid (Ext2.blk hb2 X3.out); have X52 := Lib.hid (Ext2.blk hb2 X5.out)
  have HMS := Lib.hid hMs; have HWS := Lib.hid hWs
  have x32 := X32.out
  rw [hwl] at hWc ⊢
  have HWL := Lib.hid hwl
  have q3c := cell_blk x32
  have q3f := frz_blk x32
  have hd0 : ((0 : Int) != 0) = false := rfl
  clear hck hval hAg e1 e2 hM hWy hkp hmE hnE hb2 hMs hWs hE hn x32 hwl
  go_wp2_with (fail)
  have h := playA_any (HS.out.below HE2.out) HMS.out (HM.out.below HE2.out)
  refine h.mono ?_
  clear h
  rintro e w3 ⟨⟨aa, ac⟩, ⟨na, nc⟩, rfl, hAs, hNs, hb3⟩
  have e1 : playMv S M = M := by unfold playMv; rw [HME.out, if_pos rfl, playV_kept HKP.out]
  have e2 : playWy S M = List.replicate M.length 0 := by unfold playWy; rw [HME.out, if_pos rfl, playV_kept HKP.out]
  rw [e1] at hAs; rw [e2] at hNs
  rw [e1, e2, HME.out, List.length_replicate]
  have hAc := hAs.le; have hAm := hAs.max; have hNc := hNs.le; have hNm := hNs.max
  rw [List.length_replicate] at hNc
  dsimp only at hAc hAm hNc hNm
  have HAS := Lib.hid hAs; have HNS := Lib.hid hNs
  have HE3 := Lib.hid (ext_trans HE2.out hb3)
  have X33 := Lib.hid (Ext2.blk hb3 X32.out); have X53 := Lib.hid (Ext2.blk hb3 X52.out)
  have HMS3 := Lib.hid (HMS.out.below hb3); have HWS3 := Lib.hid (HWS.out.below hb3)
  have x53 := X53.out; have x33 := X33.out
  clear e1 e2 hAs hNs hb3 q3c q3f
  have q5c := cell_blk x53
  have q5f := frz_blk x53
  have q3c := cell_blk x33
  have q3f := frz_blk x33
  clear x53 x33
  have wx0 : IntKind.i64.wrap x0 = x0 := IntWalk.i64_in _ (by omega)
  have wl1 : IntKind.i64.wrap ((L.length : Int) + 1) = (L.length : Int) + 1 := IntWalk.i64_in _ (by omega)
  have hz0 : (L.length : Int) + 1 ≠ 0 := by omega
  have hrem : x0.tmod ((L.length : Int) + 1) = (n : Int) := by
    rw [Int.tmod_eq_emod_of_nonneg hx0, HN.out, Int.natCast_emod]
    congr 1
    omega
  have wn : IntKind.i64.wrap (n : Int) = (n : Int) := IntWalk.i64_in _ (by omega)
  go_wp2_with (fail)
  have hPl : ∀ W, Ext2 w3 W → Calls Tryd.prog 17 #[.agg #[.slice s.r.a S.rooms.length s.r.cap, .slice s.c.a S.cans.length s.c.cap, .int .i64 S.rlo, .int .i64 S.rhi, .slice s.p.a S.steps.length s.p.cap], .slice (takeA sl.a sl.cap 3) n sl.cap] W (PlayAOut W S (L.take n)) := fun W hW => by
    have hB := below_ext HE3.out hW
    have h := playA_any (HS.out.below hB) (moves_take (HL.out.below hB) hnl) (HM.out.below hB)
    rwa [List.length_take, Nat.min_eq_left hnl] at h
  have HPL := Lib.hid hPl
  have hnc : n ≤ sl.cap := by omega
  clear hPl hx0 hx0'
  refine region_st [⟨[], [0, 1, 2, 3], [4]⟩, ⟨[], [5, 6, 7, 8, 9, 10, 11], []⟩] (by kernel_rfl) (by kernel_rfl) (by intro c a d v w h; cases d <;> exact h) ?_
  refine wpSt_cons ?_
  simp only [picks, List.drop_succ_cons, List.drop_zero]
  repeat ((with_reducible refine wpQ0_step (fun K hK => ?_)); go_simp; ((with_reducible refine hK _ ?_); clear hK K))
  refine wpQ0_nil ?_
  repeat ((with_reducible refine wpQ2_step (fun K hK => ?_)); go_simp; first | ((with_reducible refine hK _ ?_); clear hK K) | (apply Exists.intro; refine ⟨fun x => ?_, hK _ ?_⟩; (fail); clear hK K))
  refine wpQ2_nil ?_
  intro w4 hw4
  refine wpTl_cons ?_
  go_wp2_with (fail)
  refine (HPL.out _ hw4).mono ?_
  rintro e w5 ⟨⟨oa, oc⟩, ⟨ta, tc⟩, rfl, hOs, hTs, hb5⟩
  have e1 : playMv S (L.take n) = (playV S (L.take n)).1 := by unfold playMv; rw [HNE.out, if_pos rfl]
  have e2 : playWy S (L.take n) = (playV S (L.take n)).2 := by unfold playWy; rw [HNE.out, if_pos rfl]
  rw [e1] at hOs; rw [e2] at hTs
  rw [e1, e2, HNE.out]
  obtain ⟨P, hP⟩ : ∃ P, P = (playV S (L.take n)).1.length := ⟨_, rfl⟩
  have hP1 : (playV S (L.take n)).1 = M.take P := by rw [hP, HMP.out]; exact HAG.out.some_
  have hP2 : P ≤ M.length := by rw [hP, HMP.out]; exact HAG.out.slen
  have hP3 : (playV S (L.take n)).2 = Wy.take n := by rw [HWP.out]; exact HAG.out.short
  have hP4 : (playV S (L.take n)).2.length = n := by rw [hP3, List.length_take, HWL.out]; omega
  have hOc := hOs.le; have hOm := hOs.max; have hTc := hTs.le; have hTm := hTs.max
  rw [← hP] at hOc ⊢
  rw [hP4] at hTc ⊢
  dsimp only at hOc hOm hTc hTm
  have HOS := Lib.hid hOs; have HTS := Lib.hid hTs; have HP := Lib.hid hP; have HP1 := Lib.hid hP1; have HP3 := Lib.hid hP3
  have HE5 := Lib.hid (ext_trans hw4 hb5)
  clear e1 e2 hOs hTs hb5 hw4 hP hP1 hP3 hP4
  go_wp2_with (fail)
  refine wpTl_nil ?_
  refine wpSt_name ?_
  intro w6 hw6
  refine wpSt_cons ?_
  simp only [picks, List.drop_succ_cons, List.drop_zero]
  repeat ((with_reducible refine wpQ0_step (fun K hK => ?_)); go_simp; ((with_reducible refine hK _ ?_); clear hK K))
  refine wpQ0_nil ?_
  repeat ((with_reducible refine wpQ2_step (fun K hK => ?_)); go_simp; first | ((with_reducible refine hK _ ?_); clear hK K) | (apply Exists.intro; refine ⟨fun x => ?_, hK _ ?_⟩; (fail); clear hK K))
  refine wpQ2_nil ?_
  intro w7 hw7
  refine wpTl_nil ?_
  refine wpSt_nil ?_
  subst hw6
  have HE37 := Lib.hid (ext_trans HE5.out hw7)
  have HE7 := Lib.hid (ext_trans HE3.out HE37.out)
  have HOS7 := Lib.hid (HOS.out.below hw7); have HTS7 := Lib.hid (HTS.out.below hw7)
  have hM1 : Calls Tryd.prog 18 #[.slice aa M.length ac, .slice ma M.length mc] w7 fun e w' => e = .returned (.bool true) ∧ Below w7.heap.size w7 w' := by
    have h := mvs_any (s := ⟨aa, ac⟩) (t := ⟨ma, mc⟩) (HAS.out.below HE37.out) (HMS3.out.below HE37.out)
    rwa [decide_eq_true rfl] at h
  have hM2 : ∀ W, Ext2 w7 W → Calls Tryd.prog 25 #[.slice ta n tc, .slice (takeA wa wc 1) n wc] W fun e w' => e = .returned (.bool true) ∧ Below W.heap.size W w' := fun W hW => by
    have h := errs_any (s := ⟨ta, tc⟩) (t := ⟨takeA wa wc 1, wc⟩) (HTS7.out.below hW) (ints_take (HWS3.out.below (ext_trans HE37.out hW)) (by rw [HWL.out]; exact hnl))
    rw [HP3.out, List.length_take, HWL.out, Nat.min_eq_left hnl, decide_eq_true rfl] at h
    exact h
  have hM3 : ∀ W, Ext2 w7 W → Calls Tryd.prog 18 #[.slice oa P oc, .slice (takeA ma mc 3) P mc] W fun e w' => e = .returned (.bool true) ∧ Below W.heap.size W w' := fun W hW => by
    have h := mvs_any (s := ⟨oa, oc⟩) (t := ⟨takeA ma mc 3, mc⟩) (HOS7.out.below hW) (moves_take (HMS3.out.below (ext_trans HE37.out hW)) hP2)
    rw [HP1.out, List.length_take, Nat.min_eq_left hP2, decide_eq_true rfl] at h
    exact h
  have HM1 := Lib.hid hM1; have HM2 := Lib.hid hM2; have HM3 := Lib.hid hM3
  have hnw : n ≤ wc := by omega
  have hPm : P ≤ mc := by omega
  have b1 : ((M.length : Int) != (M.length : Int)) = false := by simp
  have b2 : ((L.length : Int) != (L.length : Int)) = false := by simp
  have b3 : ¬ (M.length : Int) < (P : Int) := by omega
  clear hw7 hM1 hM2 hM3 HE5 HOS HTS
  go_wp2_with (fail)
  refine HM1.out.mono ?_
  rintro e w8 ⟨rfl, hb8⟩
  go_wp2_with (fail)
  refine (HM2.out _ hb8).mono ?_
  rintro e w9 ⟨rfl, hb9⟩
  go_wp2_with (fail)
  refine (HM3.out _ (ext_trans hb8 hb9)).mono ?_
  rintro e w10 ⟨rfl, hb10⟩
  have HE710 := Lib.hid (ext_trans (ext_trans hb8 hb9) hb10)
  have HE10 := Lib.hid (ext_trans HE7.out HE710.out)
  have HE310 := Lib.hid (ext_trans HE37.out HE710.out)
  have X3A := Lib.hid (Ext2.blk HE310.out X33.out); have X5A := Lib.hid (Ext2.blk HE310.out X53.out)
  have HNSA := Lib.hid (HNS.out.below HE310.out)
  have HMSA := Lib.hid (HMS3.out.below HE310.out)
  clear hb8 hb9 hb10 HM1 HM2 HM3 q3c q3f q5c q5f b1 b2
  go_wp2_with (fail)
  go_loopw [16] (fun z wr => ∃ i : Nat, z = .int .i64 (i : Int) ∧ i ≤ M.length ∧ Ext2 w10 wr) (fun z _ => M.length - (intOf z).toNat)
  case atStart => exact ⟨0, rfl, by omega, Below.refl _ _⟩
  case round =>
    obtain ⟨i, rfl, hi, hE⟩ := hrel
    have HE := Lib.hid hE
    by_cases hlt : i < M.length
    · obtain ⟨nb, noff, hna, c0⟩ := int_cell (HNSA.out.below hE) (i := i) (by rw [List.length_replicate]; exact hlt)
      dsimp only at hna
      subst hna
      have e0 : intD (List.replicate M.length 0) i = 0 := by unfold intD; rw [List.getD_eq_getElem?_getD, List.getElem?_replicate, if_pos hlt]; rfl
      rw [e0] at c0
      have p0 : (0 : Int) ≤ (i : Int) := by omega
      have p1 : (i : Int) < (M.length : Int) := by omega
      have p2 : IntKind.i64.wrap ((i : Int) + 1) = (i : Int) + 1 := IntWalk.i64_in _ (by omega)
      clear hE e0
      go_wp2_with (fail)
      go_roundw
      case rel => exact ⟨i + 1, by go_num, by omega, HE.out⟩
      case measure => simp [intOf]; omega
    · obtain rfl : i = M.length := by omega
      have r1 : ¬ ((M.length : Nat) : Int) < (M.length : Int) := by omega
      have HEW := Lib.hid (ext_trans HE10.out hE)
      have X3B := Lib.hid (Ext2.blk hE X3A.out); have X5B := Lib.hid (Ext2.blk hE X5A.out)
      have HMSB := Lib.hid (HMSA.out.below hE)
      have x3 := X3B.out
      have q3c := cell_blk x3
      have q3f := frz_blk x3
      clear hE x3
      have hAw : ∀ W, Ext2 w W → Calls Tryd.prog 15 #[] W fun e w' => e = .returned (.bool true) ∧ Below W.heap.size W w' := fun W hW => awake_any (HM.out.below hW)
      have HAW := Lib.hid hAw
      clear hAw
      by_cases hc0 : S.cans.length = 0
      · have b1 : ((S.cans.length : Int) == 0) = true := by simp [hc0]
        clear hc0
        go_wp2_with (fail)
        refine (HAW.out _ HEW.out).mono ?_
        rintro e w11 ⟨rfl, hb11⟩
        go_wp2_with (fail)
        go_ret
        exact ⟨rfl, ext_trans HEW.out hb11⟩
      have b1 : ((S.cans.length : Int) == 0) = false := beq_eq_false_iff_ne.2 (by omega)
      by_cases hPM : P = M.length
      · have b2 : ((P : Int) == (M.length : Int)) = true := by simp [hPM]
        clear hc0 hPM
        go_wp2_with (fail)
        refine (HAW.out _ HEW.out).mono ?_
        rintro e w11 ⟨rfl, hb11⟩
        go_wp2_with (fail)
        go_ret
        exact ⟨rfl, ext_trans HEW.out hb11⟩
      have b2 : ((P : Int) == (M.length : Int)) = false := beq_eq_false_iff_ne.2 (by omega)
      have hPl : P < M.length := by omega
      obtain ⟨mb, moff, hma, d0, d1, d2⟩ := mv_cells HMSB.out hPl
      dsimp only at hma
      subst hma
      obtain ⟨x, hx⟩ : ∃ x, x = (mvD M P).hour - 1 := ⟨_, rfl⟩
      have hvm := mvE_iff.1 (HKP.out.valid _ (mvD_mem hPl))
      obtain ⟨⟨v1, v2⟩, -⟩ := hvm
      have wx : IntKind.i64.wrap ((mvD M P).hour - 1) = x := by rw [← hx]; exact IntWalk.i64_in _ (by omega)
      have p0 : (0 : Int) ≤ (P : Int) := by omega
      have p1 : (P : Int) < (M.length : Int) := by omega
      by_cases hx0' : x < 0
      · clear hx v1 v2
        go_wp2_with (fail)
        refine (HAW.out _ HEW.out).mono ?_
        rintro e w11 ⟨rfl, hb11⟩
        go_wp2_with (fail)
        go_ret
        exact ⟨rfl, ext_trans HEW.out hb11⟩
      obtain ⟨cn, hcn⟩ : ∃ c : Nat, c = x1.toNat % S.cans.length := ⟨_, rfl⟩
      have hcl' : cn < S.cans.length := by rw [hcn]; exact Nat.mod_lt _ (by omega)
      have hrem2 : x1.tmod (S.cans.length : Int) = (cn : Int) := by
        rw [Int.tmod_eq_emod_of_nonneg hx1, hcn, Int.natCast_emod]
        congr 1
        omega
      have hz1 : (S.cans.length : Int) ≠ 0 := by omega
      have wc1 : IntKind.i64.wrap x1 = x1 := IntWalk.i64_in _ (by omega)
      have wc2 : IntKind.i64.wrap (cn : Int) = (cn : Int) := IntWalk.i64_in _ (by omega)
      have wx1 : IntKind.i64.wrap (x + 1) = x + 1 := IntWalk.i64_in _ (by omega)
      obtain ⟨g1, g2⟩ := again_at HAG.out HP.out.symm (by rw [← HMP.out]; exact hPl) (x := x) (by rw [← HMP.out]; exact hx) (by omega) cn
      obtain ⟨T, hT⟩ : ∃ T, T = ownT S (playV S L).1 cn (x + 1).toNat := ⟨_, rfl⟩
      rw [← hT] at g1
      have hTp1 : ∀ W, Ext2 w W → Calls Tryd.prog 26 #[.agg #[.slice s.r.a S.rooms.length s.r.cap, .slice s.c.a S.cans.length s.c.cap, .int .i64 S.rlo, .int .i64 S.rhi, .slice s.p.a S.steps.length s.p.cap], .slice sl.a L.length sl.cap, .int .i64 (cn : Int), .int .i64 (x + 1)] W fun e' w' => e' = .returned (.tuple #[.agg #[.int .i64 T.lo, .int .i64 T.hi], .int .i64 0]) ∧ Below W.heap.size W w' := fun W hW => by
        have h := tempA_any (c := (cn : Int)) (h := x + 1) (HS.out.below hW) (HL.out.below hW) (HM.out.below hW)
        have e1 := tempE_zero (c := (cn : Int)) (h := x + 1) HEL.out.symm ⟨by omega, by omega⟩ ⟨by omega, by omega⟩
        have e2 : tempA S L (cn : Int) (x + 1) = T := by unfold tempA; rw [if_pos e1, hT]; rfl
        rw [e1, e2] at h
        exact h
      have hTp2 : ∀ W, Ext2 w W → Calls Tryd.prog 26 #[.agg #[.slice s.r.a S.rooms.length s.r.cap, .slice s.c.a S.cans.length s.c.cap, .int .i64 S.rlo, .int .i64 S.rhi, .slice s.p.a S.steps.length s.p.cap], .slice (takeA sl.a sl.cap 3) n sl.cap, .int .i64 (cn : Int), .int .i64 (x + 1)] W fun e' w' => e' = .returned (.tuple #[.agg #[.int .i64 T.lo, .int .i64 T.hi], .int .i64 0]) ∧ Below W.heap.size W w' := fun W hW => by
        have h := tempA_any (c := (cn : Int)) (h := x + 1) (HS.out.below hW) (moves_take (HL.out.below hW) hnl) (HM.out.below hW)
        have e1 := tempE_zero (c := (cn : Int)) (h := x + 1) HNE.out ⟨by omega, by omega⟩ ⟨by omega, by omega⟩
        have e2 : tempA S (L.take n) (cn : Int) (x + 1) = T := by unfold tempA; rw [if_pos e1, g1]; rfl
        rw [e1, e2, List.length_take, Nat.min_eq_left hnl] at h
        exact h
      obtain ⟨WH, hWH⟩ : ∃ WH, WH = whereV S (playV S L).1 x := ⟨_, rfl⟩
      rw [← hWH] at g2
      have hwhl : WH.length = S.cans.length := by rw [hWH, whereV_len]
      have hWp1 : ∀ W, Ext2 w W → Calls Tryd.prog 19 #[.agg #[.slice s.r.a S.rooms.length s.r.cap, .slice s.c.a S.cans.length s.c.cap, .int .i64 S.rlo, .int .i64 S.rhi, .slice s.p.a S.steps.length s.p.cap], .slice sl.a L.length sl.cap, .int .i64 x] W fun e w' => ∃ q : Sl, e = .returned (.tuple #[.slice q.a S.cans.length q.cap, .int .i64 0]) ∧ IntsS w' q WH ∧ Below W.heap.size W w' := fun W hW => by
        have h := whereA_any (h := x) (HS.out.below hW) (HL.out.below hW) (HM.out.below hW)
        have e1 := whereE_zero (h := x) HEL.out.symm ⟨by omega, by omega⟩
        have e2 : whereA S L x = WH := by unfold whereA; rw [if_pos e1, hWH]
        unfold WhereOut at h
        rw [e1, e2, hwhl] at h
        exact h
      have hWp2 : ∀ W, Ext2 w W → Calls Tryd.prog 19 #[.agg #[.slice s.r.a S.rooms.length s.r.cap, .slice s.c.a S.cans.length s.c.cap, .int .i64 S.rlo, .int .i64 S.rhi, .slice s.p.a S.steps.length s.p.cap], .slice (takeA sl.a sl.cap 3) n sl.cap, .int .i64 x] W fun e w' => ∃ q : Sl, e = .returned (.tuple #[.slice q.a S.cans.length q.cap, .int .i64 0]) ∧ IntsS w' q WH ∧ Below W.heap.size W w' := fun W hW => by
        have h := whereA_any (h := x) (HS.out.below hW) (moves_take (HL.out.below hW) hnl) (HM.out.below hW)
        have e1 := whereE_zero (h := x) HNE.out ⟨by omega, by omega⟩
        have e2 : whereA S (L.take n) x = WH := by unfold whereA; rw [if_pos e1, g2]
        unfold WhereOut at h
        rw [e1, e2, hwhl, List.length_take, Nat.min_eq_left hnl] at h
        exact h
      have HTP1 := Lib.hid hTp1; have HTP2 := Lib.hid hTp2; have HWP1 := Lib.hid hWp1; have HWP2 := Lib.hid hWp2; have HWL' := Lib.hid hwhl
      have x5 := X5B.out
      have q5c := cell_blk x5
      have q5f := frz_blk x5
      clear hTp1 hTp2 hWp1 hWp2 hx hcn hT g1 g2 hWH hwhl x5 hc0 hPM v1 v2 hlt hi
      go_wp2_with (fail)
      refine (HTP1.out _ HEW.out).mono ?_
      rintro e w11 ⟨rfl, hb11⟩
      have HE11 := Lib.hid (ext_trans HEW.out hb11)
      have HBW := Lib.hid hb11
      clear hb11 q3c q3f q5c q5f d0 d1 d2 wx wc1 wc2 p0 p1
      go_wp2_with (fail)
      refine wp_name ?_
      intro w12 hw12
      obtain ⟨n19, hn19⟩ : ∃ b, b = w11.heap.size := ⟨_, rfl⟩
      have hE12 : Ext2 w11 w12 := by rw [hw12]; exact below_alloc' _ _
      have Z19 : Hid (w12.heap[n19]? = some (Obj.cells #[.int .i64 T.lo, .int .i64 T.hi] 25)) := Lib.hid (by rw [hw12, hn19]; exact blk_new _ _)
      have HE12 := Lib.hid (ext_trans HE11.out hE12)
      have X3C := Lib.hid (Ext2.blk (ext_trans HBW.out hE12) X3B.out)
      have x3 := X3C.out
      rw [← hn19]
      have q3c := cell_blk x3
      have q3f := frz_blk x3
      clear hw12 hn19 hE12 x3
      have hT2 : ∀ W, Ext2 w12 W → Calls Tryd.prog 26 #[.agg #[.slice s.r.a S.rooms.length s.r.cap, .slice s.c.a S.cans.length s.c.cap, .int .i64 S.rlo, .int .i64 S.rhi, .slice s.p.a S.steps.length s.p.cap], .slice (takeA sl.a sl.cap 3) n sl.cap, .int .i64 (cn : Int), .int .i64 (x + 1)] W fun e' w' => e' = .returned (.tuple #[.agg #[.int .i64 T.lo, .int .i64 T.hi], .int .i64 0]) ∧ Below W.heap.size W w' := fun W hW => HTP2.out W (ext_trans HE12.out hW)
      have HT2 := Lib.hid hT2
      clear hT2
      refine region_ev [] [0, 1, 2, 3, 4, 5, 6, 7, 8, 9, 10] [(11, 20, some 12)] [13] (by kernel_rfl) (by kernel_rfl) (by intro c a d v w h; cases d <;> exact h) ?_
      simp only [picks, List.drop_succ_cons, List.drop_zero]
      repeat (refine wpQ0_step (fun K hK => ?_); go_simp; (refine hK _ ?_; clear hK K))
      refine wpQ0_nil ?_
      repeat (refine wpQ2_step (fun K hK => ?_); go_simp; first | (refine hK _ ?_; clear hK K) | (apply Exists.intro; refine ⟨fun x => ?_, hK _ ?_⟩; ((with_reducible exact HT2.out x.1 x.2)); clear hK K))
      refine wpQ2_nil ?_
      refine Events.fill1 (fun b => .pointer (some ⟨b, 0, none⟩)) (Obj.cells #[.int .i64 0, .int .i64 0] 25) (Obj.cells #[.int .i64 T.lo, .int .i64 T.hi] 25) ⟨_, rfl, rfl, rfl, fun W => by kernel_rfl⟩ ⟨_, rfl, rfl, rfl, fun b W hb => ?_⟩ fun n20 w13 hn20 hg13 nn20 => ?_
      · have hbc := cell_blk hb; have hbf := frz_blk hb; go_simp; exact turn_two hb _ _
      simp only [picks, List.drop_succ_cons, List.drop_zero]
      have HE13 := Lib.hid (ext_trans HE12.out hg13)
      have Z19b := Lib.hid (Ext2.blk hg13 Z19.out)
      have Z20 := Lib.hid nn20
      have X3D := Lib.hid (Ext2.blk hg13 X3C.out)
      have x3 := X3D.out
      clear q3c q3f nn20 hg13
      have q3c := cell_blk x3
      have q3f := frz_blk x3
      clear x3
      go_wp2_with (fail)
      refine (HWP1.out _ HE13.out).mono ?_
      rintro e w14 ⟨⟨pa, pc⟩, rfl, hPq, hb14⟩
      have HPQ := Lib.hid hPq
      have HE14 := Lib.hid (ext_trans HE13.out hb14)
      have Z19c := Lib.hid (Ext2.blk hb14 Z19b.out); have Z20c := Lib.hid (Ext2.blk hb14 Z20.out)
      have X3E := Lib.hid (Ext2.blk hb14 X3D.out)
      have x3 := X3E.out
      clear q3c q3f hb14 hPq
      have q3c := cell_blk x3
      have q3f := frz_blk x3
      clear x3
      have hW2 : ∀ W, Ext2 w14 W → Calls Tryd.prog 19 #[.agg #[.slice s.r.a S.rooms.length s.r.cap, .slice s.c.a S.cans.length s.c.cap, .int .i64 S.rlo, .int .i64 S.rhi, .slice s.p.a S.steps.length s.p.cap], .slice (takeA sl.a sl.cap 3) n sl.cap, .int .i64 x] W fun e w' => ∃ q : Sl, e = .returned (.tuple #[.slice q.a S.cans.length q.cap, .int .i64 0]) ∧ IntsS w' q WH ∧ Below W.heap.size W w' := fun W hW => HWP2.out W (ext_trans HE14.out hW)
      have HW2 := Lib.hid hW2
      clear hW2
      go_wp2_with (fail)
      refine region_st [⟨[], [0, 1, 2, 3, 4], [5]⟩, ⟨[], [6, 7, 8, 9, 10], []⟩] (by kernel_rfl) (by kernel_rfl) (by intro c a d v w h; cases d <;> exact h) ?_
      refine wpSt_cons ?_
      simp only [picks, List.drop_succ_cons, List.drop_zero]
      repeat ((with_reducible refine wpQ0_step (fun K hK => ?_)); go_simp; ((with_reducible refine hK _ ?_); clear hK K))
      refine wpQ0_nil ?_
      repeat ((with_reducible refine wpQ2_step (fun K hK => ?_)); go_simp; first | ((with_reducible refine hK _ ?_); clear hK K) | (apply Exists.intro; refine ⟨fun x => ?_, hK _ ?_⟩; (fail); clear hK K))
      refine wpQ2_nil ?_
      intro w15 hw15
      refine wpTl_cons ?_
      go_wp2_with (fail)
      refine (HW2.out _ hw15).mono ?_
      rintro e w16 ⟨⟨ya, yc⟩, rfl, hYq, hb16⟩
      have HE16 := Lib.hid (ext_trans hw15 hb16)
      have HYQ := Lib.hid hYq
      clear hYq hb16 hw15
      go_wp2_with (fail)
      refine wpTl_nil ?_
      refine wpSt_name ?_
      intro w17 hw17
      refine wpSt_cons ?_
      simp only [picks, List.drop_succ_cons, List.drop_zero]
      repeat ((with_reducible refine wpQ0_step (fun K hK => ?_)); go_simp; ((with_reducible refine hK _ ?_); clear hK K))
      refine wpQ0_nil ?_
      repeat ((with_reducible refine wpQ2_step (fun K hK => ?_)); go_simp; first | ((with_reducible refine hK _ ?_); clear hK K) | (apply Exists.intro; refine ⟨fun x => ?_, hK _ ?_⟩; (fail); clear hK K))
      refine wpQ2_nil ?_
      intro w18 hw18
      refine wpTl_nil ?_
      refine wpSt_nil ?_
      subst hw17
      have HE18' := Lib.hid (ext_trans HE16.out hw18)
      have HPQ' := Lib.hid (HPQ.out.below HE18'.out)
      have HYQ' := Lib.hid (HYQ.out.below hw18)
      have HE18 := Lib.hid (ext_trans HE14.out HE18'.out)
      have z19 := Ext2.blk HE18'.out Z19c.out; have z20 := Ext2.blk HE18'.out Z20c.out
      have r2 : ((S.cans.length : Int) != (S.cans.length : Int)) = false := by simp
      have q19c := cell_blk z19
      have q19f := frz_blk z19
      have q20c := cell_blk z20
      have q20f := frz_blk z20
      clear hw18 q3c q3f z19 z20
      go_wp2_with (fail)
      obtain ⟨m, hm⟩ : ∃ m, m = S.cans.length := ⟨_, rfl⟩
      have HMC := Lib.hid hm
      have hm30 : m ≤ 30 := by rw [hm]; exact HCK.out.len.2.1
      have hpql := HPQ'.out.le; have hyql := HYQ'.out.le
      simp only [← hm]
      clear hm q19c q19f q20c q20f r2
      go_loopw [25] (fun z wr => ∃ i : Nat, z = .int .i64 (i : Int) ∧ i ≤ m ∧ Ext2 w18 wr) (fun z _ => m - (intOf z).toNat)
      case atStart => exact ⟨0, rfl, by omega, Below.refl _ _⟩
      case round =>
        obtain ⟨i, rfl, hi, hE⟩ := hrel
        have HEi := Lib.hid hE
        by_cases hlt : i < m
        · obtain ⟨pb, poff, hpa, c0⟩ := int_cell (HPQ'.out.below hE) (i := i) (by rw [HWL'.out, ← HMC.out]; exact hlt)
          obtain ⟨yb, yoff, hya, c1⟩ := int_cell (HYQ'.out.below hE) (i := i) (by rw [HWL'.out, ← HMC.out]; exact hlt)
          dsimp only at hpa hya
          subst hpa
          subst hya
          obtain ⟨V, hV⟩ : ∃ V, V = intD WH i := ⟨_, rfl⟩
          rw [← hV] at c0 c1
          have r2 : (V != V) = false := by simp
          have p0 : (0 : Int) ≤ (i : Int) := by omega
          have p1 : (i : Int) < (m : Int) := by omega
          have p0' : decide ((0 : Int) ≤ (i : Int)) = true := decide_eq_true p0
          have p1' : decide ((i : Int) < (m : Int)) = true := decide_eq_true p1
          have p2 : IntKind.i64.wrap ((i : Int) + 1) = (i : Int) + 1 := IntWalk.i64_in _ (by omega)
          clear hE hV
          go_wp2_with (fail)
          refine region_ev [] [0, 1, 2, 3, 4, 5, 6, 7, 8] [] [] (by kernel_rfl) (by kernel_rfl) (by intro c a d v w h; cases d <;> exact h) ?_
          simp only [picks, List.drop_succ_cons, List.drop_zero]
          repeat (refine wpQ0_step (fun K hK => ?_); go_simp; (refine hK _ ?_; clear hK K))
          refine wpQ0_nil ?_
          repeat ((with_reducible refine wpQ2_step (fun K hK => ?_)); go_simp; first | ((with_reducible refine hK _ ?_); clear hK K) | (apply Exists.intro; refine ⟨fun x => ?_, hK _ ?_⟩; (fail); clear hK K))
          refine wpQ2_nil ?_
          refine Events.none_ fun w19 hg19 => ?_
          simp only [picks, List.drop_succ_cons, List.drop_zero]
          have HE19 := Lib.hid (ext_trans HEi.out hg19)
          clear hg19 c0 c1
          go_wp2_with (fail)
          go_roundw
          case rel => exact ⟨i + 1, by go_num, by omega, HE19.out⟩
          case measure => simp [intOf]; omega
        · obtain rfl : i = m := by omega
          have r1 : ¬ ((i : Nat) : Int) < (i : Int) := by omega
          have HEF := Lib.hid (ext_trans HE18.out hE)
          clear hE
          go_wp2_with (fail)
          refine (HAW.out _ HEF.out).mono ?_
          rintro e w20 ⟨rfl, hb20⟩
          go_wp2_with (fail)
          go_ret
          exact ⟨rfl, ext_trans HEF.out hb20⟩
end Go.Proofs.YtkidicfpfknfoaaDoor
