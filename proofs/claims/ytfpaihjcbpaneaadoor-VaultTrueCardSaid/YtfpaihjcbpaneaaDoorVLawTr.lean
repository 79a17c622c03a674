/-
  The law VaultTrue, walked.
-/
import Derived.Test.YtfpaihjcbpaneaaDoorVArgL
import Derived.Test.YtfpaihjcbpaneaaDoorVAwake
import Derived.Test.YtfpaihjcbpaneaaDoorVRefC
import Derived.Test.YtfpaihjcbpaneaaDoorVTempA
import Derived.Deep.Cut
import Derived.Deep.CutRange
import Derived.Deep.DeepCutAuto
namespace Go.Proofs.YtfpaihjcbpaneaaDoor
open Go.RowKit D
set_option linter.unusedVariables false
set_option linter.unusedSimpArgs false
attribute [local go_sem high] run_minI run_maxI
attribute [local go_sem] upon2 cls_cell cls_frozen forall_const exists_eq_left'
attribute [local go_sem] FirstUpon
theorem climE_zero {S : Site} {L : List Mv} {c d : Int} (hm : movedE S L = 0) (hc : 0 ≤ c ∧ c < S.cans.length) (hd : 0 ≤ d ∧ d ≤ 100) : climE S L c d = 0 := by
  unfold climE playE
  rw [hm, inB_iff.2 (show 0 ≤ c ∧ c ≤ (S.cans.length : Int) - 1 by omega), inB_iff.2 hd]
  simp
theorem climV_len (S : Site) (M : List Mv) (c d : Nat) : (climV S M c d).length = d := by simp [climV]
set_option maxRecDepth 100000 in
set_option maxHeartbeats 8000000 in
theorem lawTrue_any {S : Site} {s : SSl} {L : List Mv} {sl : Sl} {X : D.Life} {q : LSl} {w : World} (hS : SiteAt w S s) (hL : MovesS w sl L) (hX : LifeAt w X q) (hm : MaxAt w) :
    Calls Tryd.prog 3 #[.agg #[.slice s.r.a S.rooms.length s.r.cap, .slice s.c.a S.cans.length s.c.cap, .int .i64 S.rlo, .int .i64 S.rhi, .slice s.p.a S.steps.length s.p.cap], .slice sl.a L.length sl.cap, .agg #[.int .u8 X.can, .int .u8 X.days, .slice q.t.a X.temps.length q.t.cap, .slice q.d.a X.damps.length q.d.cap, .slice q.r.a X.rates.length q.r.cap, .slice q.o.a X.rounded.length q.o.cap]] w fun e w' => e = .returned (.bool true) ∧ Below w.heap.size w w' := by
  have HS := Lib.hid hS; have HL := Lib.hid hL; have HX := Lib.hid hX; have HM := Lib.hid hm
  have hll := hL.le; have hlm := hL.max
  have hrl := hS.rm.le; have hrm := hS.rm.max
  have hcl := hS.cn.le; have hcm := hS.cn.max
  obtain ⟨⟨ra, rc⟩, ⟨ca, cc⟩, ps⟩ := s
  dsimp only at hrl hrm hcl hcm
  have hAw : ∀ W, Ext2 w W → Calls Tryd.prog 6 #[] W fun e w' => e = .returned (.bool true) ∧ Below W.heap.size W w' := fun W hW => awake_any (HM.out.below hW)
  have HAW := Lib.hid hAw
  clear hS hL hX hm hAw
  go_enter Tryd.func3, Tryd.ntmps3
  go_wp2_with (fail)
  refine calls_name ?_
  intro w1 hw1
  obtain ⟨n3, hn3⟩ : ∃ n, n = w.heap.size := ⟨_, rfl⟩
  obtain ⟨n5, hn5⟩ : ∃ n, n = n3 + 1 := ⟨_, rfl⟩
  have hE1 : Ext2 w w1 := by rw [hw1]; exact ext_trans (below_alloc' _ _) (below_alloc' _ _)
  have X3 : Hid (w1.heap[n3]? = some (Obj.cells #[.slice (SSl.mk ⟨ra, rc⟩ ⟨ca, cc⟩ ps).r.a S.rooms.length (SSl.mk ⟨ra, rc⟩ ⟨ca, cc⟩ ps).r.cap, .slice (SSl.mk ⟨ra, rc⟩ ⟨ca, cc⟩ ps).c.a S.cans.length (SSl.mk ⟨ra, rc⟩ ⟨ca, cc⟩ ps).c.cap, .int .i64 S.rlo, .int .i64 S.rhi, .slice (SSl.mk ⟨ra, rc⟩ ⟨ca, cc⟩ ps).p.a S.steps.length (SSl.mk ⟨ra, rc⟩ ⟨ca, cc⟩ ps).p.cap] 28)) := Lib.hid (by rw [hw1, hn3]; exact blk_alloc (blk_new _ _) _)
  have X5 : Hid (w1.heap[n5]? = some (Obj.cells #[.int .u8 X.can, .int .u8 X.days, .slice q.t.a X.temps.length q.t.cap, .slice q.d.a X.damps.length q.d.cap, .slice q.r.a X.rates.length q.r.cap, .slice q.o.a X.rounded.length q.o.cap] 32 (0, 0))) := Lib.hid (by rw [hw1, hn5, hn3]; exact blk_new' _ _ (by simp))
  have HE1 := Lib.hid hE1
  rw [← hn3, ← hn5]
  clear hw1 hn3 hn5 hE1
  refine (playA_any (HS.out.below HE1.out) (HL.out.below HE1.out) (HM.out.below HE1.out)).mono ?_
  rintro e w2 ⟨⟨ma, mc⟩, ⟨wa, wc⟩, rfl, hMs, hWs, hb2⟩
  have HE2 := Lib.hid (ext_trans HE1.out hb2)
  have X32 := Lib.hid (Ext2.blk hb2 X3.out); have X52 := Lib.hid (Ext2.blk hb2 X5.out)
  have HMS := Lib.hid hMs
  have hMc := hMs.le; have hMm := hMs.max
  dsimp only at hMc hMm
  obtain ⟨E, hE⟩ : ∃ E, E = movedE S L := ⟨_, rfl⟩
  rw [← hE]
  have HEL := Lib.hid hE
  have x3 := X32.out
  have q3c := cell_blk x3
  have q3f := frz_blk x3
  clear hb2 hMs hWs hE x3
  go_wp2_with (fail)
  refine (checkR_any (HS.out.below HE2.out)).mono ?_
  rintro e w3 ⟨rfl, hb3⟩
  have HE3 := Lib.hid (ext_trans HE2.out hb3)
  have X33 := Lib.hid (Ext2.blk hb3 X32.out); have X53 := Lib.hid (Ext2.blk hb3 X52.out)
  have HMS3 := Lib.hid (HMS.out.below hb3)
  obtain ⟨c1, c2, c3, hc⟩ : ∃ a b c, checkV S = (a, b, c) := ⟨_, _, _, rfl⟩
  rw [hc]
  have HC := Lib.hid hc
  dsimp only
  have x3 := X33.out; have x5 := X53.out
  clear hc hb3 q3c q3f
  have q3c := cell_blk x3
  have q3f := frz_blk x3
  have q5c := cell_blk x5
  have q5f := frz_blk x5
  clear x3 x5
  by_cases hE0 : E = 0
  case neg =>
    have hd : (E != 0) = true := by simp [hE0]
    clear hE0
    go_wp2_with (fail)
    refine (HAW.out _ HE3.out).mono ?_
    rintro e w4 ⟨rfl, hb4⟩
    go_wp2_with (fail)
    go_ret
    exact ⟨rfl, ext_trans HE3.out hb4⟩
  subst hE0
  obtain ⟨hck, h60, hval⟩ := movedE_ok HEL.out.symm
  have hc3 : c3 = 0 := by have := chk_iff.2 hck; rw [HC.out] at this; exact this
  subst hc3
  have hd0 : ((0 : Int) != 0) = false := rfl
  by_cases hcn0 : S.cans.length = 0
  · have b1 : ((S.cans.length : Int) == 0) = true := beq_iff_eq.2 (by omega)
    clear hcn0 hck hval
    go_wp2_with (fail)
    refine (HAW.out _ HE3.out).mono ?_
    rintro e w4 ⟨rfl, hb4⟩
    go_wp2_with (fail)
    go_ret
    exact ⟨rfl, ext_trans HE3.out hb4⟩
  have b1 : ((S.cans.length : Int) == 0) = false := beq_eq_false_iff_ne.2 (by omega)
  have hz' : ¬ S.cans = [] := fun h => hcn0 (by rw [h]; rfl)
  have hz : (S.cans.length : Int) ≠ 0 := by omega
  have e1 : playMv S L = (playV S L).1 := by unfold playMv; rw [← HEL.out, if_pos rfl]
  have hpl := played hval (Nat.le_refl L.length)
  rw [e1] at HMS3 hMc ⊢
  obtain ⟨M, hM⟩ : ∃ M, M = (playV S L).1 := ⟨_, rfl⟩
  have hkp : Kept S M := by rw [hM]; exact hpl.kept
  have hml : M.length ≤ L.length := by rw [hM]; exact hpl.le
  rw [← hM] at HMS3 hMc ⊢
  obtain ⟨can, hcan⟩ : ∃ c : Nat, c = X.can.toNat % S.cans.length := ⟨_, rfl⟩
  have hcl' : can < S.cans.length := by rw [hcan]; exact Nat.mod_lt _ (by omega)
  obtain ⟨x0, x1⟩ := HX.out.can; obtain ⟨x2, x3'⟩ := HX.out.days
  have hm0 : X.can.tmod (S.cans.length : Int) = (can : Int) := by
    rw [Int.tmod_eq_emod_of_nonneg x0, hcan, Int.natCast_emod]; congr 1; omega
  obtain ⟨days, hdays⟩ : ∃ c : Nat, c = X.days.toNat % 3 + 1 := ⟨_, rfl⟩
  have hd3 : 1 ≤ days ∧ days ≤ 3 := by omega
  have hm1 : X.days.tmod 3 = (days : Int) - 1 := by
    rw [Int.tmod_eq_emod_of_nonneg x2]; omega
  have wc1 : IntKind.i64.wrap X.can = X.can := IntWalk.i64_in _ (by omega)
  have wc2 : IntKind.i64.wrap X.days = X.days := IntWalk.i64_in _ (by omega)
  have wc3 : IntKind.i64.wrap (can : Int) = (can : Int) := IntWalk.i64_in _ (by omega)
  have wc4 : IntKind.i64.wrap ((days : Int) - 1) = (days : Int) - 1 := IntWalk.i64_in _ (by omega)
  have wc5 : IntKind.i64.wrap (1 + ((days : Int) - 1)) = (days : Int) := by rw [show 1 + ((days : Int) - 1) = (days : Int) by omega]; exact IntWalk.i64_in _ (by omega)
  have HCK := Lib.hid hck; have HKP := Lib.hid hkp; have HMP := Lib.hid hM
  clear hck hval e1 hpl hM hkp hcan hdays x0 x1 x2 x3' hcn0
  go_wp2_with (fail)
  have hCl : Calls Tryd.prog 7 #[.agg #[.slice (SSl.mk ⟨ra, rc⟩ ⟨ca, cc⟩ ps).r.a S.rooms.length (SSl.mk ⟨ra, rc⟩ ⟨ca, cc⟩ ps).r.cap, .slice (SSl.mk ⟨ra, rc⟩ ⟨ca, cc⟩ ps).c.a S.cans.length (SSl.mk ⟨ra, rc⟩ ⟨ca, cc⟩ ps).c.cap, .int .i64 S.rlo, .int .i64 S.rhi, .slice (SSl.mk ⟨ra, rc⟩ ⟨ca, cc⟩ ps).p.a S.steps.length (SSl.mk ⟨ra, rc⟩ ⟨ca, cc⟩ ps).p.cap], .slice sl.a L.length sl.cap, .int .i64 (can : Int), .int .i64 (days : Int)] w3 fun e w' => ∃ q : Sl, e = .returned (.tuple #[.slice q.a days q.cap, .int .i64 0]) ∧ RowS w' q 4 days (dyC (climV S M can days)) ∧ Below w3.heap.size w3 w' := by
    have h := clim_any (c := (can : Int)) (d := (days : Int)) (HS.out.below HE3.out) (HL.out.below HE3.out) (HM.out.below HE3.out)
    have e1 := climE_zero (c := (can : Int)) (d := (days : Int)) HEL.out.symm ⟨by omega, by omega⟩ ⟨by omega, by omega⟩
    have e2 : climA S L (can : Int) (days : Int) = climV S M can days := by unfold climA; rw [if_pos e1, HMP.out]; rfl
    unfold ClimOut at h
    rw [e1, e2, climV_len] at h
    exact h
  refine hCl.mono ?_
  clear hCl
  rintro e w4 ⟨⟨da, dc⟩, rfl, hD, hb4⟩
  have HDC := Lib.hid hD
  have hdl := hD.le; have hdm := hD.max
  dsimp only at hdl hdm
  have HE4 := Lib.hid (ext_trans HE3.out hb4)
  have X34 := Lib.hid (Ext2.blk hb4 X33.out); have X54 := Lib.hid (Ext2.blk hb4 X53.out)
  have HMS4 := Lib.hid (HMS3.out.below hb4)
  obtain ⟨cb, coff, hca, k0, k1, k2, k3⟩ := cn_cells (HS.out.below HE4.out).cn hcl'
  dsimp only at hca
  subst hca
  obtain ⟨o1, o2⟩ := HCK.out.cans.room can hcl'
  obtain ⟨r0, hr0⟩ : ∃ r : Nat, (cnD S.cans can).room = (r : Int) := ⟨(cnD S.cans can).room.toNat, by omega⟩
  have HR0 := Lib.hid hr0
  rw [hr0] at k3 o1 o2
  have hr0l : r0 < S.rooms.length := by omega
  obtain ⟨rb, roff, hra, -⟩ := rm_cells (HS.out.below HE4.out).rm hr0l
  dsimp only at hra
  subst hra
  have hRM : ∀ W, Ext2 w W → ∀ r, r < S.rooms.length → RmCells W S.rooms rb roff r := fun W hW r hr => by
    obtain ⟨b', o', h1, h2⟩ := rm_cells (HS.out.below hW).rm hr
    cases h1; exact h2
  have HRM := Lib.hid hRM
  have hc0 := hRM w4 HE4.out r0 hr0l
  have q1 := hc0.c1; have q2 := hc0.c2
  obtain ⟨R0, hR0⟩ : ∃ R, R = rmD S.rooms r0 := ⟨_, rfl⟩
  rw [← hR0] at q1 q2
  have HRR := Lib.hid hR0
  have hrk := HCK.out.room hr0l
  rw [← hR0] at hrk
  have HPT : Hid (∀ W, Ext2 w4 W → Calls Tryd.prog 8 #[.agg #[.int .i64 R0.tlo, .int .i64 R0.thi], .slice q.t.a X.temps.length q.t.cap, .int .i64 0] W fun e w' => e = .returned (.int .i64 (partV R0.tlo R0.thi (idxL X.temps 0))) ∧ Below W.heap.size W w') := Lib.hid fun W hW => partL_any (t := ⟨R0.tlo, R0.thi⟩) (i := 0) (HX.out.t.below (ext_trans HE4.out hW)) hrk.2.1 (by have := hrk.1.1; simp only; omega) (by have := hrk.1.2.2.2.1; simp only; omega) (by omega)
  have HRK := Lib.hid hrk
  have p0 : (0 : Int) ≤ (can : Int) := by omega
  have p1 : (can : Int) < (S.cans.length : Int) := by omega
  have p2 : (0 : Int) ≤ (r0 : Int) := by omega
  have p3 : (r0 : Int) < (S.rooms.length : Int) := by omega
  have p2' : decide ((0 : Int) ≤ (r0 : Int)) = true := decide_eq_true p2
  have p3' : decide ((r0 : Int) < (S.rooms.length : Int)) = true := decide_eq_true p3
  have b2 : ((days : Int) != (days : Int)) = false := by simp
  have x3 := X34.out; have x5 := X54.out
  clear hb4 hD q3c q3f q5c q5f hRM hc0 hR0 hrk hr0 o1 o2 wc1 wc2 wc3 wc4 wc5 hm0 hm1 hz hz' b1
  have q3c := cell_blk x3
  have q3f := frz_blk x3
  have q5c := cell_blk x5
  have q5f := frz_blk x5
  clear x3 x5
  go_wp2_with (fail)
  refine region_ev [] [0, 1, 2, 3, 4, 5, 6, 7, 8, 9] [] [] (by kernel_rfl) (by kernel_rfl) (by intro c a d v w h; cases d <;> exact h) ?_
  simp only [picks, List.drop_succ_cons, List.drop_zero]
  repeat (refine wpQ0_step (fun K hK => ?_); go_simp; (refine hK _ ?_; clear hK K))
  refine wpQ0_nil ?_
  repeat (refine wpQ2_step (fun K hK => ?_); go_simp; first | (refine hK _ ?_; clear hK K) | (apply Exists.intro; refine ⟨fun x => ?_, hK _ ?_⟩; ((with_reducible exact HPT.out x.1 x.2)); clear hK K))
  refine wpQ2_nil ?_
  refine Events.none_ fun w5 hg5 => ?_
  simp only [picks, List.drop_succ_cons, List.drop_zero]
  have HE5 := Lib.hid (ext_trans HE4.out hg5)
  have X35 := Lib.hid (Ext2.blk hg5 X34.out); have X55 := Lib.hid (Ext2.blk hg5 X54.out)
  have HMS5 := Lib.hid (HMS4.out.below hg5); have HD5 := Lib.hid (HDC.out.below hg5)
  clear hg5 q1 q2 q3c q3f q5c q5f k0 k1 k2 k3
  go_wp2_with (fail)
  obtain ⟨N, hN⟩ : ∃ N, N = days * 24 := ⟨_, rfl⟩
  have wN : IntKind.i64.wrap ((days : Int) * 24) = (N : Int) := by
    rw [show (days : Int) * 24 = (N : Int) by omega]; exact IntWalk.i64_in _ (by omega)
  have hN72 : N ≤ 72 := by omega
  have HN := Lib.hid hN
  have hTp : ∀ (h : Nat), h ≤ 72 → ∀ W, Ext2 w W → Calls Tryd.prog 9 #[.agg #[.slice (SSl.mk ⟨some ⟨rb, roff, none⟩, rc⟩ ⟨some ⟨cb, coff, none⟩, cc⟩ ps).r.a S.rooms.length (SSl.mk ⟨some ⟨rb, roff, none⟩, rc⟩ ⟨some ⟨cb, coff, none⟩, cc⟩ ps).r.cap, .slice (SSl.mk ⟨some ⟨rb, roff, none⟩, rc⟩ ⟨some ⟨cb, coff, none⟩, cc⟩ ps).c.a S.cans.length (SSl.mk ⟨some ⟨rb, roff, none⟩, rc⟩ ⟨some ⟨cb, coff, none⟩, cc⟩ ps).c.cap, .int .i64 S.rlo, .int .i64 S.rhi, .slice (SSl.mk ⟨some ⟨rb, roff, none⟩, rc⟩ ⟨some ⟨cb, coff, none⟩, cc⟩ ps).p.a S.steps.length (SSl.mk ⟨some ⟨rb, roff, none⟩, rc⟩ ⟨some ⟨cb, coff, none⟩, cc⟩ ps).p.cap], .slice sl.a L.length sl.cap, .int .i64 (can : Int), .int .i64 (h : Int)] W fun e' w' => e' = .returned (.tuple #[.agg #[.int .i64 (D.ownT S M can h).lo, .int .i64 (D.ownT S M can h).hi], .int .i64 0]) ∧ Below W.heap.size W w' := fun h hh W hW => by
    have h1 := tempA_any (c := (can : Int)) (h := (h : Int)) (HS.out.below hW) (HL.out.below hW) (HM.out.below hW)
    have e1 := tempE_zero (c := (can : Int)) (h := (h : Int)) HEL.out.symm ⟨by omega, by omega⟩ ⟨by omega, by omega⟩
    have e2 : tempA S L (can : Int) (h : Int) = D.ownT S M can h := by unfold tempA; rw [if_pos e1, HMP.out]; rfl
    rw [e1, e2] at h1
    exact h1
  have HTP := Lib.hid hTp
  obtain ⟨db, doff, hda, hDC⟩ := HD5.out.row (show 0 < days by omega) (by omega)
  dsimp only at hda
  subst hda
  have HDC4 := Lib.hid hDC
  clear hDC
  have hpt0 := part_in (b := idxL X.temps 0) HRK.out.2.1 (idxL_in (fun i hi => u8_in (HX.out.t.2 i hi)) 0).1 (idxL_in (fun i hi => u8_in (HX.out.t.2 i hi)) 0).2
  have HP0 : Hid ((D.ownT S M can 0).lo ≤ partV R0.tlo R0.thi (idxL X.temps 0) ∧ partV R0.tlo R0.thi (idxL X.temps 0) ≤ (D.ownT S M can 0).hi) := Lib.hid (by
    rw [D.ownT, HR0.out, Int.toNat_natCast, ← HRR.out]; exact hpt0)
  have HT0 : Hid (TrSt S M can 0 0 (r0 : Int)) := Lib.hid (by rw [← HR0.out]; exact tr_zero HKP.out)
  clear hTp hpt0 hN p0 p1 p2 p3 p2' p3' b2
  go_loopw [16, 17, 18, 19] (fun rm ow kk z wr => ∃ (h k : Nat) (own room : Int), z = .int .i64 (h : Int) ∧ kk = .int .i64 (k : Int) ∧ ow = .int .i64 own ∧ rm = .int .i64 room ∧ h ≤ N + 1 ∧ TrSt S M can h k room ∧ ((D.ownT S M can h).lo ≤ own ∧ own ≤ (D.ownT S M can h).hi) ∧ Ext2 w5 wr) (fun _ _ _ z _ => N + 2 - (intOf z).toNat)
  case atStart => exact ⟨0, 0, _, _, rfl, rfl, rfl, rfl, by omega, HT0.out, HP0.out, Below.refl _ _⟩
  case round =>
    obtain ⟨h, k, own, room, rfl, rfl, rfl, rfl, hh, hT, hO, hE⟩ := hrel
    have HT := Lib.hid hT; have HOW := Lib.hid hO; have HE := Lib.hid hE
    have x3 := Ext2.blk hE X35.out; have x5 := Ext2.blk hE X55.out
    have q3c := cell_blk x3
    have q3f := frz_blk x3
    have q5c := cell_blk x5
    have q5f := frz_blk x5
    clear hT hE x3 x5
    by_cases hhN : h ≤ N
    · have f1 : (h : Int) ≤ (N : Int) := by omega
      obtain ⟨T, hTT⟩ : ∃ T, T = D.ownT S M can h := ⟨_, rfl⟩
      have hTi := HCK.out.own HKP.out.valid hcl' h
      rw [← hTT] at hO hTi
      obtain ⟨t1, t2, t3, t4⟩ := hTi
      obtain ⟨g1, g2⟩ := hO
      have g1' : ¬ own < T.lo := by omega
      have g2' : ¬ T.hi < own := by omega
      have HTT := Lib.hid hTT
      have hTc : ∀ W, Ext2 w W → Calls Tryd.prog 9 #[.agg #[.slice (SSl.mk ⟨some ⟨rb, roff, none⟩, rc⟩ ⟨some ⟨cb, coff, none⟩, cc⟩ ps).r.a S.rooms.length (SSl.mk ⟨some ⟨rb, roff, none⟩, rc⟩ ⟨some ⟨cb, coff, none⟩, cc⟩ ps).r.cap, .slice (SSl.mk ⟨some ⟨rb, roff, none⟩, rc⟩ ⟨some ⟨cb, coff, none⟩, cc⟩ ps).c.a S.cans.length (SSl.mk ⟨some ⟨rb, roff, none⟩, rc⟩ ⟨some ⟨cb, coff, none⟩, cc⟩ ps).c.cap, .int .i64 S.rlo, .int .i64 S.rhi, .slice (SSl.mk ⟨some ⟨rb, roff, none⟩, rc⟩ ⟨some ⟨cb, coff, none⟩, cc⟩ ps).p.a S.steps.length (SSl.mk ⟨some ⟨rb, roff, none⟩, rc⟩ ⟨some ⟨cb, coff, none⟩, cc⟩ ps).p.cap], .slice sl.a L.length sl.cap, .int .i64 (can : Int), .int .i64 (h : Int)] W fun e' w' => e' = .returned (.tuple #[.agg #[.int .i64 T.lo, .int .i64 T.hi], .int .i64 0]) ∧ Below W.heap.size W w' := fun W hW => by rw [hTT]; exact HTP.out h (by omega) W hW
      have HTC := Lib.hid hTc
      clear hTT hTc
      go_wp2_with (fail)
      refine (HTC.out _ (ext_trans HE5.out HE.out)).mono ?_
      rintro e w6 ⟨rfl, hb6⟩
      have HE6 := Lib.hid (ext_trans HE.out hb6)
      clear hb6 q3c q3f q5c q5f
      go_wp2_with (fail)
      refine wp_name ?_
      intro w7 hw7
      have hE7 : Ext2 w6 w7 := by rw [hw7]; exact below_alloc' _ _
      have HE7 := Lib.hid (ext_trans HE6.out hE7)
      clear hw7 hE7
      have hRN : ∀ W, Ext2 w5 W → ∀ r, r < S.rooms.length → RmCells W S.rooms rb roff r := fun W hW => HRM.out W (ext_trans HE5.out hW)
      have HRN := Lib.hid hRN
      have hPart : ∀ (r : Nat), r < S.rooms.length → ∀ (i : Nat), i ≤ 100 → ∀ W, Ext2 w5 W → Calls Tryd.prog 8 #[.agg #[.int .i64 (rmD S.rooms r).tlo, .int .i64 (rmD S.rooms r).thi], .slice q.t.a X.temps.length q.t.cap, .int .i64 (i : Int)] W fun e w' => e = .returned (.int .i64 (partV (rmD S.rooms r).tlo (rmD S.rooms r).thi (idxL X.temps i))) ∧ Below W.heap.size W w' := fun r hr i hi W hW => by
        have hk := HCK.out.room hr
        exact partL_any (t := ⟨(rmD S.rooms r).tlo, (rmD S.rooms r).thi⟩) (i := i) (HX.out.t.below (ext_trans HE5.out hW)) hk.2.1 (by have := hk.1.1; simp only; omega) (by have := hk.1.2.2.2.1; simp only; omega) (by omega)
      have hDamp : ∀ (r : Nat), r < S.rooms.length → ∀ (i : Nat), i ≤ 100 → ∀ W, Ext2 w5 W → Calls Tryd.prog 8 #[.agg #[.int .i64 (rmD S.rooms r).dlo, .int .i64 (rmD S.rooms r).dhi], .slice q.d.a X.damps.length q.d.cap, .int .i64 (i : Int)] W fun e w' => e = .returned (.int .i64 (partV (rmD S.rooms r).dlo (rmD S.rooms r).dhi (idxL X.damps i))) ∧ Below W.heap.size W w' := fun r hr i hi W hW => by
        have hk := HCK.out.room hr
        exact partL_any (t := ⟨(rmD S.rooms r).dlo, (rmD S.rooms r).dhi⟩) (i := i) (HX.out.d.below (ext_trans HE5.out hW)) hk.2.2.1 (by have := hk.1.2.2.2.2.1; simp only; omega) (by have := hk.1.2.2.2.2.2.2.2; simp only; omega) (by omega)
      have HPA := Lib.hid hPart; have HDA := Lib.hid hDamp
      clear hRN hPart hDamp
      go_loopw [16, 18] (fun rm kk wr => ∃ (k : Nat) (room : Int), kk = .int .i64 (k : Int) ∧ rm = .int .i64 room ∧ TrSt S M can h k room ∧ Ext2 w5 wr) (fun _ kk _ => M.length - (intOf kk).toNat)
      case atStart => exact ⟨k, room, rfl, rfl, HT.out, HE7.out⟩
      case round =>
        obtain ⟨k2, rm2, rfl, rfl, hT2, hE⟩ := hrel
        have HT2 := Lib.hid hT2; have HE2r := Lib.hid hE
        have hk2le := hT2.le
        have x3 := Ext2.blk hE X35.out; have x5 := Ext2.blk hE X55.out
        have q3c := cell_blk x3
        have q3f := frz_blk x3
        have q5c := cell_blk x5
        have q5f := frz_blk x5
        clear hT2 hE x3 x5
        have wk2 : IntKind.i64.wrap ((k2 : Int) + 1) = (k2 : Int) + 1 := IntWalk.i64_in _ (by omega)
        obtain ⟨B, hB⟩ : ∃ B : Bool, B = decide (k2 < M.length ∧ (mvD M k2).hour ≤ (h : Int)) := ⟨_, rfl⟩
        have HBB := Lib.hid hB
        clear hB
        go_upto_region 19 with fail
        go_cut [139] from 127 to 139 (fun v wx => v = .bool B ∧ wx = wr)
        case first =>
          by_cases hkl : k2 < M.length
          · have f2 : (k2 : Int) < (M.length : Int) := by omega
            have f3 : (0 : Int) ≤ (k2 : Int) := by omega
            obtain ⟨mb, moff, hma, d0, d1, d2⟩ := mv_cells (HMS5.out.below HE2r.out) hkl
            dsimp only at hma
            subst hma
            by_cases hvh : (mvD M k2).hour ≤ (h : Int)
            · have e1 := Lib.hid (show Value.bool true = Value.bool B by rw [HBB.out, decide_eq_true (show k2 < M.length ∧ (mvD M k2).hour ≤ (h : Int) from ⟨hkl, hvh⟩)])
              clear hkl d1 d2
              go_wp2_with (fail)
              go_meet
              case rel => exact ⟨e1.out, rfl⟩
            · have e1 := Lib.hid (show Value.bool false = Value.bool B by rw [HBB.out, decide_eq_false (fun hh => hvh hh.2)])
              clear hkl d1 d2
              go_wp2_with (fail)
              go_meet
              case rel => exact ⟨e1.out, rfl⟩
          · have f2 : ¬ (k2 : Int) < (M.length : Int) := by omega
            have e1 := Lib.hid (show Value.bool false = Value.bool B by rw [HBB.out, decide_eq_false (fun hh => hkl hh.1)])
            clear hkl
            go_wp2_with (fail)
            go_meet
            case rel => exact ⟨e1.out, rfl⟩
        case rest =>
        obtain ⟨rfl, hwc⟩ := hcut
        replace hwc := hwc.symm
        subst hwc
        by_cases hkh : k2 < M.length ∧ (mvD M k2).hour ≤ (h : Int)
        · as_aux_lemma =>
          obtain ⟨hkl, hkh2⟩ := hkh
          rw [HBB.out, decide_eq_true (show k2 < M.length ∧ (mvD M k2).hour ≤ (h : Int) from ⟨hkl, hkh2⟩)]
          have f2 : (k2 : Int) < (M.length : Int) := by omega
          have f3 : (0 : Int) ≤ (k2 : Int) := by omega
          obtain ⟨mb, moff, hma, d0, d1, d2⟩ := mv_cells (HMS5.out.below HE2r.out) hkl
          dsimp only at hma
          subst hma
          obtain ⟨v, hv⟩ : ∃ v, v = mvD M k2 := ⟨_, rfl⟩
          rw [← hv] at d0 d1 d2
          have HV := Lib.hid hv
          have hvh : v.hour ≤ (h : Int) := by rw [hv]; exact hkh2
          clear hkh2
          · obtain ⟨hhr, hT3⟩ := tr_step HKP.out HT2.out hkl (by rw [← hv]; exact hvh)
            rw [← hv] at hhr hT3
            have HHR := Lib.hid hhr
            have hvd := mvE_iff.1 (HKP.out.valid _ (mvD_mem hkl))
            rw [← hv] at hvd
            obtain ⟨-, -, z1, z2⟩ := hvd
            clear hv hhr
            by_cases hvc : v.can = (can : Int)
            · rw [if_pos hvc] at hT3
              have HT3 := Lib.hid hT3
              have e1 : (v.can == (can : Int)) = true := beq_iff_eq.2 hvc
              have HVC := Lib.hid hvc
              clear hT3 hvc
              go_wp2_with (fail)
              obtain ⟨to2, hto⟩ : ∃ n : Nat, v.to_ = (n : Int) := ⟨v.to_.toNat, by omega⟩
              rw [hto] at d2 z1 z2
              have HTO := Lib.hid hto
              have htl : to2 < S.rooms.length := by omega
              have hrc := HRN.out wr HE2r.out to2 htl
              have m1 := hrc.c1; have m2 := hrc.c2; have m3 := hrc.c3; have m4 := hrc.c4
              obtain ⟨R, hR⟩ : ∃ R, R = rmD S.rooms to2 := ⟨_, rfl⟩
              rw [← hR] at m1 m2 m3 m4
              have HRR2 := Lib.hid hR
              have hk := HCK.out.room htl
              rw [← hR] at hk
              obtain ⟨⟨r1, r2, r3, r4, r5, r6, r7, r8⟩, r9, r10, -⟩ := hk
              have bt := idxL_in (fun i hi => u8_in (HX.out.t.2 i hi)) h
              have bd := idxL_in (fun i hi => u8_in (HX.out.d.2 i hi)) h
              have at1 := part_in (b := idxL X.temps h) r9 bt.1 bt.2
              have ad1 := part_in (b := idxL X.damps h) r10 bd.1 bd.2
              obtain ⟨air, hair⟩ : ∃ a, a = partV R.tlo R.thi (idxL X.temps h) := ⟨_, rfl⟩
              obtain ⟨dmp, hdmp⟩ : ∃ a, a = partV R.dlo R.dhi (idxL X.damps h) := ⟨_, rfl⟩
              rw [← hair] at at1; rw [← hdmp] at ad1
              have hPA : ∀ W, Ext2 wr W → Calls Tryd.prog 8 #[.agg #[.int .i64 R.tlo, .int .i64 R.thi], .slice q.t.a X.temps.length q.t.cap, .int .i64 (h : Int)] W fun e w' => e = .returned (.int .i64 air) ∧ Below W.heap.size W w' := fun W hW => by rw [hair, hR]; exact HPA.out to2 htl h (by omega) W (ext_trans HE2r.out hW)
              have hDA : ∀ W, Ext2 w5 W → Calls Tryd.prog 8 #[.agg #[.int .i64 R.dlo, .int .i64 R.dhi], .slice q.d.a X.damps.length q.d.cap, .int .i64 (h : Int)] W fun e w' => e = .returned (.int .i64 dmp) ∧ Below W.heap.size W w' := fun W hW => by rw [hdmp, hR]; exact HDA.out to2 htl h (by omega) W hW
              have HPA2 := Lib.hid hPA; have HDA2 := Lib.hid hDA
              have hown : own ≤ 600 ∧ -300 ≤ own := by omega
              have hdry : dmp * vap air ≤ 1000 * vap own := kept_dry HCK.out HKP.out hkl (by rw [← HV.out]; exact HHR.out) (by rw [← HV.out]; exact HVC.out) (by rw [← HV.out, hto, Int.toNat_natCast, ← hR]; exact at1.2) (by omega) (by rw [← HV.out, hto, Int.toNat_natCast, ← hR]; exact ad1.2) (by omega) HOW.out.1 hown.1
              have HDRY := Lib.hid hdry
              have e2 : decide ((to2 : Int) < 0) = false := decide_eq_false (by omega)
              have e3 : decide ((S.rooms.length : Int) ≤ (to2 : Int)) = false := decide_eq_false (by omega)
              have e2' : ¬ (to2 : Int) < 0 := by omega
              have e3' : ¬ (S.rooms.length : Int) ≤ (to2 : Int) := by omega
              have e3n : ¬ S.rooms.length ≤ to2 := by omega
              have f2' : decide ((k2 : Int) < (M.length : Int)) = true := decide_eq_true f2
              have f3' : decide ((0 : Int) ≤ (k2 : Int)) = true := decide_eq_true f3
              clear hto hrc hR hair hdmp hPA hDA hdry
              refine region_ev [] [0, 1, 2, 3, 4, 5, 6, 7, 8, 9, 10, 11, 12, 13, 14, 15, 16] [] [] (by kernel_rfl) (by kernel_rfl) (by intro c a d v w h; cases d <;> exact h) ?_
              simp only [picks, List.drop_succ_cons, List.drop_zero]
              repeat (refine wpQ0_step (fun K hK => ?_); go_simp; (refine hK _ ?_; clear hK K))
              refine wpQ0_nil ?_
              repeat ((with_reducible refine wpQ2_step (fun K hK => ?_)); go_simp; first | ((with_reducible refine hK _ ?_); clear hK K) | (apply Exists.intro; refine ⟨fun x => ?_, hK _ ?_⟩; (fail); clear hK K) | (refine ite_undef (fun h => (by have h_ : (none : Option Bool) = some _ := h; cases h_)) ?_; (with_reducible refine hK _ ?_); clear hK K))
              (with_reducible refine wpQ2_nil ?_)
              refine Events.none_ fun w8 hg8 => ?_
              simp only [picks, List.drop_succ_cons, List.drop_zero]
              have HE8 := Lib.hid (ext_trans HE2r.out hg8)
              have d2b : w8.cell? ⟨mb, moff + k2 * 3 + 2, none⟩ = some (.int .i64 (to2 : Int)) := (Below.cell hg8 (cell_lt d2)).trans d2
              have m1b : w8.cell? ⟨rb, roff + to2 * 10 + 1, none⟩ = some (.int .i64 R.tlo) := (Below.cell hg8 (cell_lt m1)).trans m1
              have m2b : w8.cell? ⟨rb, roff + to2 * 10 + 2, none⟩ = some (.int .i64 R.thi) := (Below.cell hg8 (cell_lt m2)).trans m2
              have x3 := Ext2.blk HE8.out X35.out; have x5 := Ext2.blk HE8.out X55.out
              have HPA3 : Hid (∀ W, Ext2 w8 W → Calls Tryd.prog 8 #[.agg #[.int .i64 R.tlo, .int .i64 R.thi], .slice q.t.a X.temps.length q.t.cap, .int .i64 (h : Int)] W fun e w' => e = .returned (.int .i64 air) ∧ Below W.heap.size W w') := Lib.hid fun W hW => HPA2.out W (ext_trans hg8 hW)
              have z2' : (to2 : Int) < (S.rooms.length : Int) := z2
              have z1' : (0 : Int) ≤ (to2 : Int) := z1
              have z1d : decide ((0 : Int) ≤ (to2 : Int)) = true := decide_eq_true z1
              have z2d : decide ((to2 : Int) < (S.rooms.length : Int)) = true := decide_eq_true z2
              clear d0 d1 d2 m1 m2 q3c q3f q5c q5f
              have q3c := cell_blk x3
              have q3f := frz_blk x3
              have q5c := cell_blk x5
              have q5f := frz_blk x5
              clear x3 x5
              go_wp2_with (fail)
              refine region_ev [] [0, 1, 2, 3, 4, 5, 6, 7, 8, 9, 10] [] [] (by kernel_rfl) (by kernel_rfl) (by intro c a d v w h; cases d <;> exact h) ?_
              simp only [picks, List.drop_succ_cons, List.drop_zero]
              repeat (refine wpQ0_step (fun K hK => ?_); go_simp; (refine hK _ ?_; clear hK K))
              refine wpQ0_nil ?_
              repeat (refine wpQ2_step (fun K hK => ?_); go_simp; first | (refine hK _ ?_; clear hK K) | (apply Exists.intro; refine ⟨fun x => ?_, hK _ ?_⟩; ((with_reducible exact HPA3.out x.1 x.2)); clear hK K))
              refine wpQ2_nil ?_
              refine Events.none_ fun w9 hg9 => ?_
              simp only [picks, List.drop_succ_cons, List.drop_zero]
              have HE9 := Lib.hid (ext_trans HE8.out hg9)
              have va := vap_in (show -300 ≤ air by omega) (show air ≤ 600 by omega)
              have vo := vap_in hown.2 hown.1
              have HVA : Hid (∀ W, Calls Tryd.prog 10 #[.int .i64 air] W fun e w' => e = .returned (.tuple #[.int .i64 (vap air), .int .i64 0]) ∧ Below W.heap.size W w') := Lib.hid fun W => by
                have h1 := vapourA_any (t := air) W
                rw [inB_iff.2 (show -300 ≤ air ∧ air ≤ 600 by omega)] at h1; exact h1
              have HVO : Hid (∀ W, Calls Tryd.prog 10 #[.int .i64 own] W fun e w' => e = .returned (.tuple #[.int .i64 (vap own), .int .i64 0]) ∧ Below W.heap.size W w') := Lib.hid fun W => by
                have h1 := vapourA_any (t := own) W
                rw [inB_iff.2 (show -300 ≤ own ∧ own ≤ 600 by omega)] at h1; exact h1
              have hdr := HDRY.out
              obtain ⟨va', hva⟩ : ∃ x, x = vap air := ⟨_, rfl⟩
              obtain ⟨vo', hvo⟩ : ∃ x, x = vap own := ⟨_, rfl⟩
              rw [← hva] at HVA va hdr; rw [← hvo] at HVO vo hdr
              obtain ⟨pr, hpr⟩ : ∃ x, x = dmp * va' := ⟨_, rfl⟩
              have hprb : 0 ≤ pr ∧ pr ≤ 130200000 := by
                have a1 : dmp * va' ≤ 1000 * 130200 := Int.mul_le_mul (by omega) va.2 (by omega) (by omega)
                have a2 : 0 ≤ dmp * va' := Int.mul_nonneg (by omega) (by omega)
                omega
              rw [← hpr] at hdr
              have wm1 : IntKind.i64.wrap (dmp * va') = pr := by rw [← hpr]; exact IntWalk.i64_in _ (by omega)
              have wm2 : IntKind.i64.wrap (1000 * vo') = 1000 * vo' := IntWalk.i64_in _ (by omega)
              have s1 : decide (1000 * vo' < pr) = false := decide_eq_false (by omega)
              have s1' : ¬ 1000 * vo' < pr := by omega
              clear hva hvo hpr q3c q3f q5c q5f
              go_wp2_with (fail)
              (with_reducible refine (HVA.out _).mono ?_)
              rintro e w10 ⟨rfl, hb10⟩
              go_wp2_with (fail)
              (with_reducible refine (HVO.out _).mono ?_)
              rintro e w11 ⟨rfl, hb11⟩
              have HE11 := Lib.hid (ext_trans HE9.out (ext_trans hb10 hb11))
              have hrc := HRN.out w11 HE11.out to2 htl
              have m3b := hrc.c3; have m4b := hrc.c4
              rw [← HRR2.out] at m3b m4b
              have x3 := Ext2.blk HE11.out X35.out; have x5 := Ext2.blk HE11.out X55.out
              have HDA3 : Hid (∀ W, Ext2 w11 W → Calls Tryd.prog 8 #[.agg #[.int .i64 R.dlo, .int .i64 R.dhi], .slice q.d.a X.damps.length q.d.cap, .int .i64 (h : Int)] W fun e w' => e = .returned (.int .i64 dmp) ∧ Below W.heap.size W w') := Lib.hid fun W hW => HDA2.out W (ext_trans HE11.out hW)
              have q3c := cell_blk x3
              have q3f := frz_blk x3
              have q5c := cell_blk x5
              have q5f := frz_blk x5
              clear x3 x5 hrc hb10 hb11
              go_wp2_with (fail)
              refine region_ev [] [0, 1, 2, 3, 4, 5, 6, 7, 8, 9, 10, 11, 12, 13, 14, 15, 16, 17, 18, 19, 20, 21, 22] [] [] (by kernel_rfl) (by kernel_rfl) (by intro c a d v w h; cases d <;> exact h) ?_
              simp only [picks, List.drop_succ_cons, List.drop_zero]
              repeat (refine wpQ0_step (fun K hK => ?_); go_simp; (refine hK _ ?_; clear hK K))
              refine wpQ0_nil ?_
              repeat ((with_reducible refine wpQ2_step (fun K hK => ?_)); go_simp; first | ((with_reducible refine hK _ ?_); clear hK K) | (apply Exists.intro; refine ⟨fun x => ?_, hK _ ?_⟩; ((with_reducible exact HDA3.out x.1 x.2)); clear hK K) | (refine ite_undef (fun h => (by have h_ : (none : Option Bool) = some _ := h; cases h_)) ?_; (with_reducible refine hK _ ?_); clear hK K))
              (with_reducible refine wpQ2_nil ?_)
              refine Events.none_ fun w12 hg12 => ?_
              simp only [picks, List.drop_succ_cons, List.drop_zero]
              have HE12 := Lib.hid (ext_trans HE11.out hg12)
              clear hg12 m3b m4b q3c q3f q5c q5f d2b m1b m2b m3 m4
              go_wp2_with (fail)
              go_roundw
              case rel => exact ⟨k2 + 1, (to2 : Int), by go_num, rfl, by rw [← HTO.out]; exact HT3.out, HE12.out⟩
              case measure => simp [intOf]; omega
            · rw [if_neg hvc] at hT3
              have HT3 := Lib.hid hT3
              have e1 : (v.can == (can : Int)) = false := beq_eq_false_iff_ne.2 hvc
              clear hT3 hvc z1 z2
              go_wp2_with (fail)
              go_roundw
              case rel => exact ⟨k2 + 1, rm2, by go_num, rfl, HT3.out, HE2r.out⟩
              case measure => simp [intOf]; omega
        · as_aux_lemma =>
          rw [HBB.out, decide_eq_false hkh]
          obtain ⟨hrm, hT4⟩ := tr_done HKP.out HT2.out (fun h' => Int.not_le.1 fun hh => hkh ⟨h', hh⟩)
          have HT4 := Lib.hid hT4
          obtain ⟨g3, g4⟩ := HCK.out.atIn HKP.out.valid hcl' (h : Int)
          obtain ⟨q0, hq0⟩ : ∃ n : Nat, rm2 = (n : Int) := ⟨rm2.toNat, by omega⟩
          subst hq0
          have hq0l : q0 < S.rooms.length := by omega
          obtain ⟨R, hR⟩ : ∃ R, R = rmD S.rooms q0 := ⟨_, rfl⟩
          have HAT := Lib.hid (show rmAt S M can (h : Int) = R by unfold rmAt; rw [← hrm, Int.toNat_natCast, hR])
          have HRR2 := Lib.hid hR
          have hk := HCK.out.room hq0l
          rw [← hR] at hk
          obtain ⟨⟨r1, r2, r3, r4, r5, r6, r7, r8⟩, r9, r10, -⟩ := hk
          obtain ⟨dI, hdI⟩ : ∃ d, d = min h (N - 1) / 24 := ⟨_, rfl⟩
          have hNd := HN.out
          have hdl : dI < days := by omega
          have e0 : min (h : Int) ((N : Int) - 1) = ((min h (N - 1) : Nat) : Int) := by omega
          have e1 : (min (h : Int) ((N : Int) - 1)).tdiv 24 = (dI : Int) := by rw [e0, Int.tdiv_eq_ediv_of_nonneg (by omega), hdI]; omega
          have wd : IntKind.i64.wrap (dI : Int) = (dI : Int) := IntWalk.i64_in _ (by omega)
          have wN1 : IntKind.i64.wrap ((N : Int) - 1) = (N : Int) - 1 := IntWalk.i64_in _ (by omega)
          have j0 : (0 : Int) ≤ (dI : Int) := by omega
          have j1 : (dI : Int) < (days : Int) := by omega
          obtain ⟨D0, hD0⟩ : ∃ D, D = dyD (climV S M can days) dI := ⟨_, rfl⟩
          have hD1 : D0 = dayJ S M can dI 24 := by
            rw [hD0]; unfold dyD climV; simp [hdl]
          obtain ⟨y0, y1, y2, y3⟩ := (HDC4.out.below HE2r.out).four hdl
          replace y0 : wr.cell? ⟨db, doff + dI * 4, none⟩ = some (.int .i64 D0.tlo) := by rw [hD0]; exact y0
          replace y1 : wr.cell? ⟨db, doff + dI * 4 + 1, none⟩ = some (.int .i64 D0.thi) := by rw [hD0]; exact y1
          replace y2 : wr.cell? ⟨db, doff + dI * 4 + 2, none⟩ = some (.int .i64 D0.dlo) := by rw [hD0]; exact y2
          replace y3 : wr.cell? ⟨db, doff + dI * 4 + 3, none⟩ = some (.int .i64 D0.dhi) := by rw [hD0]; exact y3
          have hF1 := day_temp (S := S) (M := M) (c := can) (d := dI) (j := 24) (k := h - dI * 24) (by omega)
          rw [show dI * 24 + (h - dI * 24) = h by omega, ← hD1] at hF1
          have o1 : ¬ own < D0.tlo := by have := HOW.out.1; have := hF1.1; omega
          have o2 : ¬ D0.thi < own := by have := HOW.out.2; have := hF1.2; omega
          have bt := idxL_in (fun i hi => u8_in (HX.out.t.2 i hi)) h
          have bd := idxL_in (fun i hi => u8_in (HX.out.d.2 i hi)) h
          have br := idxL_in (fun i hi => u8_in (HX.out.r.2 i hi)) h
          have at1 := part_in (b := idxL X.temps h) r9 bt.1 bt.2
          have ad1 := part_in (b := idxL X.damps h) r10 bd.1 bd.2
          obtain ⟨rt1, rt2, rt3, rt4⟩ := HCK.out.rates
          have rt5 := HCK.out.rle
          have ar1 := part_in (b := idxL X.rates h) (lo := S.rlo) (hi := S.rhi) (by omega) br.1 br.2
          obtain ⟨air, hair⟩ : ∃ a, a = partV R.tlo R.thi (idxL X.temps h) := ⟨_, rfl⟩
          obtain ⟨dmp, hdmp⟩ : ∃ a, a = partV R.dlo R.dhi (idxL X.damps h) := ⟨_, rfl⟩
          obtain ⟨rate, hrate⟩ : ∃ a, a = partV S.rlo S.rhi (idxL X.rates h) := ⟨_, rfl⟩
          rw [← hair] at at1; rw [← hdmp] at ad1; rw [← hrate] at ar1
          have hF2 : h < N → D0.dlo ≤ dmp ∧ dmp ≤ D0.dhi := fun hlt => by
            have h2 := day_damp (S := S) (M := M) (c := can) (d := dI) (j := 24) (k := h - dI * 24) (by omega)
            rw [show dI * 24 + (h - dI * 24) = h by omega, ← hD1, HAT.out] at h2
            omega
          have HF2 := Lib.hid hF2
          have hPA : ∀ W, Ext2 wr W → Calls Tryd.prog 8 #[.agg #[.int .i64 R.tlo, .int .i64 R.thi], .slice q.t.a X.temps.length q.t.cap, .int .i64 (h : Int)] W fun e w' => e = .returned (.int .i64 air) ∧ Below W.heap.size W w' := fun W hW => by rw [hair, hR]; exact HPA.out q0 hq0l h (by omega) W (ext_trans HE2r.out hW)
          have hDA : ∀ W, Ext2 wr W → Calls Tryd.prog 8 #[.agg #[.int .i64 R.dlo, .int .i64 R.dhi], .slice q.d.a X.damps.length q.d.cap, .int .i64 (h : Int)] W fun e w' => e = .returned (.int .i64 dmp) ∧ Below W.heap.size W w' := fun W hW => by rw [hdmp, hR]; exact HDA.out q0 hq0l h (by omega) W (ext_trans HE2r.out hW)
          have hRA : ∀ W, Ext2 wr W → Calls Tryd.prog 8 #[.agg #[.int .i64 S.rlo, .int .i64 S.rhi], .slice q.r.a X.rates.length q.r.cap, .int .i64 (h : Int)] W fun e w' => e = .returned (.int .i64 rate) ∧ Below W.heap.size W w' := fun W hW => by
            rw [hrate]; exact partL_any (t := ⟨S.rlo, S.rhi⟩) (i := h) (HX.out.r.below (ext_trans HE5.out (ext_trans HE2r.out hW))) (by simp only; omega) (by simp only; omega) (by simp only; omega) (by omega)
          have HPA2 := Lib.hid hPA; have HDA2 := Lib.hid hDA; have HRA2 := Lib.hid hRA
          have i0 : (0 : Int) ≤ (q0 : Int) := by omega
          have i1 : (q0 : Int) < (S.rooms.length : Int) := by omega
          have i0' : decide ((0 : Int) ≤ (q0 : Int)) = true := decide_eq_true i0
          have i1' : decide ((q0 : Int) < (S.rooms.length : Int)) = true := decide_eq_true i1
          have hTW : ∀ up : Bool, ((D.ownT S M can (h + 1)).lo ≤ towardV own air rate up ∧ towardV own air rate up ≤ (D.ownT S M can (h + 1)).hi) := fun up => by
            have h3 := toward_in (S := S) (r := R) (t := D.ownT S M can h) (up := up) HCK.out.rates HOW.out.1 HOW.out.2 at1.1 at1.2 ar1.1 ar1.2
            rw [D.ownT, HAT.out]; exact h3
          have HTW := Lib.hid hTW
          have hown : own ≤ 600 ∧ -300 ≤ own := by omega
          have hTL : ∀ (up : Bool) (W : World), Calls Tryd.prog 11 #[.int .i64 own, .int .i64 air, .int .i64 rate, .bool up] W fun e w' => e = .returned (.int .i64 (towardV own air rate up)) ∧ Below W.heap.size W w' := fun up W => towardL_any W (by omega) (by omega) (by omega)
          have HTL := Lib.hid hTL
          clear hkh hT4 hrm hR hdI e0 hNd hD0 hD1 hF1 hair hdmp hrate hPA hDA hRA hTW hTL hF2 g3 g4 bt bd br rt1 rt2 rt3 rt4 rt5
          go_wp2_with (fail)
          refine wp_name ?_
          intro w8 hw8
          obtain ⟨n27, hn27⟩ : ∃ b, b = wr.heap.size := ⟨_, rfl⟩
          have hE8 : Ext2 wr w8 := by rw [hw8]; exact below_alloc' _ _
          have x27 : w8.heap[n27]? = some (Obj.cells #[.int .i64 D0.tlo, .int .i64 D0.thi, .int .i64 D0.dlo, .int .i64 D0.dhi] 55) := by rw [hw8, hn27]; exact blk_new _ _
          rw [← hn27]
          have HE8 := Lib.hid (ext_trans HE2r.out hE8); have HX8 := Lib.hid hE8; have X27 := Lib.hid x27
          have hrc := HRN.out w8 HE8.out q0 hq0l
          have m1 := hrc.c1; have m2 := hrc.c2; have m3 := hrc.c3; have m4 := hrc.c4
          rw [← HRR2.out] at m1 m2 m3 m4
          have x3 := Ext2.blk HE8.out X35.out; have x5 := Ext2.blk HE8.out X55.out
          have HDA3 : Hid (∀ W, Ext2 w8 W → Calls Tryd.prog 8 #[.agg #[.int .i64 R.dlo, .int .i64 R.dhi], .slice q.d.a X.damps.length q.d.cap, .int .i64 (h : Int)] W fun e w' => e = .returned (.int .i64 dmp) ∧ Below W.heap.size W w') := Lib.hid fun W hW => HDA2.out W (ext_trans hE8 hW)
          clear hw8 hn27 hE8 hrc q3c q3f q5c q5f y0 y1 y2 y3 e1 wd wN1 j0 j1 x27
          have q3c := cell_blk x3
          have q3f := frz_blk x3
          have q5c := cell_blk x5
          have q5f := frz_blk x5
          clear x3 x5
          refine region_ev [] [0, 1, 2, 3, 4, 5, 6, 7, 8, 9, 10] [] [] (by kernel_rfl) (by kernel_rfl) (by intro c a d v w h; cases d <;> exact h) ?_
          simp only [picks, List.drop_succ_cons, List.drop_zero]
          repeat (refine wpQ0_step (fun K hK => ?_); go_simp; (refine hK _ ?_; clear hK K))
          refine wpQ0_nil ?_
          repeat ((with_reducible refine wpQ2_step (fun K hK => ?_)); go_simp; first | ((with_reducible refine hK _ ?_); clear hK K) | (apply Exists.intro; refine ⟨fun x => ?_, hK _ ?_⟩; ((with_reducible exact HDA3.out x.1 x.2)); clear hK K))
          refine wpQ2_nil ?_
          refine Events.none_ fun w9 hg9 => ?_
          simp only [picks, List.drop_succ_cons, List.drop_zero]
          have HE9 := Lib.hid (ext_trans HE8.out hg9); have HX9 := Lib.hid (ext_trans HX8.out hg9)
          have x27 := Ext2.blk hg9 X27.out
          clear hg9 q3c q3f q5c q5f m1 m2 m3 m4 X27
          have q27c := cell_blk x27
          have q27f := frz_blk x27
          clear x27
          go_upto_region 32 with fail
          go_cut [264] from 233 to 264 (fun v wx => v = .bool false ∧ wx = w9)
          case first =>
            by_cases hlt : h < N
            · have f1 : (h : Int) < (N : Int) := by omega
              obtain ⟨p1, p2⟩ := HF2.out hlt
              have p1' : ¬ dmp < D0.dlo := by omega
              have p2' : ¬ D0.dhi < dmp := by omega
              have hend : Hid (Value.bool (decide (own < D0.tlo) || decide (D0.thi < own)) = Value.bool false) := Lib.hid (by rw [decide_eq_false (show ¬ own < D0.tlo by omega), decide_eq_false (show ¬ D0.thi < own by omega)]; rfl)
              clear hlt
              go_wp2_with (fail)
              go_meet
              case rel => exact ⟨hend.out, rfl⟩
            · have f1 : ¬ (h : Int) < (N : Int) := by omega
              have hend : Hid (Value.bool (decide (own < D0.tlo) || decide (D0.thi < own)) = Value.bool false) := Lib.hid (by rw [decide_eq_false (show ¬ own < D0.tlo by omega), decide_eq_false (show ¬ D0.thi < own by omega)]; rfl)
              clear hlt
              go_wp2_with (fail)
              go_meet
              case rel => exact ⟨hend.out, rfl⟩
          case rest =>
          obtain ⟨rfl, hwc⟩ := hcut
          replace hwc := hwc.symm
          subst hwc
          clear q27c q27f o1 o2
          obtain ⟨up, hup⟩ : ∃ up : Bool, up = (decide (0 < X.rounded.length) && (intD X.rounded (h % X.rounded.length) % 2 == 1)) := ⟨_, rfl⟩
          have HUP := Lib.hid hup
          clear hup
          go_upto_region 34 with fail
          go_cut [29] from 265 to 281 (fun v wx => v = .bool up ∧ Ext2 w9 wx)
          case first =>
            have x5 := Ext2.blk HE9.out X55.out
            by_cases hro : X.rounded.length = 0
            · have b9 : ¬ (0 : Int) < (X.rounded.length : Int) := by omega
              have b9' : decide ((0 : Int) < (X.rounded.length : Int)) = false := decide_eq_false b9
              have b7' : decide (0 < X.rounded.length) = false := decide_eq_false (by omega)
              have b7 : ¬ 0 < X.rounded.length := by omega
              have hup : Hid (Value.bool false = Value.bool up) := Lib.hid (by rw [HUP.out, hro]; rfl)
              have q5c := cell_blk x5
              have q5f := frz_blk x5
              clear x5 hro
              refine region_ev [] [0, 1, 2, 3, 4, 5, 6, 7, 8, 9, 10, 11, 12, 13, 14, 15, 16, 17] [] [] (by kernel_rfl) (by kernel_rfl) (by intro c a d v w h; cases d <;> exact h) ?_
              simp only [picks, List.drop_succ_cons, List.drop_zero]
              repeat (refine wpQ0_step (fun K hK => ?_); go_simp; (refine hK _ ?_; clear hK K))
              refine wpQ0_nil ?_
              repeat ((with_reducible refine wpQ2_step (fun K hK => ?_)); go_simp; first | ((with_reducible refine hK _ ?_); clear hK K) | (apply Exists.intro; refine ⟨fun x => ?_, hK _ ?_⟩; (fail); clear hK K) | (refine ite_undef (fun h => (by have h_ : (none : Option Bool) = some _ := h; cases h_)) ?_; (with_reducible refine hK _ ?_); clear hK K))
              (with_reducible refine wpQ2_nil ?_)
              refine Events.none_ fun w10 hg10 => ?_
              simp only [picks, List.drop_succ_cons, List.drop_zero]
              go_wp2_with (fail)
              go_meet
              case rel => exact ⟨hup.out, hg10⟩
            · have hm : h % X.rounded.length < X.rounded.length := Nat.mod_lt _ (by omega)
              have HQO := (HX.out.o.below (ext_trans HE5.out HE9.out))
              obtain ⟨ob, ooff, hoa, c0⟩ := HQO.1.cell (h % X.rounded.length) 0 hm (by omega)
              have hol := HQO.1.le; have hom := HQO.1.max
              have hv := u8_in (HQO.2 (h % X.rounded.length) hm)
              obtain ⟨kk, hkk⟩ : ∃ k, k = h % X.rounded.length := ⟨_, rfl⟩
              rw [← hkk] at c0 hv hm
              replace c0 : w9.cell? ⟨ob, ooff + kk, none⟩ = some (.int .u8 (intD X.rounded kk)) := by
                have e : ooff + kk * 1 + 0 = ooff + kk := by omega
                rw [e] at c0; exact c0
              obtain ⟨V, hV⟩ : ∃ V, V = intD X.rounded kk := ⟨_, rfl⟩
              rw [← hV] at c0 hv
              have b9 : (0 : Int) < (X.rounded.length : Int) := by omega
              have b9' : decide ((0 : Int) < (X.rounded.length : Int)) = true := decide_eq_true b9
              have b7' : decide (0 < X.rounded.length) = true := decide_eq_true (by omega)
              have b7 : 0 < X.rounded.length := by omega
              have b8 : ((X.rounded.length : Int) == 0) = false := beq_eq_false_iff_ne.2 (by omega)
              have hz' : ¬ X.rounded = [] := fun h => hro (by rw [h]; rfl)
              have hz2 : ¬ X.rounded.length = 0 := hro
              have hrem : (h : Int).tmod (X.rounded.length : Int) = (kk : Int) := by
                rw [Int.tmod_eq_emod_of_nonneg (by omega), hkk, Int.natCast_emod]
              have wk : IntKind.i64.wrap (kk : Int) = (kk : Int) := IntWalk.i64_in _ (by omega)
              obtain ⟨r2, hr2⟩ : ∃ r, r = V % 2 := ⟨_, rfl⟩
              have hrem2 : V.tmod 2 = r2 := by rw [Int.tmod_eq_emod_of_nonneg hv.1, hr2]
              have hr2b : 0 ≤ r2 ∧ r2 ≤ 1 := by omega
              have wr2 : IntKind.u8.wrap r2 = r2 := by
                rcases (by omega : r2 = 0 ∨ r2 = 1) with h | h <;> rw [h] <;> decide
              have f0 : (0 : Int) ≤ (kk : Int) := by omega
              have f1 : (kk : Int) < (X.rounded.length : Int) := by omega
              have f0' : decide ((0 : Int) ≤ (kk : Int)) = true := decide_eq_true f0
              have f1' : decide ((kk : Int) < (X.rounded.length : Int)) = true := decide_eq_true f1
              have hup : Hid (Value.bool (r2 == 1) = Value.bool up) := Lib.hid (by rw [HUP.out, decide_eq_true (show 0 < X.rounded.length by omega), Bool.true_and, ← hkk, ← hV, ← hr2])
              rw [hoa] at x5
              have q5c := cell_blk x5
              have q5f := frz_blk x5
              clear x5 hkk hV hr2 hm HQO hoa hr2b
              refine region_ev [] [0, 1, 2, 3, 4, 5, 6, 7, 8, 9, 10, 11, 12, 13, 14, 15, 16, 17] [] [] (by kernel_rfl) (by kernel_rfl) (by intro c a d v w h; cases d <;> exact h) ?_
              simp only [picks, List.drop_succ_cons, List.drop_zero]
              repeat (refine wpQ0_step (fun K hK => ?_); go_simp; (refine hK _ ?_; clear hK K))
              refine wpQ0_nil ?_
              repeat ((with_reducible refine wpQ2_step (fun K hK => ?_)); go_simp; first | ((with_reducible refine hK _ ?_); clear hK K) | (apply Exists.intro; refine ⟨fun x => ?_, hK _ ?_⟩; (fail); clear hK K) | (refine ite_undef (fun h => (by have h_ : (none : Option Bool) = some _ := h; cases h_)) ?_; (with_reducible refine hK _ ?_); clear hK K))
              (with_reducible refine wpQ2_nil ?_)
              refine Events.none_ fun w10 hg10 => ?_
              simp only [picks, List.drop_succ_cons, List.drop_zero]
              go_wp2_with (fail)
              go_meet
              case rel => exact ⟨hup.out, hg10⟩
          case rest =>
          obtain ⟨rfl, hE10⟩ := hcut
          obtain ⟨w10, rfl⟩ : ∃ x, x = wc := ⟨_, rfl⟩
          have HE10 := Lib.hid (ext_trans HE9.out hE10); have HX10 := Lib.hid (ext_trans HX9.out hE10)
          have hrc := HRN.out w10 HE10.out q0 hq0l
          have m1 := hrc.c1; have m2 := hrc.c2
          rw [← HRR2.out] at m1 m2
          have x3 := Ext2.blk HE10.out X35.out; have x5 := Ext2.blk HE10.out X55.out
          have HPA3 : Hid (∀ W, Ext2 w10 W → Calls Tryd.prog 8 #[.agg #[.int .i64 R.tlo, .int .i64 R.thi], .slice q.t.a X.temps.length q.t.cap, .int .i64 (h : Int)] W fun e w' => e = .returned (.int .i64 air) ∧ Below W.heap.size W w') := Lib.hid fun W hW => HPA2.out W (ext_trans HX10.out hW)
          have HRA3 : Hid (∀ W, Ext2 w10 W → Calls Tryd.prog 8 #[.agg #[.int .i64 S.rlo, .int .i64 S.rhi], .slice q.r.a X.rates.length q.r.cap, .int .i64 (h : Int)] W fun e w' => e = .returned (.int .i64 rate) ∧ Below W.heap.size W w') := Lib.hid fun W hW => HRA2.out W (ext_trans HX10.out hW)
          obtain ⟨own2, hown2⟩ : ∃ o, o = towardV own air rate up := ⟨_, rfl⟩
          have hTL := HTL.out up
          rw [← hown2] at hTL
          have HTL2 := Lib.hid hTL
          have HO2 := Lib.hid (HTW.out up)
          rw [← hown2] at HO2
          have w3' : IntKind.i64.wrap ((h : Int) + 1) = (h : Int) + 1 := IntWalk.i64_in _ (by omega)
          clear hE10 hrc hTL hown2
          have q3c := cell_blk x3
          have q3f := frz_blk x3
          have q5c := cell_blk x5
          have q5f := frz_blk x5
          clear x3 x5
          go_upto_region 35 with fail
          refine region_ev [] [0, 1, 2, 3, 4, 5, 6, 7, 8, 9, 10, 11, 12, 13, 14, 15, 16, 17, 18, 19] [] [] (by kernel_rfl) (by kernel_rfl) (by intro c a d v w h; cases d <;> exact h) ?_
          simp only [picks, List.drop_succ_cons, List.drop_zero]
          repeat (refine wpQ0_step (fun K hK => ?_); go_simp; (refine hK _ ?_; clear hK K))
          refine wpQ0_nil ?_
          repeat ((with_reducible refine wpQ2_step (fun K hK => ?_)); go_simp; first | ((with_reducible refine hK _ ?_); clear hK K) | (apply Exists.intro; refine ⟨fun x => ?_, hK _ ?_⟩; (first | (with_reducible exact HPA3.out x.1 x.2) | (with_reducible exact HRA3.out x.1 x.2) | (with_reducible exact HTL2.out x.1)); clear hK K))
          refine wpQ2_nil ?_
          refine Events.none_ fun w11 hg11 => ?_
          simp only [picks, List.drop_succ_cons, List.drop_zero]
          have HE11 := Lib.hid (ext_trans HE10.out hg11)
          clear hg11 m1 m2 q3c q3f q5c q5f
          go_wp2_with (fail)
          go_roundw
          case rel => exact ⟨h + 1, k2, own2, (q0 : Int), by go_num, rfl, rfl, rfl, by omega, HT4.out, HO2.out, HE11.out⟩
          case measure => simp [intOf]; omega
    · have f1 : ¬ (h : Int) ≤ (N : Int) := by omega
      clear hhN hO
      go_wp2_with (fail)
      refine (HAW.out _ (ext_trans HE5.out HE.out)).mono ?_
      rintro e w12 ⟨rfl, hb12⟩
      go_wp2_with (fail)
      go_ret
      exact ⟨rfl, ext_trans (ext_trans HE5.out HE.out) hb12⟩
end Go.Proofs.YtfpaihjcbpaneaaDoor
