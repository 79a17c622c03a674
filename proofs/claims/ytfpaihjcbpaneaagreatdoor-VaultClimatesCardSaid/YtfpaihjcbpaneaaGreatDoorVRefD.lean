/-
  ref.Climates.
-/
import Derived.Test.YtfpaihjcbpaneaaGreatDoorVRefZ
namespace Go.Proofs.YtfpaihjcbpaneaaGreatDoor
open Go.RowKit D
set_option linter.unusedVariables false
set_option linter.unusedSimpArgs false
attribute [local go_sem high] run_minI run_maxI
attribute [local go_sem] upon2 cls_cell cls_frozen forall_const exists_eq_left'
attribute [local go_sem] FirstUpon
theorem dyC_day {S : Site} {M : List Mv} {c d i j : Nat} (hi : i < d + 1) (hj : j < 4) {D0 : Day} (h : D0 = dayJ S M c d 24) : upd (dyC (climV S M c d)) d [.int .i64 D0.tlo, .int .i64 D0.thi, .int .i64 D0.dlo, .int .i64 D0.dhi] i j = dyC (climV S M c (d + 1)) i j := by
  have hlen : (climV S M c d).length = d := by simp [climV]
  have hsn : climV S M c (d + 1) = climV S M c d ++ [dayJ S M c d 24] := by unfold climV; rw [List.range_succ, List.map_append]; rfl
  rw [hsn]
  rcases Nat.lt_or_ge i d with h1 | h1
  · rw [upd_lt h1]
    have e : dyD (climV S M c d ++ [dayJ S M c d 24]) i = dyD (climV S M c d) i := by
      unfold dyD; rw [List.getD_eq_getElem?_getD, List.getD_eq_getElem?_getD, List.getElem?_append_left (by omega)]
    unfold dyC; rw [e]
  · obtain rfl : i = d := by omega
    have e : dyD (climV S M c i ++ [dayJ S M c i 24]) i = D0 := by
      unfold dyD; rw [List.getD_eq_getElem?_getD, List.getElem?_append_right (by omega), hlen]; simp [h]
    rw [upd_at]
    rcases (by omega : j = 0 ∨ j = 1 ∨ j = 2 ∨ j = 3) with rfl | rfl | rfl | rfl <;> simp [dyC, e]
theorem turn_four {b : Nat} {W : World} {x0 x1 x2 x3 : Value} {t : TypeId} (hb : W.heap[b]? = some (.cells #[x0, x1, x2, x3] t (0, 0))) (u0 u1 u2 u3 : Value) : Turn b (.cells #[u0, u1, u2, u3] t (0, 0)) W ((((W.setCell ⟨b, 0, none⟩ u0).setCell ⟨b, 1, none⟩ u1).setCell ⟨b, 2, none⟩ u2).setCell ⟨b, 3, none⟩ u3) := by
  have h := (((turn_set (o := 0) hb u0).set (o := 1) u1).set (o := 2) u2).set (o := 3) u3
  simpa using h
set_option maxRecDepth 100000 in
set_option maxHeartbeats 8000000 in
theorem climR_any {S : Site} {s : SSl} {L : List Mv} {sl : Sl} {c d : Int} {w : World} (hS : SiteAt w S s) (hL : MovesS w sl L) :
    Calls Tryz.prog 8 #[.agg #[.slice s.r.a S.rooms.length s.r.cap, .slice s.c.a S.cans.length s.c.cap, .int .i64 S.rlo, .int .i64 S.rhi, .slice s.p.a S.steps.length s.p.cap], .slice sl.a L.length sl.cap, .int .i64 c, .int .i64 d] w (ClimOut w S L c d) := by
  have HS := Lib.hid hS; have HL := Lib.hid hL
  have hcl := hS.cn.le; have hcm := hS.cn.max; have hrl := hS.rm.le; have hrm := hS.rm.max
  have w5' : IntKind.i64.wrap ((S.cans.length : Int) - 1) = (S.cans.length : Int) - 1 := IntWalk.i64_in _ (by omega)
  clear hS hL
  go_enter Tryz.func8, Tryz.ntmps8
  go_wp2_with (fail)
  refine calls_name ?_
  intro w1 hw1
  obtain ⟨n4, hn4⟩ : ∃ n, n = w.heap.size := ⟨_, rfl⟩
  have hE1 : Ext2 w w1 := by rw [hw1]; exact below_alloc' _ _
  have X4 : Hid (w1.heap[n4]? = some (Obj.cells #[.slice s.r.a S.rooms.length s.r.cap, .slice s.c.a S.cans.length s.c.cap, .int .i64 S.rlo, .int .i64 S.rhi, .slice s.p.a S.steps.length s.p.cap] 28)) := Lib.hid (by rw [hw1, hn4]; exact blk_new _ _)
  rw [← hn4]
  have l4 : w.heap.size ≤ n4 := by omega
  refine (movedR_any (HS.out.below hE1) (HL.out.below hE1)).mono ?_
  rintro e w2 ⟨rfl, hb2⟩
  have HE2 := Lib.hid (ext_trans hE1 hb2)
  have x4 := Ext2.blk hb2 X4.out
  have X42 := Lib.hid x4
  obtain ⟨x, hx⟩ : ∃ x, x = movedE S L := ⟨_, rfl⟩
  rw [← hx]
  have HX := Lib.hid hx
  have q4c := cell_blk x4
  have q4f := frz_blk x4
  clear hw1 hn4 hE1 hb2 hx x4
  have hNO : ∀ e : Int, climE S L c d = e → e ≠ 0 → ClimOut w S L c d (.returned (.tuple #[.slice none 0 0, .int .i64 e])) w2 := fun e he h0 => by
    have e1 : climA S L c d = [] := if_neg (by rw [he]; exact h0)
    exact ⟨⟨none, 0⟩, by rw [e1, he]; rfl, by rw [e1]; exact rowS_nil _ _ _, HE2.out⟩
  have HNO := Lib.hid hNO
  clear hNO
  by_cases hx0 : x = 0
  case neg =>
    have hd : (x != 0) = true := by simp [hx0]
    have hd2 : (x == 0) = false := by simp [hx0]
    have HNE := Lib.hid hx0
    clear hx0
    go_wp2_with (fail)
    refine bodyPost_ret (v := .tuple #[.slice none 0 0, .int .i64 x]) ?_ rfl ?_
    · simp [results, Tryz.results8, go_sem]
    exact HNO.out x (by unfold climE playE; rw [if_pos (by rw [if_pos (by rw [← HX.out]; exact HNE.out)]; rw [← HX.out]; exact HNE.out), if_pos (by rw [← HX.out]; exact HNE.out), HX.out]) HNE.out
  subst hx0
  have hd : ((0 : Int) != 0) = false := rfl
  have hd2 : ((0 : Int) == 0) = true := rfl
  obtain ⟨v, hv⟩ : ∃ v, v = inB c 0 ((S.cans.length : Int) - 1) := ⟨_, rfl⟩
  have H3 : Hid (∀ W, Calls Tryz.prog 37 #[.int .i64 c, .int .i64 0, .int .i64 ((S.cans.length : Int) - 1)] W fun e w' => e = .returned (.bool v) ∧ W = w') := Lib.hid fun W => by rw [hv]; exact in_any _ _ _ W
  obtain ⟨u, hu⟩ : ∃ v, v = inB d 0 100 := ⟨_, rfl⟩
  have H4 : Hid (∀ W, Calls Tryz.prog 37 #[.int .i64 d, .int .i64 0, .int .i64 100] W fun e w' => e = .returned (.bool u) ∧ W = w') := Lib.hid fun W => by rw [hu]; exact in_any _ _ _ W
  have HV := Lib.hid hv; have HU := Lib.hid hu
  clear hv hu
  go_wp2_with (fail)
  (with_reducible refine (H3.out _).mono ?_)
  rintro e w' ⟨rfl, rfl⟩
  cases v
  case false =>
    go_wp2_with (fail)
    refine bodyPost_ret (v := .tuple #[.slice none 0 0, .int .i64 4]) ?_ rfl ?_
    · simp [results, Tryz.results8, go_sem]
    exact HNO.out 4 (by unfold climE playE; rw [← HX.out, ← HV.out]; rfl) (by decide)
  go_wp2_with (fail)
  (with_reducible refine (H4.out _).mono ?_)
  rintro e w' ⟨rfl, rfl⟩
  cases u
  case false =>
    go_wp2_with (fail)
    refine bodyPost_ret (v := .tuple #[.slice none 0 0, .int .i64 7]) ?_ rfl ?_
    · simp [results, Tryz.results8, go_sem]
    exact HNO.out 7 (by unfold climE playE; rw [← HX.out, ← HV.out, ← HU.out]; rfl) (by decide)
  have HTE : Hid (climE S L c d = 0) := Lib.hid (by unfold climE playE; rw [← HX.out, ← HV.out, ← HU.out]; rfl)
  obtain ⟨hck, h60, hval⟩ := movedE_ok HX.out.symm
  have g1 := inB_iff.1 HV.out.symm
  have g2 := inB_iff.1 HU.out.symm
  obtain ⟨cn, hcn⟩ : ∃ n : Nat, c = (n : Int) := ⟨c.toNat, by omega⟩
  obtain ⟨dn, hdn⟩ : ∃ n : Nat, d = (n : Int) := ⟨d.toNat, by omega⟩
  subst hcn
  subst hdn
  have hcnl : cn < S.cans.length := by omega
  have hn24 : dn ≤ 100 := by omega
  have HCL := Lib.hid (playR_any (w := w2) (HS.out.below HE2.out) (HL.out.below HE2.out) hck hval h60)
  have HCK := Lib.hid hck; have HPL := Lib.hid (played hval (Nat.le_refl L.length))
  obtain ⟨⟨ra, rc⟩, cs, ps⟩ := s
  dsimp only at hrl hrm hcl hcm
  obtain ⟨rb, roff, hra, -⟩ := rm_cells (HS.out.below HE2.out).rm (show 0 < S.rooms.length from hck.len.1.1)
  dsimp only at hra
  subst hra
  clear hck h60 hval g1 g2 HNO
  go_wp2_with (fail)
  refine HCL.out.mono ?_
  rintro e w3 ⟨⟨v, u, rfl, hO, hU⟩, hb3⟩
  obtain ⟨⟨a1, a2⟩, rfl, hr1⟩ := hO.sl
  obtain ⟨⟨b1, b2⟩, rfl, hr2⟩ := hU.sl
  dsimp only
  have hkv : ∀ m ∈ (playV S L).1, mvE S m = 0 := HPL.out.kept.valid
  have e1 : climA S L (cn : Int) (dn : Int) = climV S (playV S L).1 cn dn := by unfold climA; rw [if_pos HTE.out]; simp only [Int.toNat_natCast]
  obtain ⟨M, hM⟩ : ∃ M, M = (playV S L).1 := ⟨_, rfl⟩
  rw [← hM] at hr1 hkv e1 ⊢
  have HE3 := Lib.hid (ext_trans HE2.out hb3)
  have x4 := Ext2.blk hb3 X42.out
  have X43 := Lib.hid x4
  have HCLM := Lib.hid e1; have HKV := Lib.hid hkv; have HR1 := Lib.hid hr1
  have HOW := Lib.hid (ownR_any (s := (SSl.mk ⟨some ⟨rb, roff, none⟩, rc⟩ cs ps)) (sl := ⟨a1, a2⟩) (n := 0) (w := w3) (HS.out.below HE3.out) hr1 HCK.out hkv hcnl (by omega))
  have HAT : Hid (∀ W, Ext2 w3 W → ∀ i : Nat, Calls Tryz.prog 40 #[.agg #[.slice (SSl.mk ⟨some ⟨rb, roff, none⟩, rc⟩ cs ps).r.a S.rooms.length (SSl.mk ⟨some ⟨rb, roff, none⟩, rc⟩ cs ps).r.cap, .slice (SSl.mk ⟨some ⟨rb, roff, none⟩, rc⟩ cs ps).c.a S.cans.length (SSl.mk ⟨some ⟨rb, roff, none⟩, rc⟩ cs ps).c.cap, .int .i64 S.rlo, .int .i64 S.rhi, .slice (SSl.mk ⟨some ⟨rb, roff, none⟩, rc⟩ cs ps).p.a S.steps.length (SSl.mk ⟨some ⟨rb, roff, none⟩, rc⟩ cs ps).p.cap], .slice a1 M.length a2, .int .i64 (cn : Int), .int .i64 (i : Int)] W fun e w' => e = .returned (.int .i64 (atV S M cn (i : Int))) ∧ Below W.heap.size W w') := Lib.hid fun W hW i => atR_any (s := (SSl.mk ⟨some ⟨rb, roff, none⟩, rc⟩ cs ps)) (sl := ⟨a1, a2⟩) (HS.out.below (ext_trans HE3.out hW)).cn (HR1.out.below hW) hcnl
  have HRM : Hid (∀ W, Ext2 w3 W → ∀ r, r < S.rooms.length → RmCells W S.rooms rb roff r) := Lib.hid fun W hW r hr => by
    obtain ⟨b', o', h1, h2⟩ := rm_cells (HS.out.below (ext_trans HE3.out hW)).rm hr
    cases h1; exact h2
  have HHR : Hid (∀ W, Ext2 w3 W → ∀ r : Nat, r < S.rooms.length → ∀ u, TIn u → Calls Tryz.prog 41 #[.agg #[.slice (SSl.mk ⟨some ⟨rb, roff, none⟩, rc⟩ cs ps).r.a S.rooms.length (SSl.mk ⟨some ⟨rb, roff, none⟩, rc⟩ cs ps).r.cap, .slice (SSl.mk ⟨some ⟨rb, roff, none⟩, rc⟩ cs ps).c.a S.cans.length (SSl.mk ⟨some ⟨rb, roff, none⟩, rc⟩ cs ps).c.cap, .int .i64 S.rlo, .int .i64 S.rhi, .slice (SSl.mk ⟨some ⟨rb, roff, none⟩, rc⟩ cs ps).p.a S.steps.length (SSl.mk ⟨some ⟨rb, roff, none⟩, rc⟩ cs ps).p.cap], .agg #[.int .i64 u.lo, .int .i64 u.hi], .int .i64 (r : Int)] W fun e w' => e = .returned (.agg #[.int .i64 (warmV S (rmD S.rooms r) u).lo, .int .i64 (warmV S (rmD S.rooms r) u).hi]) ∧ Below W.heap.size W w') := Lib.hid fun W hW r hr u hu => hourR_any (s := (SSl.mk ⟨some ⟨rb, roff, none⟩, rc⟩ cs ps)) (HS.out.below (ext_trans HE3.out hW)) hr HCK.out.rates (HCK.out.room hr).1 hu
  clear q4c q4f hb3 hr1 hr2 hO hU hM hkv e1
  have q4c := cell_blk x4
  have q4f := frz_blk x4
  clear x4
  go_wp2_with (fail)
  refine HOW.out.mono ?_
  rintro e w4 ⟨rfl, hb4⟩
  have X44 := Lib.hid (Ext2.blk hb4 X43.out)
  obtain ⟨T0, hT0⟩ : ∃ T, T = ownT S M cn 0 := ⟨_, rfl⟩
  rw [← hT0]
  have HT0 := Lib.hid hT0
  clear q4c q4f hT0
  go_upto_region 11 with (fail)
  refine wp_name ?_
  intro w5 hw5
  obtain ⟨n14, hn14⟩ : ∃ b, b = w4.heap.size := ⟨_, rfl⟩
  have hE5 : Ext2 w4 w5 := by rw [hw5]; exact below_alloc' _ _
  have X14 : Hid (w5.heap[n14]? = some (Obj.cells #[.int .i64 T0.lo, .int .i64 T0.hi] 25)) := Lib.hid (by rw [hw5, hn14]; exact blk_new _ _)
  rw [← hn14]
  have HX5 := Lib.hid (ext_trans hb4 hE5)
  have X45 := Lib.hid (Ext2.blk hE5 X44.out)
  have l14 : w3.heap.size ≤ n14 := by rw [hn14]; exact hb4.size
  have l414 : n4 < n14 := by have := blk_lt X43.out; omega
  have l43 : n4 < w3.heap.size := blk_lt X43.out
  obtain ⟨B0, hB0⟩ : ∃ b, b = w5.heap.size := ⟨_, rfl⟩
  have l15 : n14 < B0 := by rw [hB0]; exact blk_lt X14.out
  have HB0 := Lib.hid hB0
  clear hw5 hn14 hE5 hb4 hB0
  go_wp2_with (fail)
  go_loopw [13, 15] (fun v z wr => ∃ k : Nat, z = .int .i64 (k : Int) ∧ k ≤ dn ∧ Below w3.heap.size w3 wr ∧ B0 ≤ wr.heap.size ∧ wr.heap[n4]? = some (Obj.cells #[.slice (SSl.mk ⟨some ⟨rb, roff, none⟩, rc⟩ cs ps).r.a S.rooms.length (SSl.mk ⟨some ⟨rb, roff, none⟩, rc⟩ cs ps).r.cap, .slice (SSl.mk ⟨some ⟨rb, roff, none⟩, rc⟩ cs ps).c.a S.cans.length (SSl.mk ⟨some ⟨rb, roff, none⟩, rc⟩ cs ps).c.cap, .int .i64 S.rlo, .int .i64 S.rhi, .slice (SSl.mk ⟨some ⟨rb, roff, none⟩, rc⟩ cs ps).p.a S.steps.length (SSl.mk ⟨some ⟨rb, roff, none⟩, rc⟩ cs ps).p.cap] 28) ∧ wr.heap[n14]? = some (Obj.cells #[.int .i64 (ownT S M cn (k * 24)).lo, .int .i64 (ownT S M cn (k * 24)).hi] 25) ∧ OwnR wr B0 79 4 v k (dyC (climV S M cn k))) (fun _ z _ => dn - (intOf z).toNat)
  case atStart => exact ⟨0, rfl, by omega, HX5.out, by rw [HB0.out]; exact Nat.le_refl _, X45.out, by rw [Nat.zero_mul, ← HT0.out]; exact X14.out, own_nil _ _ _ _ _⟩
  case round =>
    obtain ⟨wo, rfl⟩ : ∃ x, x = wr := ⟨_, rfl⟩
    obtain ⟨k, rfl, hk, hB, hsz, x4, x14, hO⟩ := hrel
    have HO := Lib.hid hO; have HB := Lib.hid hB; have X4' := Lib.hid x4
    clear hO
    by_cases hlt : k < dn
    · obtain ⟨D, hD⟩ : ∃ D, D = k * 24 := ⟨_, rfl⟩
      obtain ⟨E, hE⟩ : ∃ E, E = D + 24 := ⟨_, rfl⟩
      rw [← hD] at x14
      obtain ⟨T, hT⟩ : ∃ T, T = ownT S M cn D := ⟨_, rfl⟩
      rw [← hT] at x14
      have X14' := Lib.hid x14
      obtain ⟨g3, g4⟩ := HCK.out.atIn HKV.out hcnl (D : Int)
      obtain ⟨q, hq⟩ : ∃ q : Nat, atV S M cn (D : Int) = (q : Int) := ⟨(atV S M cn (D : Int)).toNat, by omega⟩
      have hql : q < S.rooms.length := by omega
      have hrc := HRM.out wo hB q hql
      have m3 := hrc.c3; have m4 := hrc.c4
      obtain ⟨R, hR⟩ : ∃ R, R = rmD S.rooms q := ⟨_, rfl⟩
      rw [← hR] at m3 m4
      have HATk : Hid (∀ W, Ext2 wo W → Calls Tryz.prog 40 #[.agg #[.slice (SSl.mk ⟨some ⟨rb, roff, none⟩, rc⟩ cs ps).r.a S.rooms.length (SSl.mk ⟨some ⟨rb, roff, none⟩, rc⟩ cs ps).r.cap, .slice (SSl.mk ⟨some ⟨rb, roff, none⟩, rc⟩ cs ps).c.a S.cans.length (SSl.mk ⟨some ⟨rb, roff, none⟩, rc⟩ cs ps).c.cap, .int .i64 S.rlo, .int .i64 S.rhi, .slice (SSl.mk ⟨some ⟨rb, roff, none⟩, rc⟩ cs ps).p.a S.steps.length (SSl.mk ⟨some ⟨rb, roff, none⟩, rc⟩ cs ps).p.cap], .slice a1 M.length a2, .int .i64 (cn : Int), .int .i64 (D : Int)] W fun e w' => e = .returned (.int .i64 (q : Int)) ∧ Below W.heap.size W w') := Lib.hid fun W hW => by rw [← hq]; exact HAT.out W (ext_trans HB.out hW) D
      have hDay0 : Hid ((⟨T.lo, T.hi, R.dlo, R.dhi⟩ : Day) = dayJ S M cn k 0) := Lib.hid (by
        rw [dayJ, ← hD, ← hT]; unfold rmAt; rw [hq, Int.toNat_natCast, hR])
      have wD : IntKind.i64.wrap ((k : Int) * 24) = (D : Int) := by rw [show (k : Int) * 24 = (D : Int) by omega]; exact IntWalk.i64_in _ (by omega)
      have wk1 : IntKind.i64.wrap ((k : Int) + 1) = (k : Int) + 1 := IntWalk.i64_in _ (by omega)
      have wE : IntKind.i64.wrap (((k : Int) + 1) * 24) = (E : Int) := by rw [show ((k : Int) + 1) * 24 = (E : Int) by omega]; exact IntWalk.i64_in _ (by omega)
      have hE24 : E ≤ 3000 := by omega
      have i2 : (k : Int) < (dn : Int) := by omega
      have i0 : (0 : Int) ≤ (q : Int) := by omega
      have i1 : (q : Int) < (S.rooms.length : Int) := by omega
      have i0' : decide ((0 : Int) ≤ (q : Int)) = true := decide_eq_true i0
      have i1' : decide ((q : Int) < (S.rooms.length : Int)) = true := decide_eq_true i1
      have HD := Lib.hid hD; have HEE := Lib.hid hE; have HTT := Lib.hid hT
      have q4c := cell_blk x4
      have q4f := frz_blk x4
      have q14c := cell_blk x14
      have q14f := frz_blk x14
      clear hD hE hT hq hR hrc g3 g4 x4 x14 hB
      go_wp2_with (fail)
      refine region_ev [] [0, 1, 2, 3, 4, 5, 6, 7, 8, 9, 10, 11, 12] [(13, 16, some 14)] [] (by kernel_rfl) (by kernel_rfl) (by intro c a d v w h; cases d <;> exact h) ?_
      simp only [picks, List.drop_succ_cons, List.drop_zero]
      repeat (refine wpQ0_step (fun K hK => ?_); go_simp; (refine hK _ ?_; clear hK K))
      refine wpQ0_nil ?_
      repeat ((with_reducible refine wpQ2_step (fun K hK => ?_)); go_simp; first | ((with_reducible refine hK _ ?_); clear hK K) | (apply Exists.intro; refine ⟨fun x => ?_, hK _ ?_⟩; ((with_reducible exact HATk.out x.1 x.2)); clear hK K))
      refine wpQ2_nil ?_
      refine Events.fill1 (fun b => .pointer (some ⟨b, 0, none⟩)) (Obj.cells #[.int .i64 0, .int .i64 0, .int .i64 0, .int .i64 0] 79) (Obj.cells #[.int .i64 T.lo, .int .i64 T.hi, .int .i64 R.dlo, .int .i64 R.dhi] 79) ⟨_, rfl, rfl, rfl, fun W => by kernel_rfl⟩ ⟨_, rfl, rfl, rfl, fun b W hb => ?_⟩ fun n16 w6 hn16 hg6 nn16 => ?_
      · have hbc := cell_blk hb; have hbf := frz_blk hb; go_simp; exact turn_four hb _ _ _ _
      simp only [picks, List.drop_succ_cons, List.drop_zero]
      have HB6 := Lib.hid (ext_trans HB.out hg6)
      have X46 := Lib.hid (Ext2.blk hg6 X4'.out); have X146 := Lib.hid (Ext2.blk hg6 X14'.out); have X16 := Lib.hid nn16
      have HAB := Lib.hid (Above.ext (Above.refl B0 wo) hg6)
      have l16 : wo.heap.size ≤ n16 := hn16
      clear hg6 q4c q4f q14c q14f m3 m4 nn16 hn16 i0 i1 i0' i1'
      go_wp2_with (fail)
      go_loopw [17] (fun z wi => ∃ j H : Nat, z = .int .i64 (H : Int) ∧ H = D + j ∧ j ≤ 24 ∧ Below w3.heap.size w3 wi ∧ Above B0 wo wi ∧ wi.heap[n4]? = some (Obj.cells #[.slice (SSl.mk ⟨some ⟨rb, roff, none⟩, rc⟩ cs ps).r.a S.rooms.length (SSl.mk ⟨some ⟨rb, roff, none⟩, rc⟩ cs ps).r.cap, .slice (SSl.mk ⟨some ⟨rb, roff, none⟩, rc⟩ cs ps).c.a S.cans.length (SSl.mk ⟨some ⟨rb, roff, none⟩, rc⟩ cs ps).c.cap, .int .i64 S.rlo, .int .i64 S.rhi, .slice (SSl.mk ⟨some ⟨rb, roff, none⟩, rc⟩ cs ps).p.a S.steps.length (SSl.mk ⟨some ⟨rb, roff, none⟩, rc⟩ cs ps).p.cap] 28) ∧ wi.heap[n14]? = some (Obj.cells #[.int .i64 (ownT S M cn (D + j)).lo, .int .i64 (ownT S M cn (D + j)).hi] 25) ∧ wi.heap[n16]? = some (Obj.cells #[.int .i64 (dayJ S M cn k j).tlo, .int .i64 (dayJ S M cn k j).thi, .int .i64 (dayJ S M cn k j).dlo, .int .i64 (dayJ S M cn k j).dhi] 79)) (fun z _ => D + 24 - (intOf z).toNat)
      case atStart => exact ⟨0, D, rfl, by omega, by omega, HB6.out, HAB.out, X46.out, by rw [Nat.add_zero, ← HTT.out]; exact X146.out, by rw [← hDay0.out]; exact X16.out⟩
      case round =>
        obtain ⟨j, H, rfl, hH, hj, hB, hA, x4, x14, x16⟩ := hrel
        have HBi := Lib.hid hB; have HAi := Lib.hid hA; have X4i := Lib.hid x4; have X14i := Lib.hid x14; have X16i := Lib.hid x16
        have l4w := blk_lt x4; have l16w := blk_lt x16
        by_cases hjl : j < 24
        · obtain ⟨T2, hT2⟩ : ∃ T, T = ownT S M cn (D + j) := ⟨_, rfl⟩
          rw [← hT2] at x14
          have hti := HCK.out.own HKV.out hcnl (D + j)
          rw [← hT2] at hti
          obtain ⟨g3, g4⟩ := HCK.out.atIn HKV.out hcnl (H : Int)
          obtain ⟨p, hp⟩ : ∃ p : Nat, atV S M cn (H : Int) = (p : Int) := ⟨(atV S M cn (H : Int)).toNat, by omega⟩
          have hpl : p < S.rooms.length := by omega
          obtain ⟨U, hU⟩ : ∃ U, U = warmV S (rmD S.rooms p) T2 := ⟨_, rfl⟩
          obtain ⟨R2, hR2⟩ : ∃ R, R = rmD S.rooms p := ⟨_, rfl⟩
          obtain ⟨Dj, hDj⟩ : ∃ x, x = dayJ S M cn k j := ⟨_, rfl⟩
          have hrma : rmAt S M cn (H : Int) = R2 := by unfold rmAt; rw [hp, Int.toNat_natCast, hR2]
          have hU1 : ownT S M cn (D + (j + 1)) = U := by
            rw [show D + (j + 1) = (D + j) + 1 by omega, ownT, ← hH, hrma, hR2, hU, hH, ← hT2]
          have hDn : dayJ S M cn k (j + 1) = ⟨min Dj.tlo U.lo, max Dj.thi U.hi, min Dj.dlo R2.dlo, max Dj.dhi R2.dhi⟩ := by
            rw [dayJ, ← HD.out, ← hDj, show D + j + 1 = D + (j + 1) by omega, hU1, ← hH, hrma]
          rw [← hDj] at x16
          have HU1 := Lib.hid hU1; have HDn := Lib.hid hDn; have HR2 := Lib.hid hR2
          have hAc := HAT.out wr hB H
          rw [hp] at hAc
          have HAc := Lib.hid hAc
          have HHc : Hid (∀ W, Ext2 w3 W → Calls Tryz.prog 41 #[.agg #[.slice (SSl.mk ⟨some ⟨rb, roff, none⟩, rc⟩ cs ps).r.a S.rooms.length (SSl.mk ⟨some ⟨rb, roff, none⟩, rc⟩ cs ps).r.cap, .slice (SSl.mk ⟨some ⟨rb, roff, none⟩, rc⟩ cs ps).c.a S.cans.length (SSl.mk ⟨some ⟨rb, roff, none⟩, rc⟩ cs ps).c.cap, .int .i64 S.rlo, .int .i64 S.rhi, .slice (SSl.mk ⟨some ⟨rb, roff, none⟩, rc⟩ cs ps).p.a S.steps.length (SSl.mk ⟨some ⟨rb, roff, none⟩, rc⟩ cs ps).p.cap], .agg #[.int .i64 T2.lo, .int .i64 T2.hi], .int .i64 (p : Int)] W fun e w' => e = .returned (.agg #[.int .i64 U.lo, .int .i64 U.hi]) ∧ Below W.heap.size W w') := Lib.hid fun W hW => by rw [hU]; exact HHR.out W hW p hpl T2 hti
          have X14j := Lib.hid x14; have X16j := Lib.hid x16
          have i3 : (H : Int) < (E : Int) := by have := HEE.out; omega
          have w3' : IntKind.i64.wrap ((H : Int) + 1) = (H : Int) + 1 := IntWalk.i64_in _ (by omega)
          have p0 : (0 : Int) ≤ (p : Int) := by omega
          have p1 : (p : Int) < (S.rooms.length : Int) := by omega
          have q4c := cell_blk x4
          have q4f := frz_blk x4
          have HH := Lib.hid hH
          clear hT2 hti g3 g4 hp hU hR2 hDj hrma hU1 hDn hAc x4 x14 x16 hB hA hH
          go_wp2_with (fail)
          (with_reducible refine HAc.out.mono ?_)
          rintro e w7 ⟨rfl, hb7⟩
          have HB7 := Lib.hid (ext_trans HBi.out hb7); have HA7 := Lib.hid (Above.ext HAi.out hb7)
          have x4 := Ext2.blk hb7 X4i.out; have x14 := Ext2.blk hb7 X14j.out
          have X47 := Lib.hid x4; have X147 := Lib.hid x14; have X167 := Lib.hid (Ext2.blk hb7 X16j.out)
          clear q4c q4f hb7
          have q4c := cell_blk x4
          have q4f := frz_blk x4
          have q14c := cell_blk x14
          have q14f := frz_blk x14
          clear x4 x14
          go_wp2_with (fail)
          (with_reducible refine (HHc.out w7 HB7.out).mono ?_)
          rintro e w8 ⟨rfl, hb8⟩
          have HB8 := Lib.hid (ext_trans HB7.out hb8); have HA8 := Lib.hid (Above.ext HA7.out hb8)
          have x14 := Ext2.blk hb8 X147.out
          have X48 := Lib.hid (Ext2.blk hb8 X47.out); have X148 := Lib.hid x14; have X168 := Lib.hid (Ext2.blk hb8 X167.out)
          clear q4c q4f q14c q14f hb8
          have q14c := cell_blk x14
          have q14f := frz_blk x14
          clear x14
          go_upto_region 20 with (fail)
          refine wp_name ?_
          intro w9 hw9
          have hB9 : Below w3.heap.size w3 w9 := by rw [hw9]; exact below_set (below_set HB8.out l14) l14
          have hA9 : Above B0 wo w9 := by rw [hw9]; exact Above.set (Above.set HA8.out (.inl l15)) (.inl l15)
          have x4 : w9.heap[n4]? = some (Obj.cells #[.slice (SSl.mk ⟨some ⟨rb, roff, none⟩, rc⟩ cs ps).r.a S.rooms.length (SSl.mk ⟨some ⟨rb, roff, none⟩, rc⟩ cs ps).r.cap, .slice (SSl.mk ⟨some ⟨rb, roff, none⟩, rc⟩ cs ps).c.a S.cans.length (SSl.mk ⟨some ⟨rb, roff, none⟩, rc⟩ cs ps).c.cap, .int .i64 S.rlo, .int .i64 S.rhi, .slice (SSl.mk ⟨some ⟨rb, roff, none⟩, rc⟩ cs ps).p.a S.steps.length (SSl.mk ⟨some ⟨rb, roff, none⟩, rc⟩ cs ps).p.cap] 28) := by rw [hw9]; exact blk_set_ne (blk_set_ne X48.out (by omega)) (by omega)
          have x14 : w9.heap[n14]? = some (Obj.cells #[.int .i64 U.lo, .int .i64 U.hi] 25) := by rw [hw9]; exact Eq.trans (blk_set (blk_set X148.out _ _) _ _) rfl
          have x16 : w9.heap[n16]? = some (Obj.cells #[.int .i64 Dj.tlo, .int .i64 Dj.thi, .int .i64 Dj.dlo, .int .i64 Dj.dhi] 79) := by rw [hw9]; exact blk_set_ne (blk_set_ne X168.out (by omega)) (by omega)
          have hrc := HRM.out w9 hB9 p hpl
          have m3 := hrc.c3; have m4 := hrc.c4
          rw [← HR2.out] at m3 m4
          have k3 := cell_lt m3
          dsimp only at k3
          have HB9 := Lib.hid hB9; have HA9 := Lib.hid hA9; have X49 := Lib.hid x4; have X149 := Lib.hid x14; have X169 := Lib.hid x16
          clear hw9 q14c q14f hB9 hA9 hrc
          have q4c := cell_blk x4
          have q4f := frz_blk x4
          clear x4 x14 x16
          go_upto_region 21 with (fail)
          refine wp_name ?_
          intro w10 hw10
          obtain ⟨n19, hn19⟩ : ∃ b, b = w9.heap.size := ⟨_, rfl⟩
          have hE10 : Ext2 w9 w10 := by rw [hw10]; exact below_alloc' _ _
          have x19 : w10.heap[n19]? = some (Obj.cells #[.int .i64 R2.dlo, .int .i64 R2.dhi] 25) := by rw [hw10, hn19]; exact blk_new _ _
          rw [← hn19]
          have HB10 := Lib.hid (ext_trans HB9.out hE10); have HA10 := Lib.hid (Above.ext HA9.out hE10)
          have x14 := Ext2.blk hE10 X149.out; have x16 := Ext2.blk hE10 X169.out
          have X410 := Lib.hid (Ext2.blk hE10 X49.out); have X1410 := Lib.hid x14; have X1610 := Lib.hid x16; have X1910 := Lib.hid x19
          have l19 : n16 < n19 := by have := blk_lt X169.out; omega
          clear hw10 hn19 hE10 q4c q4f m3 m4 k3
          have q14c := cell_blk x14
          have q14f := frz_blk x14
          have q16c := cell_blk x16
          have q16f := frz_blk x16
          clear x14 x16 x19
          go_upto_region 22 with (fail)
          refine wp_name ?_
          intro w11 hw11
          have hB11 : Below w3.heap.size w3 w11 := by rw [hw11]; exact below_set (below_set HB10.out (by omega)) (by omega)
          have hA11 : Above B0 wo w11 := by rw [hw11]; exact Above.set (Above.set HA10.out (.inr l16)) (.inr l16)
          have X411 : Hid (w11.heap[n4]? = some (Obj.cells #[.slice (SSl.mk ⟨some ⟨rb, roff, none⟩, rc⟩ cs ps).r.a S.rooms.length (SSl.mk ⟨some ⟨rb, roff, none⟩, rc⟩ cs ps).r.cap, .slice (SSl.mk ⟨some ⟨rb, roff, none⟩, rc⟩ cs ps).c.a S.cans.length (SSl.mk ⟨some ⟨rb, roff, none⟩, rc⟩ cs ps).c.cap, .int .i64 S.rlo, .int .i64 S.rhi, .slice (SSl.mk ⟨some ⟨rb, roff, none⟩, rc⟩ cs ps).p.a S.steps.length (SSl.mk ⟨some ⟨rb, roff, none⟩, rc⟩ cs ps).p.cap] 28)) := Lib.hid (by rw [hw11]; exact blk_set_ne (blk_set_ne X410.out (by omega)) (by omega))
          have X1411 : Hid (w11.heap[n14]? = some (Obj.cells #[.int .i64 U.lo, .int .i64 U.hi] 25)) := Lib.hid (by rw [hw11]; exact blk_set_ne (blk_set_ne X1410.out (by omega)) (by omega))
          have x19 : w11.heap[n19]? = some (Obj.cells #[.int .i64 R2.dlo, .int .i64 R2.dhi] 25) := by rw [hw11]; exact blk_set_ne (blk_set_ne X1910.out (by omega)) (by omega)
          have x16 : w11.heap[n16]? = some (Obj.cells #[.int .i64 (min Dj.tlo U.lo), .int .i64 (max Dj.thi U.hi), .int .i64 Dj.dlo, .int .i64 Dj.dhi] 79) := by rw [hw11]; exact Eq.trans (blk_set (blk_set X1610.out _ _) _ _) rfl
          have HB11 := Lib.hid hB11; have HA11 := Lib.hid hA11; have X1611 := Lib.hid x16
          clear hw11 q14c q14f q16c q16f hB11 hA11
          have q16c := cell_blk x16
          have q16f := frz_blk x16
          have q19c := cell_blk x19
          have q19f := frz_blk x19
          clear x16 x19
          go_wp2_with (fail)
          go_roundw
          case rel => exact ⟨j + 1, H + 1, by go_num, by have := HH.out; omega, by omega, below_set (below_set HB11.out (by omega)) (by omega), Above.set (Above.set HA11.out (.inr l16)) (.inr l16), blk_set_ne (blk_set_ne X411.out (by omega)) (by omega), by rw [HU1.out]; exact blk_set_ne (blk_set_ne X1411.out (by omega)) (by omega), by rw [HDn.out]; exact Eq.trans (blk_set (blk_set X1611.out _ _) _ _) rfl⟩
          case measure => simp [intOf]; have := HH.out; omega
        · obtain rfl : j = 24 := by omega
          obtain rfl : H = E := by have := HEE.out; omega
          have r1 : ¬ (H : Int) < (H : Int) := by omega
          obtain ⟨Dj, hDj⟩ : ∃ x, x = dayJ S M cn k 24 := ⟨_, rfl⟩
          rw [← hDj] at x16
          have HDJ := Lib.hid hDj
          have HOw := Lib.hid (HO.out.above hA)
          have hszi : B0 ≤ wr.heap.size := Nat.le_trans hsz hA.1
          have q16c := cell_blk x16
          have q16f := frz_blk x16
          clear hDj x4 x14 x16 hA hH
          go_wp2_with (at_builtin; refine app_one [.int .i64 Dj.tlo, .int .i64 Dj.thi, .int .i64 Dj.dlo, .int .i64 Dj.dhi] elDay rfl _ _ rfl B0 rfl (HOw.out.below (below_alloc' _ _)) wr.heap.size 1 rfl (blk_new _ _) (by simp [Value.oneCell']) (by omega) (by simp; omega) ?_; intro v' w13 hO13 hg13)
          have HB13 := Lib.hid (below_app hB (HOw.out.base (show w3.heap.size ≤ B0 by omega)) hB.size hg13)
          have X413 := Lib.hid (app_blk HOw.out hg13 X4i.out (by decide)); have X1413 := Lib.hid (app_blk HOw.out hg13 X14i.out (by decide))
          have hs13 : B0 ≤ w13.heap.size := Nat.le_trans (Nat.le_trans hszi (by rw [World.size_alloc]; omega)) hg13.size
          have HO13 := Lib.hid (OwnR.congr hO13 fun i j hi hj => dyC_day hi hj HDJ.out)
          have hkD : D + 24 = (k + 1) * 24 := by have := HD.out; omega
          rw [hkD] at X1413
          clear hO13 hg13 q16c q16f hB hkD
          go_wp2_with (fail)
          go_roundw
          case rel => exact ⟨k + 1, by go_num, by omega, HB13.out, hs13, X413.out, X1413.out, HO13.out⟩
          case measure => simp [intOf]; omega
    · obtain rfl : k = dn := by omega
      have r1 : ¬ (k : Int) < (k : Int) := by omega
      obtain ⟨⟨c1, c2⟩, rfl, hr⟩ := HO.out.sl
      have HR := Lib.hid hr
      have hlen : (climV S M cn k).length = k := by simp [climV]
      have HLEN := Lib.hid hlen
      clear x4 x14 hB hr hlen
      go_wp2_with (fail)
      refine bodyPost_ret (v := .tuple #[.slice c1 k c2, .int .i64 0]) ?_ rfl ?_
      · simp [results, Tryz.results8, go_sem]
      refine ⟨⟨c1, c2⟩, by rw [HCLM.out, HTE.out, HLEN.out], ?_, ext_trans HE3.out HB.out⟩
      rw [HCLM.out, HLEN.out]; exact HR.out
end Go.Proofs.YtfpaihjcbpaneaaGreatDoor
