/-
  law.BenchKnown, walked.
-/
import Derived.Test.YtfcpiemapekffaaGreatDoorBAwk
import Derived.Test.YtfcpiemapekffaaGreatDoorBCoP
import Derived.Test.YtfcpiemapekffaaGreatDoorBTrn
import Derived.Test.YtfcpiemapekffaaGreatDoorBCutD
namespace Go.Proofs.YtfcpiemapekffaaGreatDoor
open Go.RowKit D
set_option linter.unusedVariables false
set_option linter.unusedSimpArgs false
attribute [local go_sem high] run_minI run_maxI
attribute [local go_sem] upon2 cls_cell cls_frozen forall_const exists_eq_left'
attribute [local go_sem] FirstUpon atBlk_cell
def knP : List Piece := [⟨0, 49, true⟩, ⟨50, 149, false⟩, ⟨150, 499, false⟩, ⟨500, 899, false⟩, ⟨900, 999, false⟩]
theorem exPiecesC {t : TSl} {w : World} (hT : TaskAt w exT t) (hm : MaxAt w) : Calls Tryz.prog 32 #[.agg #[.string exT.reel.name, .int .i64 exT.reel.gauge, .int .i64 exT.reel.base, .int .i64 exT.reel.frames, .int .i64 exT.reel.ylo, .int .i64 exT.reel.yhi, .int .i64 exT.reel.keep, .slice t.r.m.a exT.reel.marks.length t.r.m.cap, .slice t.r.s.a exT.reel.syms.length t.r.s.cap, .slice t.r.l.a exT.reel.lens.length t.r.l.cap, .int .i64 exT.whole.lo, .int .i64 exT.whole.hi, .slice t.n.a exT.notes.length t.n.cap]] w fun e w' => (∃ s : Sl, e = .returned (.tuple #[.slice s.a 5 s.cap, .int .i64 0]) ∧ PiecesS w' s knP) ∧ Below w.heap.size w w' := by
  refine (piecesF_any hT hm).mono ?_
  rintro e w' ⟨hb, h⟩
  refine ⟨?_, hb⟩
  have e0 : (checkV exT).2.2 = 0 := by rw [exChk]
  have ep : pieceK (standV exT.notes) exT.reel.frames.toNat = knP := exPcs
  rcases h with ⟨h, -⟩ | ⟨-, s, he, hs⟩
  · exact absurd e0 h
  · rw [ep] at he hs
    exact ⟨s, he, hs⟩
theorem exTornC {t : TSl} {w : World} (hT : TaskAt w exT t) (hm : MaxAt w) : Calls Tryz.prog 40 #[.agg #[.string exT.reel.name, .int .i64 exT.reel.gauge, .int .i64 exT.reel.base, .int .i64 exT.reel.frames, .int .i64 exT.reel.ylo, .int .i64 exT.reel.yhi, .int .i64 exT.reel.keep, .slice t.r.m.a exT.reel.marks.length t.r.m.cap, .slice t.r.s.a exT.reel.syms.length t.r.s.cap, .slice t.r.l.a exT.reel.lens.length t.r.l.cap, .int .i64 exT.whole.lo, .int .i64 exT.whole.hi, .slice t.n.a exT.notes.length t.n.cap]] w fun e w' => (∃ s : Sl, e = .returned (.tuple #[.slice s.a 1 s.cap, .int .i64 0]) ∧ SpansS w' s [⟨520, 530⟩]) ∧ Below w.heap.size w w' := by
  refine (torn_any hT hm).mono ?_
  rintro e w' ⟨hb, h⟩
  refine ⟨?_, hb⟩
  have e0 : (checkV exT).2.2 = 0 := by rw [exChk]
  have ep : tornK (standV exT.notes) exT.reel.frames.toNat = [⟨520, 530⟩] := exTrn
  rcases h with ⟨h, -⟩ | ⟨-, s, he, hs⟩
  · exact absurd e0 h
  · rw [ep] at he hs
    exact ⟨s, he, hs⟩
theorem exBeforeC {s : Sl} {w : World} {x a b : Int} (h : CutsS w s [⟨10, 19⟩, ⟨50, 59⟩]) (he : beforeV 1000 [⟨10, 19⟩, ⟨50, 59⟩] x = (a, b)) : Calls Tryz.prog 35 #[.int .i64 1000, .slice s.a 2 s.cap, .int .i64 x] w fun e w' => e = .returned (.tuple #[.int .i64 a, .int .i64 b]) ∧ Ext2 w w' := by
  have h1 := before_any (f := 1000) (x := x) h
  rw [he] at h1
  exact h1
theorem knP_blk {w : World} {b : Nat} (h : w.heap[b]? = some (.cells #[.int .i64 0, .int .i64 49, .bool true, .int .i64 50, .int .i64 149, .bool false, .int .i64 150, .int .i64 499, .bool false, .int .i64 500, .int .i64 899, .bool false, .int .i64 900, .int .i64 999, .bool false] 82 (0, 0))) : PiecesS w ⟨some ⟨b, 0, none⟩, 5⟩ knP := rows_blk h (by decide) (by
  intro i j hi hj
  rcases (show i = 0 ∨ i = 1 ∨ i = 2 ∨ i = 3 ∨ i = 4 by have : i < 5 := hi; omega) with rfl | rfl | rfl | rfl | rfl <;> rcases (by omega : j = 0 ∨ j = 1 ∨ j = 2) with rfl | rfl | rfl <;> rfl)
theorem knT_blk {w : World} {b : Nat} (h : w.heap[b]? = some (.cells #[.int .i64 520, .int .i64 530] 31 (0, 0))) : SpansS w ⟨some ⟨b, 0, none⟩, 1⟩ [⟨520, 530⟩] := rows_blk h (by decide) (by
  intro i j hi hj
  obtain rfl : i = 0 := by have : i < 1 := hi; omega
  rcases (by omega : j = 0 ∨ j = 1) with rfl | rfl <;> rfl)
def knF : List Int := [50, 149, 150, 600]
def knS : List Span := [⟨0, 75⟩, ⟨99, 174⟩, ⟨128, 203⟩, ⟨750, 825⟩]
theorem knF_cell {w : World} {b : Nat} (h : w.heap[b]? = some (.cells #[.int .i64 50, .int .i64 149, .int .i64 150, .int .i64 600] 3 (0, 0))) (k : Nat) (hk : k < 4) : w.cell? ⟨b, k, none⟩ = some (.int .i64 (intD knF k)) := by
  rw [cell_blk h]
  rcases (by omega : k = 0 ∨ k = 1 ∨ k = 2 ∨ k = 3) with rfl | rfl | rfl | rfl <;> rfl
theorem knS_cell {w : World} {b : Nat} (h : w.heap[b]? = some (.cells #[.int .i64 0, .int .i64 75, .int .i64 99, .int .i64 174, .int .i64 128, .int .i64 203, .int .i64 750, .int .i64 825] 31 (0, 0))) (k : Nat) (hk : k < 4) : w.cell? ⟨b, k * 2, none⟩ = some (.int .i64 (spD knS k).lo) ∧ w.cell? ⟨b, k * 2 + 1, none⟩ = some (.int .i64 (spD knS k).hi) := by
  rw [cell_blk h, cell_blk h]
  rcases (by omega : k = 0 ∨ k = 1 ∨ k = 2 ∨ k = 3) with rfl | rfl | rfl | rfl <;> exact ⟨rfl, rfl⟩
theorem knPl (k : Nat) (hk : k < 4) : placeAns exT (intD knF k) = (spD knS k, 0) := by
  rcases (by omega : k = 0 ∨ k = 1 ∨ k = 2 ∨ k = 3) with rfl | rfl | rfl | rfl
  · exact exPl3.1
  · exact exPl3.2.1
  · exact exPl3.2.2.1
  · exact exPl3.2.2.2
set_option maxRecDepth 100000 in
set_option maxHeartbeats 8000000 in
theorem lawKnown_any {w : World} (hm : MaxAt w) : Calls Tryz.prog 14 #[] w fun e w' => e = .returned (.bool true) ∧ Below w.heap.size w w' := by
  have HM := Lib.hid hm
  clear hm
  go_enter Tryz.func14, Tryz.ntmps14
  go_wp2_with (fail)
  refine (taskL_any _).mono ?_
  rintro e w0 ⟨⟨bQ, bS, bL, bN, rfl, hS⟩, hb0⟩
  have HS0 := Lib.hid hS; have HB0 := Lib.hid hb0
  clear hS hb0
  go_upto_region 2 with (fail)
  refine wp_name ?_
  intro w1 hw1
  obtain ⟨n1, hn1⟩ : ∃ n, n = w0.heap.size := ⟨_, rfl⟩
  have hE1 : Ext2 w0 w1 := by rw [hw1]; exact below_alloc' _ _
  have X1 : Hid (w1.heap[n1]? = some (Obj.cells #[.string exT.reel.name, .int .i64 exT.reel.gauge, .int .i64 exT.reel.base, .int .i64 exT.reel.frames, .int .i64 exT.reel.ylo, .int .i64 exT.reel.yhi, .int .i64 exT.reel.keep, .slice (texS bQ bS bL bN).r.m.a exT.reel.marks.length (texS bQ bS bL bN).r.m.cap, .slice (texS bQ bS bL bN).r.s.a exT.reel.syms.length (texS bQ bS bL bN).r.s.cap, .slice (texS bQ bS bL bN).r.l.a exT.reel.lens.length (texS bQ bS bL bN).r.l.cap, .int .i64 exT.whole.lo, .int .i64 exT.whole.hi, .slice (texS bQ bS bL bN).n.a exT.notes.length (texS bQ bS bL bN).n.cap] 38)) := Lib.hid (by rw [hw1, hn1]; exact blk_new _ _)
  have HS1 := Lib.hid (HS0.out.below hE1)
  have HB1 := Lib.hid (below_ext HB0.out hE1)
  have HM1 := Lib.hid (HM.out.below HB1.out)
  rw [← hn1]
  clear hw1 hn1 hE1 HS0 HB0
  have x1 := X1.out
  have q1c := cell_blk x1
  have q1f := frz_blk x1
  clear x1
  have HG := Lib.hid (exPiecesC HS1.out HM1.out)
  go_wp2_with (fail)
  refine HG.out.mono ?_
  rintro e w2 ⟨⟨s1, rfl, hG⟩, hb2⟩
  have HG2 := Lib.hid hG; have HE2 := Lib.hid hb2
  have x1 := Ext2.blk hb2 X1.out
  have HP := Lib.hid (exTornC (HS1.out.below hb2) (HM1.out.below hb2))
  clear hG hb2 q1c q1f HG
  have q1c := cell_blk x1
  have q1f := frz_blk x1
  clear x1
  go_wp2_with (fail)
  refine HP.out.mono ?_
  rintro e w3 ⟨⟨s2, rfl, hG⟩, hb3⟩
  have hb23 := ext_trans HE2.out hb3
  have HE3 := Lib.hid hb23; have HG3 := Lib.hid (RowS.below HG2.out hb3); have HF3 := Lib.hid hG
  clear hb3 hb23 q1c q1f HP HG2 HE2 hG
  have HSP := Lib.hid fun lo hi W => spanL_any lo hi W
  go_wp2_with (fail)
  refine calls_name ?_
  intro w7 hw7
  obtain ⟨b7, hb7⟩ : ∃ n, n = w3.heap.size := ⟨_, rfl⟩
  have y7 : w7.heap[b7]? = some (.cells #[.int .i64 0, .int .i64 49, .bool true, .int .i64 50, .int .i64 149, .bool false, .int .i64 150, .int .i64 499, .bool false, .int .i64 500, .int .i64 899, .bool false, .int .i64 900, .int .i64 999, .bool false] 82 (0, 0)) := by rw [hw7, hb7]; exact blk_new _ _
  have hE7 : Ext2 w3 w7 := by rw [hw7]; exact below_alloc' _ _
  have HE7 := Lib.hid (ext_trans HE3.out hE7)
  have HSP7 : Hid (Calls Tryz.prog 39 #[.slice s1.a 5 s1.cap, .slice (some ⟨b7, 0, none⟩) 5 5] w7 fun e w' => e = .returned (.bool true) ∧ Below w7.heap.size w7 w') := Lib.hid (by
    have h := samePc_any (RowS.below HG3.out hE7) (knP_blk y7)
    rw [decide_eq_true rfl] at h
    exact h)
  have HF7 := Lib.hid (RowS.below HF3.out hE7)
  rw [← hb7]
  clear hw7 hb7 y7 hE7 HE3 HG3 HF3
  (with_reducible refine HSP7.out.mono ?_)
  rintro e w8 ⟨rfl, hw8⟩
  have HE8 := Lib.hid (ext_trans HE7.out hw8); have HF8 := Lib.hid (RowS.below HF7.out hw8)
  clear hw8 HE7 HF7 HSP7
  go_wp2_with (fail)
  refine (HSP.out _ _ _).mono ?_
  rintro e w9 ⟨rfl, hw9⟩
  have HE9 := Lib.hid (ext_trans HE8.out hw9); have HF9 := Lib.hid (RowS.below HF8.out hw9)
  clear hw9 HE8 HF8
  go_wp2_with (fail)
  refine calls_name ?_
  intro w11 hw11
  obtain ⟨b11, hb11⟩ : ∃ n, n = w9.heap.size := ⟨_, rfl⟩
  have y11 : w11.heap[b11]? = some (.cells #[.int .i64 520, .int .i64 530] 31 (0, 0)) := by rw [hw11, hb11]; exact blk_new _ _
  have hE11 : Ext2 w9 w11 := by rw [hw11]; exact below_alloc' _ _
  have HE11 := Lib.hid (ext_trans HE9.out hE11)
  have HSS : Hid (Calls Tryz.prog 28 #[.slice s2.a 1 s2.cap, .slice (some ⟨b11, 0, none⟩) 1 1] w11 fun e w' => e = .returned (.bool true) ∧ Below w11.heap.size w11 w') := Lib.hid (by
    have h := sameSp_any (RowS.below HF9.out hE11) (knT_blk y11)
    rw [decide_eq_true rfl] at h
    exact h)
  rw [← hb11]
  clear hw11 hb11 y11 hE11 HE9 HF9
  (with_reducible refine HSS.out.mono ?_)
  rintro e w12 ⟨rfl, hw12⟩
  have HE12 := Lib.hid (ext_trans HE11.out hw12)
  clear hw12 HE11 HSS
  go_upto_region 7 with (fail)
  refine wp_name ?_
  intro w13 hw13
  obtain ⟨b13, hb13⟩ : ∃ n, n = w12.heap.size := ⟨_, rfl⟩
  have y13 : w13.heap[b13]? = some (.cells #[.int .i64 50, .int .i64 149, .int .i64 150, .int .i64 600] 3 (0, 0)) := by rw [hw13, hb13]; exact blk_new _ _
  have hE13 : Ext2 w12 w13 := by rw [hw13]; exact below_alloc' _ _
  have HE13 := Lib.hid (ext_trans HE12.out hE13)
  have Y13 := Lib.hid y13
  rw [← hb13]
  clear hw13 hb13 hE13 y13 HE12
  go_wp2_with (fail)
  refine (HSP.out _ _ _).mono ?_
  rintro e w14 ⟨rfl, h14⟩
  go_wp2_with (fail)
  refine (HSP.out _ _ _).mono ?_
  rintro e w15 ⟨rfl, h15⟩
  go_wp2_with (fail)
  refine (HSP.out _ _ _).mono ?_
  rintro e w16 ⟨rfl, h16⟩
  go_wp2_with (fail)
  refine (HSP.out _ _ _).mono ?_
  rintro e w17 ⟨rfl, h17⟩
  have hE17 : Ext2 w13 w17 := ext_trans (ext_trans (ext_trans h14 h15) h16) h17
  have HE17 := Lib.hid hE17
  clear h14 h15 h16 h17 hE17
  go_upto_region 8 with (fail)
  refine wp_name ?_
  intro w18 hw18
  obtain ⟨b18, hb18⟩ : ∃ n, n = w17.heap.size := ⟨_, rfl⟩
  have y18 : w18.heap[b18]? = some (.cells #[.int .i64 0, .int .i64 75, .int .i64 99, .int .i64 174, .int .i64 128, .int .i64 203, .int .i64 750, .int .i64 825] 31 (0, 0)) := by rw [hw18, hb18]; exact blk_new _ _
  have hE18 : Ext2 w17 w18 := by rw [hw18]; exact below_alloc' _ _
  have HW18 := Lib.hid (ext_trans HE17.out hE18)
  have HE18 := Lib.hid (ext_trans HE13.out HW18.out)
  have YF := Lib.hid (HW18.out.blk Y13.out)
  have YS := Lib.hid y18
  rw [← hb18]
  clear hw18 hb18 hE18 y18 HE17 HW18 Y13 HE13
  have XB := Lib.hid (HE18.out.blk X1.out)
  go_wp2_with (fail)
  go_loopw [8] (fun iv wr => ∃ k : Nat, iv = .int .i64 k ∧ k ≤ 4 ∧ Ext2 w18 wr) (fun i _ => 4 - (intOf i).toNat)
  case atStart => exact ⟨0, rfl, by omega, Below.refl _ _⟩
  case round =>
    obtain ⟨k, rfl, hk, hE⟩ := hrel
    have HE := Lib.hid hE
    have HER := Lib.hid (ext_trans HE18.out hE)
    by_cases hlt : k < 4
    · go_light
      have c0 := knF_cell (hE.blk YF.out) k hlt
      obtain ⟨d0, d1⟩ := knS_cell (hE.blk YS.out) k hlt
      have hpl := knPl k hlt
      have x1 := hE.blk XB.out
      obtain ⟨f, hf⟩ : ∃ f, f = intD knF k := ⟨_, rfl⟩
      obtain ⟨⟨lo, hi⟩, hz⟩ : ∃ z, z = spD knS k := ⟨_, rfl⟩
      rw [← hf] at c0 hpl
      rw [← hz] at d0 d1 hpl
      dsimp only at d0 d1
      have HPL : Hid (∀ W, Ext2 wr W → Calls Tryz.prog 24 #[.agg #[.string exT.reel.name, .int .i64 exT.reel.gauge, .int .i64 exT.reel.base, .int .i64 exT.reel.frames, .int .i64 exT.reel.ylo, .int .i64 exT.reel.yhi, .int .i64 exT.reel.keep, .slice (texS bQ bS bL bN).r.m.a exT.reel.marks.length (texS bQ bS bL bN).r.m.cap, .slice (texS bQ bS bL bN).r.s.a exT.reel.syms.length (texS bQ bS bL bN).r.s.cap, .slice (texS bQ bS bL bN).r.l.a exT.reel.lens.length (texS bQ bS bL bN).r.l.cap, .int .i64 exT.whole.lo, .int .i64 exT.whole.hi, .slice (texS bQ bS bL bN).n.a exT.notes.length (texS bQ bS bL bN).n.cap], .int .i64 f] W fun e w' => e = .returned (.tuple #[.agg #[.int .i64 lo, .int .i64 hi], .int .i64 0]) ∧ Below W.heap.size W w') := Lib.hid fun W hW =>
        exPlaceC (HS1.out.below (ext_trans HER.out hW)) (HM1.out.below (ext_trans HER.out hW)) hpl
      have g0 : (0 : Int) ≤ (k : Int) := by omega
      have g1 : (k : Int) < 4 := by omega
      have e0 : decide ((0 : Int) ≤ (k : Int)) = true := decide_eq_true g0
      have e1 : decide ((k : Int) < 4) = true := decide_eq_true g1
      have w1' : IntKind.i64.wrap ((k : Int) + 1) = (k : Int) + 1 := IntWalk.i64_in _ (by omega)
      clear hE hpl hf hz hlt
      go_upto_region 11 with (fail)
      have q1c := cell_blk x1
      have q1f := frz_blk x1
      refine region_ev [] [0, 1, 2, 3, 4, 5, 6, 7, 8] [(9, 9, some 10)] [11] (by kernel_rfl) (by kernel_rfl) (by intro c a d v w h; cases d <;> exact h) ?_
      simp only [picks, List.drop_succ_cons, List.drop_zero]
      repeat (refine wpQ0_step (fun K hK => ?_); go_simp; (refine hK _ ?_; clear hK K))
      refine wpQ0_nil ?_
      repeat ((with_reducible refine wpQ2_step (fun K hK => ?_)); go_simp; first | ((with_reducible refine hK _ ?_); clear hK K) | (apply Exists.intro; refine ⟨fun x => ?_, hK _ ?_⟩; ((with_reducible exact HPL.out x.1 x.2)); clear hK K))
      refine wpQ2_nil ?_
      refine Events.fill1 (fun b => .pointer (some ⟨b, 0, none⟩)) (Obj.cells #[.int .i64 0, .int .i64 0] 31 (0, 0)) (Obj.cells #[.int .i64 lo, .int .i64 hi] 31 (0, 0)) ⟨_, rfl, rfl, rfl, fun W => by kernel_rfl⟩ ⟨_, rfl, rfl, rfl, fun b W hb => ?_⟩ fun b9 w9 hb9 hg9 nb9 => ?_
      · have hbc := cell_blk hb; have hbf := frz_blk hb; go_simp; exact turn_two hb _ _
      simp only [picks, List.drop_succ_cons, List.drop_zero]
      have HE9 := Lib.hid (ext_trans HE.out hg9)
      have d0 := ext_cell' hg9 d0
      have d1 := ext_cell' hg9 d1
      have x9 := nb9
      clear c0 q1c q1f x1 HPL nb9 hb9 hg9
      have q9c := cell_blk x9
      have q9f := frz_blk x9
      clear x9
      have hEq : ∀ W : World, (binOp .neq 31 (.agg #[.int .i64 lo, .int .i64 hi]) (.agg #[.int .i64 lo, .int .i64 hi])).run Tryz.prog W = .ok (.bool false) W := fun W => by rw [run_neq_sameSp, decide_eq_true (by simp)]; rfl
      go_upto_region 12 with (fail)
      refine region_ev [] [0, 1, 2, 3, 4, 5, 6, 7, 8, 9] [] [] (by kernel_rfl) (by kernel_rfl) (by intro c a d v w h; cases d <;> exact h) ?_
      simp only [picks, List.drop_succ_cons, List.drop_zero]
      repeat (refine wpQ0_step (fun K hK => ?_); go_simp; (refine hK _ ?_; clear hK K))
      refine wpQ0_nil ?_
      repeat ((with_reducible refine wpQ2_step (fun K hK => ?_)); go_simp; first | ((with_reducible refine hK _ ?_); clear hK K) | (apply Exists.intro; refine ⟨fun x => ?_, hK _ ?_⟩; (fail); clear hK K) | (refine ite_undef (fun h => (by have h_ : (none : Option Bool) = some _ := h; cases h_)) ?_; (with_reducible refine hK _ ?_); clear hK K))
      (with_reducible refine wpQ2_nil ?_)
      refine Events.none_ fun w10 hg10 => ?_
      simp only [picks, List.drop_succ_cons, List.drop_zero]
      have HE10 := Lib.hid (ext_trans HE9.out hg10)
      clear d0 d1 q9c q9f hg10 hEq
      go_wp2_with (fail)
      go_roundw
      case rel => exact ⟨k + 1, by go_num, by omega, HE10.out⟩
      case measure => simp [intOf]; omega
    · have hn4 : ¬ (k : Int) < 4 := by omega
      have hd4 : decide ((k : Int) < 4) = false := decide_eq_false hn4
      clear hE hlt hk
      go_upto_region 15 with (fail)
      refine wp_name ?_
      intro w20 hw20
      obtain ⟨b20, hb20⟩ : ∃ n, n = wr.heap.size := ⟨_, rfl⟩
      have y20 : w20.heap[b20]? = some (.cells #[.int .i64 10, .int .i64 19, .int .i64 50, .int .i64 59] 89 (0, 0)) := by rw [hw20, hb20]; exact blk_new _ _
      have hE20 : Ext2 wr w20 := by rw [hw20]; exact below_alloc' _ _
      have HE20 := Lib.hid (ext_trans HER.out hE20)
      have hcs : CutsS w20 ⟨some ⟨b20, 0, none⟩, 2⟩ [⟨10, 19⟩, ⟨50, 59⟩] := cuts_blk y20
      have HCS := Lib.hid hcs
      rw [← hb20]
      clear hw20 hb20 y20 hE20 YF YS XB hcs
      obtain ⟨⟨p1, p2⟩, hp⟩ : ∃ p, p = afterV 1000 [⟨10, 19⟩, ⟨50, 59⟩] 12 := ⟨_, rfl⟩
      obtain rfl : p2 = 4 := by have := exAft2.2.2.1; rw [← hp] at this; exact this
      obtain ⟨⟨p3, p4⟩, hq⟩ : ∃ p, p = afterV 1000 [⟨10, 19⟩, ⟨50, 59⟩] 62 := ⟨_, rfl⟩
      obtain rfl : p4 = 4 := by have := exAft2.2.2.2; rw [← hq] at this; exact this
      have HP := Lib.hid hp.symm; have HQ := Lib.hid hq.symm
      clear hp hq
      have A1 := Lib.hid fun (W : World) (hW : Ext2 w20 W) => exAfterC (s := ⟨some ⟨b20, 0, none⟩, 2⟩) (x := 5) (a := 5) (b := 0) (RowS.below HCS.out hW) exAft2.1
      have A2 := Lib.hid fun (W : World) (hW : Ext2 w20 W) => exAfterC (s := ⟨some ⟨b20, 0, none⟩, 2⟩) (x := 45) (a := 35) (b := 0) (RowS.below HCS.out hW) exAft2.2.1
      have A3 := Lib.hid fun (W : World) (hW : Ext2 w20 W) => exAfterC (s := ⟨some ⟨b20, 0, none⟩, 2⟩) (x := 12) (a := p1) (b := 4) (RowS.below HCS.out hW) HP.out
      have A4 := Lib.hid fun (W : World) (hW : Ext2 w20 W) => exAfterC (s := ⟨some ⟨b20, 0, none⟩, 2⟩) (x := 62) (a := p3) (b := 4) (RowS.below HCS.out hW) HQ.out
      have B1 := Lib.hid fun (W : World) (hW : Ext2 w20 W) => exBeforeC (s := ⟨some ⟨b20, 0, none⟩, 2⟩) (x := 35) (a := 45) (b := 0) (RowS.below HCS.out hW) exBef.1
      have B2 := Lib.hid fun (W : World) (hW : Ext2 w20 W) => exBeforeC (s := ⟨some ⟨b20, 0, none⟩, 2⟩) (x := 50) (a := 70) (b := 0) (RowS.below HCS.out hW) exBef.2.1
      have B3 := Lib.hid fun (W : World) (hW : Ext2 w20 W) => exBeforeC (s := ⟨some ⟨b20, 0, none⟩, 2⟩) (x := 979) (a := 999) (b := 0) (RowS.below HCS.out hW) exBef.2.2
      dsimp only at A1 A2 A3 A4 B1 B2 B3
      have H20 : Hid (Ext2 w20 w20) := Lib.hid (Below.refl _ _)
      clear HP HQ HCS
      go_wp2_with (fail)
      (with_reducible refine (A1.out _ H20.out).mono ?_)
      rintro e w21 ⟨rfl, h21⟩
      have H21 := Lib.hid (ext_trans H20.out h21)
      clear h21
      --CUT1
      go_wp2_with (fail)
      (with_reducible refine (A2.out _ H21.out).mono ?_)
      rintro e w22 ⟨rfl, h22⟩
      have H22 := Lib.hid (ext_trans H21.out h22)
      clear h22
      go_wp2_with (fail)
      (with_reducible refine (A3.out _ H22.out).mono ?_)
      rintro e w23 ⟨rfl, h23⟩
      have H23 := Lib.hid (ext_trans H22.out h23)
      clear h23
      go_wp2_with (fail)
      (with_reducible refine (A4.out _ H23.out).mono ?_)
      rintro e w24 ⟨rfl, h24⟩
      have H24 := Lib.hid (ext_trans H23.out h24)
      clear h24
      --CUT2
      go_wp2_with (fail)
      (with_reducible refine (B1.out _ H24.out).mono ?_)
      rintro e w25 ⟨rfl, h25⟩
      have H25 := Lib.hid (ext_trans H24.out h25)
      clear h25
      go_wp2_with (fail)
      (with_reducible refine (B2.out _ H25.out).mono ?_)
      rintro e w26 ⟨rfl, h26⟩
      have H26 := Lib.hid (ext_trans H25.out h26)
      clear h26
      go_wp2_with (fail)
      (with_reducible refine (B3.out _ H26.out).mono ?_)
      rintro e w27 ⟨rfl, h27⟩
      have H27 := Lib.hid (ext_trans HE20.out (ext_trans H26.out h27))
      clear h27
      have HA := Lib.hid (awake_any (HM1.out.below H27.out))
      go_wp2_with (fail)
      (with_reducible refine HA.out.mono ?_)
      rintro e w28 ⟨rfl, h28⟩
      have H28 := Lib.hid (below_ext HB1.out (ext_trans H27.out h28))
      clear h28
      go_wp2_with (fail)
      go_ret
      exact ⟨rfl, H28.out⟩
end Go.Proofs.YtfcpiemapekffaaGreatDoor
