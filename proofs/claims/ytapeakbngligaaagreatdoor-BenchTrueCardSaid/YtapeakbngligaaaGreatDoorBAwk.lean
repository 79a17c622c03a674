/-
  law.Awake.
-/
import Derived.Test.YtapeakbngligaaaGreatDoorBLwT
import Derived.Test.YtapeakbngligaaaGreatDoorBFnd
import Derived.Test.YtapeakbngligaaaGreatDoorBCmp
import Derived.Test.YtapeakbngligaaaGreatDoorBMrg
namespace Go.Proofs.YtapeakbngligaaaGreatDoor
open Go.RowKit D
set_option linter.unusedVariables false
set_option linter.unusedSimpArgs false
attribute [local go_sem high] run_minI run_maxI
attribute [local go_sem] upon2 cls_cell cls_frozen forall_const exists_eq_left'
attribute [local go_sem] FirstUpon atBlk_cell
theorem exGapsC {t : TSl} {w : World} (hT : TaskAt w exT t) (hm : MaxAt w) : Calls Tryz.prog 8 #[.agg #[.string exT.reel.name, .int .i64 exT.reel.gauge, .int .i64 exT.reel.base, .int .i64 exT.reel.frames, .int .i64 exT.reel.ylo, .int .i64 exT.reel.yhi, .int .i64 exT.reel.keep, .slice t.r.m.a exT.reel.marks.length t.r.m.cap, .slice t.r.s.a exT.reel.syms.length t.r.s.cap, .slice t.r.l.a exT.reel.lens.length t.r.l.cap, .int .i64 exT.whole.lo, .int .i64 exT.whole.hi, .slice t.n.a exT.notes.length t.n.cap]] w fun e w' => (∃ s1 s2 s3 : Sl, e = .returned (.tuple #[.slice s1.a 5 s1.cap, .slice s2.a 0 s2.cap, .slice s3.a 0 s3.cap, .int .i64 0]) ∧ GapsS w' s1 exA) ∧ Below w.heap.size w w' := by
  have h := gapsA_any hT hm
  rw [exAns] at h
  refine h.mono ?_
  rintro e w' ⟨hb, s1, s2, s3, he, h1, -, -⟩
  exact ⟨⟨s1, s2, s3, he, h1⟩, hb⟩
theorem exPlaceC {t : TSl} {w : World} {f : Int} {a : Span} {b : Int} (hT : TaskAt w exT t) (hm : MaxAt w) (h : placeAns exT f = (a, b)) : Calls Tryz.prog 9 #[.agg #[.string exT.reel.name, .int .i64 exT.reel.gauge, .int .i64 exT.reel.base, .int .i64 exT.reel.frames, .int .i64 exT.reel.ylo, .int .i64 exT.reel.yhi, .int .i64 exT.reel.keep, .slice t.r.m.a exT.reel.marks.length t.r.m.cap, .slice t.r.s.a exT.reel.syms.length t.r.s.cap, .slice t.r.l.a exT.reel.lens.length t.r.l.cap, .int .i64 exT.whole.lo, .int .i64 exT.whole.hi, .slice t.n.a exT.notes.length t.n.cap], .int .i64 f] w fun e w' => e = .returned (.tuple #[.agg #[.int .i64 a.lo, .int .i64 a.hi], .int .i64 b]) ∧ Below w.heap.size w w' := by
  have h1 := placeF_any (f := f) hT hm
  rw [h] at h1
  exact h1
theorem exFindC {t : TSl} {w : World} (hT : TaskAt w exT t) (hm : MaxAt w) : Calls Tryz.prog 19 #[.agg #[.string exT.reel.name, .int .i64 exT.reel.gauge, .int .i64 exT.reel.base, .int .i64 exT.reel.frames, .int .i64 exT.reel.ylo, .int .i64 exT.reel.yhi, .int .i64 exT.reel.keep, .slice t.r.m.a exT.reel.marks.length t.r.m.cap, .slice t.r.s.a exT.reel.syms.length t.r.s.cap, .slice t.r.l.a exT.reel.lens.length t.r.l.cap, .int .i64 exT.whole.lo, .int .i64 exT.whole.hi, .slice t.n.a exT.notes.length t.n.cap], .int .i64 100] w fun e w' => (∃ s1 : Sl, e = .returned (.tuple #[.slice s1.a 1 s1.cap, .int .i64 0]) ∧ SpansS w' s1 [⟨75, 149⟩]) ∧ Below w.heap.size w w' := by
  have h1 := findF_any (wh := 100) hT hm
  rw [exFnd] at h1
  exact h1
theorem exMergeC {s : Sl} {hs : Nat → Sl} {w : World} (h : NListsS w s hs [exNotes.drop 3, exNotes.take 4]) (hm : MaxAt w) : Calls Tryz.prog 11 #[.slice s.a 2 s.cap] w fun e w' => (∃ s1 : Sl, e = .returned (.tuple #[.slice s1.a 7 s1.cap, .int .i64 0])) ∧ Below w.heap.size w w' := by
  have h1 := merge_any h hm
  refine h1.mono ?_
  rintro e w' ⟨⟨s1, he, -⟩, hb⟩
  exact ⟨⟨s1, by rw [he, exMrg.1, exMrg.2]⟩, hb⟩
theorem exAfterC {s : Sl} {w : World} {x a b : Int} (h : CutsS w s [⟨10, 19⟩, ⟨50, 59⟩]) (he : afterV 1000 [⟨10, 19⟩, ⟨50, 59⟩] x = (a, b)) : Calls Tryz.prog 20 #[.int .i64 1000, .slice s.a 2 s.cap, .int .i64 x] w fun e w' => e = .returned (.tuple #[.int .i64 a, .int .i64 b]) ∧ Ext2 w w' := by
  have h1 := after_any (f := 1000) (x := x) h
  rw [he] at h1
  exact h1
theorem cuts_blk {w : World} {b : Nat} (h : w.heap[b]? = some (.cells #[.int .i64 10, .int .i64 19, .int .i64 50, .int .i64 59] 79 (0, 0))) : CutsS w ⟨some ⟨b, 0, none⟩, 2⟩ [⟨10, 19⟩, ⟨50, 59⟩] := rows_blk h (by decide) (by
  intro i j hi hj
  rcases (show i = 0 ∨ i = 1 by have : i < 2 := hi; omega) with rfl | rfl <;> rcases (by omega : j = 0 ∨ j = 1) with rfl | rfl <;> rfl)
theorem ntC_drop {l : List Note} {i j k : Nat} : ntC (l.drop k) i j = ntC l (i + k) j := by
  have : ntD (l.drop k) i = ntD l (i + k) := by unfold ntD; simp [List.getD_eq_getElem?_getD, List.getElem?_drop, Nat.add_comm]
  unfold ntC; rw [this]
theorem ntC_take {l : List Note} {i j k : Nat} (h : i < k) : ntC (l.take k) i j = ntC l i j := by
  have : ntD (l.take k) i = ntD l i := by unfold ntD; simp [List.getD_eq_getElem?_getD, List.getElem?_take, h]
  unfold ntC; rw [this]
theorem ex_sizes : ∀ y ∈ exNotes, y.by_.size ≤ maxLen := fun y hy => by
  have h : ∀ y ∈ exNotes, y.by_.size ≤ 3 := by decide
  have := h y hy
  unfold maxLen; omega
theorem ex_lists {w : World} {b9 bN : Nat} (h9 : w.heap[b9]? = some (.cells #[.slice (some ⟨bN, 24, none⟩) 4 4, .slice (some ⟨bN, 0, none⟩) 4 7] 29 (0, 0))) (hN : NotesS w ⟨some ⟨bN, 0, none⟩, 7⟩ exNotes) : NListsS w ⟨some ⟨b9, 0, none⟩, 2⟩ (fun i => if i = 0 then ⟨some ⟨bN, 24, none⟩, 4⟩ else ⟨some ⟨bN, 0, none⟩, 7⟩) [exNotes.drop 3, exNotes.take 4] := by
  refine ⟨rows_blk h9 (by decide) ?_, fun i hi => ?_, fun l hl x hx => ?_⟩
  · intro i j hi hj
    obtain rfl : j = 0 := by omega
    rcases (show i = 0 ∨ i = 1 by have : i < 2 := hi; omega) with rfl | rfl <;> rfl
  · rcases (show i = 0 ∨ i = 1 by have : i < 2 := hi; omega) with rfl | rfl
    · refine ⟨by show 4 ≤ 4; decide, by show 4 ≤ 9223372036854775807; decide, fun i j hi hj => ⟨bN, 24, rfl, ?_⟩⟩
      have hi4 : i < 4 := hi
      obtain ⟨b, off, ha, hc⟩ := hN.cell (i + 3) j (by show i + 3 < 7; omega) hj
      cases ha
      rw [show 24 + i * 8 + j = 0 + (i + 3) * 8 + j by omega, hc]
      exact congrArg some ntC_drop.symm
    · refine ⟨by show 4 ≤ 7; decide, by show 7 ≤ 9223372036854775807; decide, fun i j hi hj => ⟨bN, 0, rfl, ?_⟩⟩
      have hi4 : i < 4 := hi
      obtain ⟨b, off, ha, hc⟩ := hN.cell i j (by show i < 7; omega) hj
      cases ha
      rw [hc]
      exact congrArg some (ntC_take hi4).symm
  · rcases List.mem_cons.1 hl with rfl | hl
    · exact ex_sizes x (List.mem_of_mem_drop hx)
    · rw [List.mem_singleton.1 hl] at hx
      exact ex_sizes x (List.mem_of_mem_take hx)
theorem exA_blk {w : World} {b : Nat} (h : w.heap[b]? = some (.cells #[.int .i64 50, .int .i64 1, .int .i64 0, .int .i64 75, .int .i64 150, .int .i64 2, .int .i64 28, .int .i64 28, .int .i64 500, .int .i64 2, .int .i64 172, .int .i64 172, .int .i64 900, .int .i64 2, .int .i64 5, .int .i64 10, .int .i64 1000, .int .i64 3, .int .i64 0, .int .i64 75] 49 (0, 0))) : GapsS w ⟨some ⟨b, 0, none⟩, 5⟩ exA := rows_blk h (by decide) (by
  intro i j hi hj
  rcases (show i = 0 ∨ i = 1 ∨ i = 2 ∨ i = 3 ∨ i = 4 by have : i < 5 := hi; omega) with rfl | rfl | rfl | rfl | rfl <;> rcases (by omega : j = 0 ∨ j = 1 ∨ j = 2 ∨ j = 3) with rfl | rfl | rfl | rfl <;> rfl)
theorem ex1_blk {w : World} {b : Nat} (h : w.heap[b]? = some (.cells #[.int .i64 75, .int .i64 149] 23 (0, 0))) : SpansS w ⟨some ⟨b, 0, none⟩, 1⟩ [⟨75, 149⟩] := rows_blk h (by decide) (by
  intro i j hi hj
  obtain rfl : i = 0 := by have : i < 1 := hi; omega
  rcases (by omega : j = 0 ∨ j = 1) with rfl | rfl <;> rfl)
set_option maxRecDepth 100000 in
set_option maxHeartbeats 8000000 in
theorem awake_any {w : World} (hm : MaxAt w) : Calls Tryz.prog 7 #[] w fun e w' => e = .returned (.bool true) ∧ Below w.heap.size w w' := by
  have HM := Lib.hid hm
  clear hm
  go_enter Tryz.func7, Tryz.ntmps7
  go_wp2_with (fail)
  refine (taskL_any _).mono ?_
  rintro e w0 ⟨⟨bQ, bS, bL, bN, rfl, hS⟩, hb0⟩
  have HS0 := Lib.hid hS; have HB0 := Lib.hid hb0
  clear hS hb0
  go_upto_region 2 with (fail)
  refine wp_name ?_
  intro w1 hw1
  obtain ⟨n1, hn1⟩ : ∃ n, n = w0.heap.size := ⟨_, rfl⟩
  have hE1 : Ext2 w0 w1 := by rw [hw1]; exact below_alloc' _ _
  have X1 : Hid (w1.heap[n1]? = some (Obj.cells #[.string exT.reel.name, .int .i64 exT.reel.gauge, .int .i64 exT.reel.base, .int .i64 exT.reel.frames, .int .i64 exT.reel.ylo, .int .i64 exT.reel.yhi, .int .i64 exT.reel.keep, .slice (texS bQ bS bL bN).r.m.a exT.reel.marks.length (texS bQ bS bL bN).r.m.cap, .slice (texS bQ bS bL bN).r.s.a exT.reel.syms.length (texS bQ bS bL bN).r.s.cap, .slice (texS bQ bS bL bN).r.l.a exT.reel.lens.length (texS bQ bS bL bN).r.l.cap, .int .i64 exT.whole.lo, .int .i64 exT.whole.hi, .slice (texS bQ bS bL bN).n.a exT.notes.length (texS bQ bS bL bN).n.cap] 31)) := Lib.hid (by rw [hw1, hn1]; exact blk_new _ _)
  have HS1 := Lib.hid (HS0.out.below hE1)
  have HB1 := Lib.hid (below_ext HB0.out hE1)
  have HM1 := Lib.hid (HM.out.below HB1.out)
  rw [← hn1]
  clear hw1 hn1 hE1 HS0 HB0
  have x1 := X1.out
  have q1c := cell_blk x1
  have q1f := frz_blk x1
  clear x1
  have HG := Lib.hid (exGapsC HS1.out HM1.out)
  go_wp2_with (fail)
  refine HG.out.mono ?_
  rintro e w2 ⟨⟨s1, s2, s3, rfl, hG⟩, hb2⟩
  have HG2 := Lib.hid hG; have HE2 := Lib.hid hb2
  have x1 := Ext2.blk hb2 X1.out
  have HP := Lib.hid (exPlaceC (HS1.out.below hb2) (HM1.out.below hb2) exPl1)
  clear hG hb2 q1c q1f HG
  have q1c := cell_blk x1
  have q1f := frz_blk x1
  clear x1
  go_wp2_with (fail)
  refine HP.out.mono ?_
  rintro e w3 ⟨rfl, hb3⟩
  have hb23 := ext_trans HE2.out hb3
  have HE3 := Lib.hid hb23; have HG3 := Lib.hid (RowS.below HG2.out hb3)
  clear hb3 hb23 q1c q1f HP HG2 HE2
  go_upto_region 4 with (fail)
  refine wp_name ?_
  intro w4 hw4
  obtain ⟨n6, hn6⟩ : ∃ n, n = w3.heap.size := ⟨_, rfl⟩
  have hE4 : Ext2 w3 w4 := by rw [hw4]; exact below_alloc' _ _
  have X6 : Hid (w4.heap[n6]? = some (.cells #[.int .i64 1105, .int .i64 1180] 23 (0, 0))) := Lib.hid (by rw [hw4, hn6]; exact blk_new _ _)
  have HE4 := Lib.hid (ext_trans HE3.out hE4); have HG4 := Lib.hid (RowS.below HG3.out hE4)
  rw [← hn6]
  clear hw4 hn6 hE4 HE3 HG3
  have x1 := Ext2.blk HE4.out X1.out
  obtain ⟨⟨⟨p1, p2⟩, p3⟩, hp⟩ : ∃ p, p = placeAns exT 20 := ⟨_, rfl⟩
  have hp3 : p3 = 4 := by have := exPl2; rw [← hp] at this; exact this
  subst hp3
  have HP := Lib.hid (exPlaceC (HS1.out.below HE4.out) (HM1.out.below HE4.out) hp.symm)
  clear hp
  have q1c := cell_blk x1
  have q1f := frz_blk x1
  clear x1
  go_wp2_with (fail)
  refine HP.out.mono ?_
  rintro e w5 ⟨rfl, hb5⟩
  have HE5 := Lib.hid (ext_trans HE4.out hb5); have HG5 := Lib.hid (RowS.below HG4.out hb5); have X65 := Lib.hid (Ext2.blk hb5 X6.out)
  clear hb5 q1c q1f HP HG4 HE4 X6
  go_upto_region 5 with (fail)
  refine wp_name ?_
  intro w6 hw6
  have hE6 : Ext2 w5 w6 := by rw [hw6]; exact below_alloc' _ _
  have HE6 := Lib.hid (ext_trans HE5.out hE6); have HG6 := Lib.hid (RowS.below HG5.out hE6); have X66 := Lib.hid (Ext2.blk hE6 X65.out)
  obtain ⟨n8, hn8⟩ : ∃ n, n = w5.heap.size := ⟨_, rfl⟩
  rw [← hn8]
  clear hw6 hn8 hE6 HE5 HG5 X65
  have x1 := Ext2.blk HE6.out X1.out
  have HF := Lib.hid (exFindC (HS1.out.below HE6.out) (HM1.out.below HE6.out))
  have q1c := cell_blk x1
  have q1f := frz_blk x1
  clear x1
  go_wp2_with (fail)
  refine HF.out.mono ?_
  rintro e w7 ⟨⟨sf, rfl, hF⟩, hb7⟩
  have HE7 := Lib.hid (ext_trans HE6.out hb7); have HG7 := Lib.hid (RowS.below HG6.out hb7); have X67 := Lib.hid (Ext2.blk hb7 X66.out); have HF7 := Lib.hid hF
  clear hb7 q1c q1f HF HG6 HE6 X66 hF
  have x1 := Ext2.blk HE7.out X1.out
  have X17 := Lib.hid x1
  replace x1 : w7.heap[n1]? = some (.cells #[.string exT.reel.name, .int .i64 exT.reel.gauge, .int .i64 exT.reel.base, .int .i64 exT.reel.frames, .int .i64 exT.reel.ylo, .int .i64 exT.reel.yhi, .int .i64 exT.reel.keep, .slice (texS bQ bS bL bN).r.m.a exT.reel.marks.length (texS bQ bS bL bN).r.m.cap, .slice (texS bQ bS bL bN).r.s.a exT.reel.syms.length (texS bQ bS bL bN).r.s.cap, .slice (texS bQ bS bL bN).r.l.a exT.reel.lens.length (texS bQ bS bL bN).r.l.cap, .int .i64 exT.whole.lo, .int .i64 exT.whole.hi, .slice (some ⟨bN, 0, none⟩) 7 7] 31 (0, 0)) := x1
  have q1c := cell_blk x1
  have q1f := frz_blk x1
  clear x1
  go_upto_region 6 with (fail)
  refine region_st [⟨[], [0, 1, 2, 3, 4, 5], [6, 7]⟩, ⟨[], [8, 9, 10, 11, 12], []⟩] (by kernel_rfl) (by kernel_rfl) (by intro c a d v w h; cases d <;> exact h) ?_
  refine wpSt_cons ?_
  simp only [picks, List.drop_succ_cons, List.drop_zero]
  repeat ((with_reducible refine wpQ0_step (fun K hK => ?_)); go_simp; ((with_reducible refine hK _ ?_); clear hK K))
  refine wpQ0_nil ?_
  repeat ((with_reducible refine wpQ2_step (fun K hK => ?_)); go_simp; first | ((with_reducible refine hK _ ?_); clear hK K) | (apply Exists.intro; refine ⟨fun x => ?_, hK _ ?_⟩; (fail); clear hK K))
  refine wpQ2_nil ?_
  intro w8 hw8
  refine wpTl_cons ?_
  go_wp2_with (fail)
  refine wpTl_cons ?_
  go_wp2_with (fail)
  refine calls_name ?_
  intro w9 hw9
  have hE8 : Ext2 w7 w8 := hw8
  have hE9' : Ext2 w8 w9 := by rw [hw9]; exact below_alloc' _ _
  have hE9 := ext_trans hE8 hE9'
  obtain ⟨b9, hb9⟩ : ∃ n, n = w8.heap.size := ⟨_, rfl⟩
  have y9 : w9.heap[b9]? = some (.cells #[.slice (some ⟨bN, 24, none⟩) 4 4, .slice (some ⟨bN, 0, none⟩) 4 7] 29 (0, 0)) := by rw [hw9, hb9]; exact blk_new _ _
  have HE9 := Lib.hid (ext_trans HE7.out hE9)
  have HG9 := Lib.hid (RowS.below HG7.out hE9); have X69 := Lib.hid (Ext2.blk hE9 X67.out); have HF9 := Lib.hid (RowS.below HF7.out hE9)
  have HMG := Lib.hid (exMergeC (ex_lists y9 (HS1.out.below HE9.out).nt) (HM1.out.below HE9.out))
  rw [← hb9]
  clear hE8 hE9' hE9 hw8 hw9 hb9 y9 q1c q1f X17 X67 HE7 HG7 HF7
  refine HMG.out.mono ?_
  rintro e w10 ⟨⟨sm, rfl⟩, hb10⟩
  have HE10 := Lib.hid (ext_trans HE9.out hb10)
  have HG10 := Lib.hid (RowS.below HG9.out hb10); have X610 := Lib.hid (Ext2.blk hb10 X69.out); have HF10 := Lib.hid (RowS.below HF9.out hb10)
  clear hb10 HMG HE9 HG9 X69 HF9
  go_wp2_with (fail)
  refine wpTl_nil ?_
  refine wpSt_name ?_
  intro w11 hw11
  refine wpSt_cons ?_
  simp only [picks, List.drop_succ_cons, List.drop_zero]
  repeat ((with_reducible refine wpQ0_step (fun K hK => ?_)); go_simp; ((with_reducible refine hK _ ?_); clear hK K))
  refine wpQ0_nil ?_
  repeat ((with_reducible refine wpQ2_step (fun K hK => ?_)); go_simp; first | ((with_reducible refine hK _ ?_); clear hK K) | (apply Exists.intro; refine ⟨fun x => ?_, hK _ ?_⟩; (fail); clear hK K))
  refine wpQ2_nil ?_
  intro w12 hw12
  refine wpTl_nil ?_
  refine wpSt_nil ?_
  subst hw11
  have HE12 := Lib.hid (ext_trans HE10.out hw12)
  have HG12 := Lib.hid (RowS.below HG10.out hw12); have X612 := Lib.hid (Ext2.blk hw12 X610.out); have HF12 := Lib.hid (RowS.below HF10.out hw12)
  clear hw12 HE10 HG10 X610 HF10
  go_wp2_with (fail)
  refine calls_name ?_
  intro w13 hw13
  obtain ⟨b13, hb13⟩ : ∃ n, n = w12.heap.size := ⟨_, rfl⟩
  have y13 : w13.heap[b13]? = some (.cells #[.int .i64 10, .int .i64 19, .int .i64 50, .int .i64 59] 79 (0, 0)) := by rw [hw13, hb13]; exact blk_new _ _
  have hE13 : Ext2 w12 w13 := by rw [hw13]; exact below_alloc' _ _
  have HE13 := Lib.hid (ext_trans HE12.out hE13)
  have HG13 := Lib.hid (RowS.below HG12.out hE13); have X613 := Lib.hid (Ext2.blk hE13 X612.out); have HF13 := Lib.hid (RowS.below HF12.out hE13)
  have HAF := Lib.hid (exAfterC (cuts_blk y13) exAft)
  rw [← hb13]
  clear hw13 hb13 hE13 y13 HE12 HG12 X612 HF12
  refine HAF.out.mono ?_
  rintro e w14 ⟨rfl, hb14⟩
  have HE14 := Lib.hid (ext_trans HE13.out hb14)
  have HG14 := Lib.hid (RowS.below HG13.out hb14); have X614 := Lib.hid (Ext2.blk hb14 X613.out); have HF14 := Lib.hid (RowS.below HF13.out hb14)
  clear hb14 HAF HE13 HG13 X613 HF13
  have HGA := Lib.hid fun f k lo hi W => gapL_any f k lo hi W
  have HSP := Lib.hid fun lo hi W => spanL_any lo hi W
  go_upto_region 8 with (fail)
  refine region_st [⟨[], [0, 1, 2, 3, 4, 5, 6, 7, 8, 9, 10, 11, 12, 13, 14, 15, 16, 17, 18, 19, 20, 21, 22, 23, 24, 25, 26, 27, 28, 29, 30, 31, 32], []⟩, ⟨[33], [34, 35, 36, 37, 38], [39]⟩, ⟨[], [40, 41, 42, 43, 44, 45, 46, 47], []⟩, ⟨[48], [49], [50]⟩, ⟨[], [51, 52, 53, 54, 55, 56, 57, 58, 59, 60, 61, 62], []⟩] (by kernel_rfl) (by kernel_rfl) (by intro c a d v w h; cases d <;> exact h) ?_
  refine wpSt_cons ?_
  simp only [picks, List.drop_succ_cons, List.drop_zero]
  repeat ((with_reducible refine wpQ0_step (fun K hK => ?_)); go_simp; ((with_reducible refine hK _ ?_); clear hK K))
  refine wpQ0_nil ?_
  repeat ((with_reducible refine wpQ2_step (fun K hK => ?_)); go_simp; first | ((with_reducible refine hK _ ?_); clear hK K) | (apply Exists.intro; refine ⟨fun x => ?_, hK _ ?_⟩; (fail); clear hK K) | (refine ite_undef (fun h => (by have h_ : (none : Option Bool) = some _ := h; cases h_)) ?_; (with_reducible refine hK _ ?_); clear hK K))
  (with_reducible refine wpQ2_nil ?_)
  intro w15 hw15
  refine wpTl_nil ?_
  refine wpSt_name ?_
  intro w16 hw16
  subst hw16
  have HE15 := Lib.hid (ext_trans HE14.out hw15); have HW15 := Lib.hid hw15
  have HG15 := Lib.hid (RowS.below HG14.out hw15); have X615 := Lib.hid (Ext2.blk hw15 X614.out); have HF15 := Lib.hid (RowS.below HF14.out hw15)
  clear hw15 HE14 HG14 X614 HF14
  refine wpSt_cons ?_
  simp only [picks, List.drop_succ_cons, List.drop_zero]
  repeat ((with_reducible refine wpQ0_step (fun K hK => ?_)); go_simp; ((with_reducible refine hK _ ?_); clear hK K))
  refine wpQ0_nil ?_
  repeat ((with_reducible refine wpQ2_step (fun K hK => ?_)); go_simp; first | ((with_reducible refine hK _ ?_); clear hK K) | (apply Exists.intro; refine ⟨fun x => ?_, hK _ ?_⟩; ((with_reducible exact HGA.out _ _ _ _ x.1)); clear hK K) | (refine ite_undef (fun h => (by have h_ : (none : Option Bool) = some _ := h; cases h_)) ?_; (with_reducible refine hK _ ?_); clear hK K))
  (with_reducible refine wpQ2_nil ?_)
  intro w17 hw17
  refine wpTl_cons ?_
  go_wp2_with (fail)
  refine wpTl_nil ?_
  refine wpSt_name ?_
  intro w18 hw18
  obtain ⟨b18, hb18⟩ : ∃ n, n = w17.heap.size := ⟨_, rfl⟩
  have y18 : w18.heap[b18]? = some (.cells #[.int .i64 50, .int .i64 1, .int .i64 0, .int .i64 75, .int .i64 150, .int .i64 2, .int .i64 28, .int .i64 28, .int .i64 500, .int .i64 2, .int .i64 172, .int .i64 172, .int .i64 900, .int .i64 2, .int .i64 5, .int .i64 10, .int .i64 1000, .int .i64 3, .int .i64 0, .int .i64 75] 49 (0, 0)) := by rw [hw18, hb18]; exact blk_new _ _
  have hE17 : Ext2 w14 w17 := ext_trans HW15.out hw17
  have hE18 : Ext2 w14 w18 := by rw [hw18]; exact ext_trans hE17 (below_alloc' _ _)
  have hE18' : Ext2 w16 w18 := by rw [hw18]; exact ext_trans hw17 (below_alloc' _ _)
  have HE18 := Lib.hid (ext_trans HE15.out hE18')
  have HSG : Hid (∀ W, Ext2 w18 W → Calls Tryz.prog 12 #[.slice s1.a 5 s1.cap, .slice (some ⟨b18, 0, none⟩) 5 5] W fun e w' => e = .returned (.bool true) ∧ Below W.heap.size W w') := Lib.hid fun W hW => by
    have h := sameGp_any (RowS.below HG15.out (ext_trans hE18' hW)) (exA_blk (hW.blk y18))
    rw [decide_eq_true rfl] at h
    exact h
  have x6 := Ext2.blk hE18' X615.out
  have HF18 := Lib.hid (RowS.below HF15.out hE18')
  rw [← hb18]
  clear hw18 hb18 y18 hE17 hE18 hE18' hw17 HW15 HE15 HG15 X615 HF15
  have q6c := cell_blk x6
  have q6f := frz_blk x6
  clear x6
  refine wpSt_cons ?_
  simp only [picks, List.drop_succ_cons, List.drop_zero]
  repeat ((with_reducible refine wpQ0_step (fun K hK => ?_)); go_simp; ((with_reducible refine hK _ ?_); clear hK K))
  refine wpQ0_nil ?_
  repeat ((with_reducible refine wpQ2_step (fun K hK => ?_)); go_simp; first | ((with_reducible refine hK _ ?_); clear hK K) | (apply Exists.intro; refine ⟨fun x => ?_, hK _ ?_⟩; ((first | (with_reducible exact HSG.out x.1 x.2) | (with_reducible exact HSP.out _ _ x.1))); clear hK K) | (refine ite_undef (fun h => (by have h_ : (none : Option Bool) = some _ := h; cases h_)) ?_; (with_reducible refine hK _ ?_); clear hK K))
  (with_reducible refine wpQ2_nil ?_)
  intro w19 hw19
  refine wpTl_nil ?_
  refine wpSt_name ?_
  intro w20 hw20
  subst hw20
  have HE19 := Lib.hid (ext_trans HE18.out hw19); have HF19 := Lib.hid (RowS.below HF18.out hw19)
  clear hw19 HE18 HF18 q6c q6f HSG
  refine wpSt_cons ?_
  simp only [picks, List.drop_succ_cons, List.drop_zero]
  repeat ((with_reducible refine wpQ0_step (fun K hK => ?_)); go_simp; ((with_reducible refine hK _ ?_); clear hK K))
  refine wpQ0_nil ?_
  repeat ((with_reducible refine wpQ2_step (fun K hK => ?_)); go_simp; first | ((with_reducible refine hK _ ?_); clear hK K) | (apply Exists.intro; refine ⟨fun x => ?_, hK _ ?_⟩; ((with_reducible exact HSP.out _ _ x.1)); clear hK K) | (refine ite_undef (fun h => (by have h_ : (none : Option Bool) = some _ := h; cases h_)) ?_; (with_reducible refine hK _ ?_); clear hK K))
  (with_reducible refine wpQ2_nil ?_)
  intro w21 hw21
  refine wpTl_cons ?_
  go_wp2_with (fail)
  refine wpTl_nil ?_
  refine wpSt_name ?_
  intro w22 hw22
  obtain ⟨b22, hb22⟩ : ∃ n, n = w21.heap.size := ⟨_, rfl⟩
  have y22 : w22.heap[b22]? = some (.cells #[.int .i64 75, .int .i64 149] 23 (0, 0)) := by rw [hw22, hb22]; exact blk_new _ _
  have hE22 : Ext2 w20 w22 := by rw [hw22]; exact ext_trans hw21 (below_alloc' _ _)
  have HE22 := Lib.hid (ext_trans HE19.out hE22)
  have HSS : Hid (∀ W, Ext2 w22 W → Calls Tryz.prog 23 #[.slice sf.a 1 sf.cap, .slice (some ⟨b22, 0, none⟩) 1 1] W fun e w' => e = .returned (.bool true) ∧ Below W.heap.size W w') := Lib.hid fun W hW => by
    have h := sameSp_any (RowS.below HF19.out (ext_trans hE22 hW)) (ex1_blk (hW.blk y22))
    rw [decide_eq_true rfl] at h
    exact h
  rw [← hb22]
  clear hw22 hb22 y22 hE22 hw21 HE19 HF19
  refine wpSt_cons ?_
  simp only [picks, List.drop_succ_cons, List.drop_zero]
  repeat ((with_reducible refine wpQ0_step (fun K hK => ?_)); go_simp; ((with_reducible refine hK _ ?_); clear hK K))
  refine wpQ0_nil ?_
  repeat ((with_reducible refine wpQ2_step (fun K hK => ?_)); go_simp; first | ((with_reducible refine hK _ ?_); clear hK K) | (apply Exists.intro; refine ⟨fun x => ?_, hK _ ?_⟩; ((with_reducible exact HSS.out x.1 x.2)); clear hK K) | (refine ite_undef (fun h => (by have h_ : (none : Option Bool) = some _ := h; cases h_)) ?_; (with_reducible refine hK _ ?_); clear hK K))
  (with_reducible refine wpQ2_nil ?_)
  intro w23 hw23
  refine wpTl_nil ?_
  refine wpSt_nil ?_
  go_wp2_with (fail)
  go_ret
  exact ⟨rfl, ext_trans (below_ext HB1.out HE22.out) hw23⟩
end Go.Proofs.YtapeakbngligaaaGreatDoor
