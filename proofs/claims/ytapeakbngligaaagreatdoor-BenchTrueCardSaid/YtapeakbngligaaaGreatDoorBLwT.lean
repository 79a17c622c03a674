/-
  The law's examples: span, Reel, Task, gap.
-/
import Derived.Test.YtapeakbngligaaaGreatDoorBView
import Derived.Test.YtapeakbngligaaaGreatDoorBExP
import Derived.Test.YtapeakbngligaaaGreatDoorBReg
import Derived.Test.YtapeakbngligaaaGreatDoorBCut
namespace Go.Proofs.YtapeakbngligaaaGreatDoor
open Go.RowKit D
set_option linter.unusedVariables false
set_option linter.unusedSimpArgs false
attribute [local go_sem high] run_minI run_maxI
attribute [local go_sem] upon2 cls_cell cls_frozen forall_const exists_eq_left'
attribute [local go_sem] FirstUpon atBlk_cell
theorem rows_blk {w : World} {b sz n : Nat} {cs : Array Value} {t : TypeId} {c : Nat → Nat → Value} (h : w.heap[b]? = some (.cells cs t (0, 0))) (hn : n ≤ 9223372036854775807) (hc : ∀ i j, i < n → j < sz → cs[i * sz + j]? = some (c i j)) : RowS w ⟨some ⟨b, 0, none⟩, n⟩ sz n c :=
  ⟨Nat.le_refl _, hn, fun i j hi hj => ⟨b, 0, rfl, by rw [Nat.zero_add, cell_blk h]; exact hc i j hi hj⟩⟩
theorem bp_name {P : Program} {fn : Func} {R : Ending → World → Prop} {e : Exit} {a : Act} {w : World} (h : ∀ w0, w0 = w → bodyPost P fn R e a w0) : bodyPost P fn R e a w := h w rfl
set_option maxRecDepth 100000 in
set_option maxHeartbeats 2000000 in
theorem spanL_any (lo hi : Int) (w : World) : Calls Tryz.prog 22 #[.int .i64 lo, .int .i64 hi] w fun e w' => e = .returned (.agg #[.int .i64 lo, .int .i64 hi]) ∧ Below w.heap.size w w' := by
  go_enter Tryz.func22, Tryz.ntmps22
  go_wp2_with (fail)
  have k0 : (w.alloc (.cells #[.int .i64 lo, .int .i64 hi] 23 (0, 0))).heap[w.heap.size]? = some (.cells #[.int .i64 lo, .int .i64 hi] 23 (0, 0)) := blk_new _ _
  refine bodyPost_ret (v := .agg #[.int .i64 lo, .int .i64 hi]) ?_ rfl ⟨rfl, below_alloc' _ _⟩
  have zc := cell_blk k0
  have zf := frz_blk k0
  simp [results, Tryz.results22, go_sem, zc]
set_option maxRecDepth 100000 in
set_option maxHeartbeats 2000000 in
theorem spanL1_any (lo hi : Int) (w : World) : Calls Tryz.prog 60 #[.int .i64 lo, .int .i64 hi] w fun e w' => e = .returned (.agg #[.int .i64 lo, .int .i64 hi]) ∧ Below w.heap.size w w' := by
  go_enter Tryz.func60, Tryz.ntmps60
  go_wp2_with (fail)
  have k0 : (w.alloc (.cells #[.int .i64 lo, .int .i64 hi] 23 (0, 0))).heap[w.heap.size]? = some (.cells #[.int .i64 lo, .int .i64 hi] 23 (0, 0)) := blk_new _ _
  refine bodyPost_ret (v := .agg #[.int .i64 lo, .int .i64 hi]) ?_ rfl ⟨rfl, below_alloc' _ _⟩
  have zc := cell_blk k0
  have zf := frz_blk k0
  simp [results, Tryz.results60, go_sem, zc]
set_option maxRecDepth 100000 in
set_option maxHeartbeats 2000000 in
theorem gapL_any (f k lo hi : Int) (w : World) : Calls Tryz.prog 21 #[.int .i64 f, .int .i64 k, .int .i64 lo, .int .i64 hi] w fun e w' => e = .returned (.agg #[.int .i64 f, .int .i64 k, .int .i64 lo, .int .i64 hi]) ∧ Below w.heap.size w w' := by
  go_enter Tryz.func21, Tryz.ntmps21
  go_wp2_with (fail)
  refine calls_name ?_
  intro w3 hw3
  obtain ⟨n3, hn3⟩ : ∃ n, n = w.heap.size := ⟨_, rfl⟩
  have x3 : w3.heap[n3]? = some (.cells #[.int .i64 0, .int .i64 0, .int .i64 0, .int .i64 0] 49 (0, 0)) := by rw [hw3, hn3]; exact blk_new _ _
  have hE3 : Ext2 w w3 := by rw [hw3]; exact below_alloc' _ _
  rw [← hn3]
  have HE3 := Lib.hid hE3; have X3 := Lib.hid x3
  have lw : w.heap.size ≤ n3 := by omega
  clear hw3 hn3 hE3 x3
  refine (spanL_any _ _ _).mono ?_
  rintro e w4 ⟨rfl, hE4⟩
  have x3 := Ext2.blk hE4 X3.out
  have HE4 := Lib.hid (ext_trans HE3.out hE4)
  clear hE4
  have q3c := cell_blk x3
  have q3f := frz_blk x3
  go_wp2_with (fail)
  have r1 : ((((w4.setCell ⟨n3, 0, none⟩ (.int .i64 f)).setCell ⟨n3, 1, none⟩ (.int .i64 k)).setCell ⟨n3, 2, none⟩ (.int .i64 lo)).setCell ⟨n3, 3, none⟩ (.int .i64 hi)).heap[n3]? = some (.cells #[.int .i64 f, .int .i64 k, .int .i64 lo, .int .i64 hi] 49 (0, 0)) := Eq.trans (blk_set (blk_set (blk_set (blk_set x3 _ _) _ _) _ _) _ _) rfl
  refine bodyPost_ret (v := .agg #[.int .i64 f, .int .i64 k, .int .i64 lo, .int .i64 hi]) ?_ rfl ⟨rfl, below_set (below_set (below_set (below_set HE4.out lw) lw) lw) lw⟩
  have zc := cell_blk r1
  have zf := frz_blk r1
  simp [results, Tryz.results21, go_sem, zc]
def exSym : Obj := .cells #[.int .i64 4, .int .i64 12, .int .i64 7, .int .i64 10] 103 (0, 0)
def exLen : Obj := .cells #[.int .i64 100, .int .i64 1891000, .int .i64 1000, .int .i64 200, .int .i64 3780000, .int .i64 2500] 105 (0, 0)
def exMk : Obj := .cells #[.int .i64 100, .int .i64 4, .int .i64 10, .int .i64 200, .int .i64 4, .int .i64 18, .int .i64 700, .int .i64 4, .int .i64 60] 68 (0, 0)
set_option maxRecDepth 100000 in
set_option maxHeartbeats 8000000 in
theorem reelL_any (w : World) : Calls Tryz.prog 39 #[] w fun e w' => (∃ bM bS bL : Nat, e = .returned (.agg #[.string ⟨#[110, 97, 110, 97, 45, 50]⟩, .int .i64 35, .int .i64 1, .int .i64 1000, .int .i64 1925, .int .i64 1940, .int .i64 3, .slice (some ⟨bM, 0, none⟩) 5 5, .slice (some ⟨bS, 0, none⟩) 2 2, .slice (some ⟨bL, 0, none⟩) 2 2]) ∧ w'.heap[bS]? = some exSym ∧ w'.heap[bL]? = some exLen) ∧ Below w.heap.size w w' := by
  go_enter Tryz.func39, Tryz.ntmps39
  go_wp2_with (fail)
  refine calls_name ?_
  intro w3 hw3
  obtain ⟨n3, hn3⟩ : ∃ n, n = w.heap.size := ⟨_, rfl⟩
  have x3 : w3.heap[n3]? = some (.cells #[.string ByteArray.empty, .int .i64 0, .int .i64 0, .int .i64 0, .int .i64 0, .int .i64 0, .int .i64 0, .slice none 0 0, .slice none 0 0, .slice none 0 0] 28 (0, 0)) := by rw [hw3, hn3]; exact blk_new _ _
  have hE3 : Ext2 w w3 := by rw [hw3]; exact below_alloc' _ _
  rw [← hn3]
  have HE3 := Lib.hid hE3; have X3 := Lib.hid x3
  have lw : w.heap.size ≤ n3 := by omega
  clear hw3 hn3 hE3 x3
  refine (spanL1_any _ _ _).mono ?_
  rintro e w4 ⟨rfl, hE4⟩
  have x3 := Ext2.blk hE4 X3.out
  have lx3 := blk_lt x3
  have HE4 := Lib.hid (ext_trans HE3.out hE4)
  clear hE4
  have q3c := cell_blk x3
  have q3f := frz_blk x3
  have l1 : ¬ n3 = w4.heap.size := by omega
  have l2 : ¬ n3 = w4.heap.size + 1 := by omega
  have l3 : ¬ n3 = w4.heap.size + 1 + 1 := by omega
  have l4 : n3 < w4.heap.size + 1 := by omega
  have l5 : n3 < w4.heap.size + 1 + 1 := by omega
  have l6 : n3 < w4.heap.size + 1 + 1 + 1 := by omega
  go_wp2_with (fail)
  refine bp_name ?_
  intro w5 hw5
  obtain ⟨bM, hbM⟩ : ∃ n, n = w4.heap.size := ⟨_, rfl⟩
  obtain ⟨bS, hbS⟩ : ∃ n, n = w4.heap.size + 1 := ⟨_, rfl⟩
  obtain ⟨bL, hbL⟩ : ∃ n, n = w4.heap.size + 1 + 1 := ⟨_, rfl⟩
  have kS : w5.heap[bS]? = some exSym := by rw [hw5, hbS]; exact blk_alloc (blk_new' _ _ (by simp)) _
  have kL : w5.heap[bL]? = some exLen := by rw [hw5, hbL]; exact blk_new' _ _ (by simp)
  have k0 : w5.heap[n3]? = some (.cells #[.string ⟨#[110, 97, 110, 97, 45, 50]⟩, .int .i64 35, .int .i64 1, .int .i64 1000, .int .i64 1925, .int .i64 1940, .int .i64 3, .slice (some ⟨bM, 0, none⟩) 5 5, .slice (some ⟨bS, 0, none⟩) 2 2, .slice (some ⟨bL, 0, none⟩) 2 2] 28 (0, 0)) := by
    rw [hw5, hbM, hbS, hbL]
    refine blk_alloc (blk_alloc (blk_alloc ?_ _) _) _
    exact Eq.trans (blk_set (blk_set (blk_set (blk_set (blk_set (blk_set (blk_set (blk_set (blk_set (blk_set x3 _ _) _ _) _ _) _ _) _ _) _ _) _ _) _ _) _ _) _ _) rfl
  have hB : Below w.heap.size w w5 := by
    rw [hw5]
    exact ext_trans (below_set (below_set (below_set (below_set (below_set (below_set (below_set (below_set (below_set (below_set (HE4.out) lw) lw) lw) lw) lw) lw) lw) lw) lw) lw) (ext_trans (below_alloc' _ _) (ext_trans (below_alloc' _ _) (below_alloc' _ _)))
  rw [← hbL, ← hbS, ← hbM]
  clear hw5 hbM hbS hbL
  refine bodyPost_ret (v := .agg #[.string ⟨#[110, 97, 110, 97, 45, 50]⟩, .int .i64 35, .int .i64 1, .int .i64 1000, .int .i64 1925, .int .i64 1940, .int .i64 3, .slice (some ⟨bM, 0, none⟩) 5 5, .slice (some ⟨bS, 0, none⟩) 2 2, .slice (some ⟨bL, 0, none⟩) 2 2]) ?_ rfl ⟨⟨bM, bS, bL, rfl, kS, kL⟩, hB⟩
  have zc := cell_blk k0
  have zf := frz_blk k0
  simp [results, Tryz.results39, go_sem, zc]
def texS (bQ bS bL bq : Nat) : TSl := ⟨⟨⟨some ⟨bQ, 0, none⟩, 3⟩, ⟨some ⟨bS, 0, none⟩, 2⟩, ⟨some ⟨bL, 0, none⟩, 2⟩⟩, ⟨some ⟨bq, 0, none⟩, 7⟩⟩
def TskOut (w : World) (e : Ending) (w' : World) : Prop := (∃ bQ bS bL bq : Nat, e = .returned (.agg #[.string exT.reel.name, .int .i64 exT.reel.gauge, .int .i64 exT.reel.base, .int .i64 exT.reel.frames, .int .i64 exT.reel.ylo, .int .i64 exT.reel.yhi, .int .i64 exT.reel.keep, .slice (texS bQ bS bL bq).r.m.a exT.reel.marks.length (texS bQ bS bL bq).r.m.cap, .slice (texS bQ bS bL bq).r.s.a exT.reel.syms.length (texS bQ bS bL bq).r.s.cap, .slice (texS bQ bS bL bq).r.l.a exT.reel.lens.length (texS bQ bS bL bq).r.l.cap, .int .i64 exT.whole.lo, .int .i64 exT.whole.hi, .slice (texS bQ bS bL bq).n.a exT.notes.length (texS bQ bS bL bq).n.cap]) ∧ TaskAt w' exT (texS bQ bS bL bq)) ∧ Below w.heap.size w w'
theorem ex_at {w : World} {bM bS bL bN : Nat} (hM : w.heap[bM]? = some exMk) (hS : w.heap[bS]? = some exSym) (hL : w.heap[bL]? = some exLen) (hN : w.heap[bN]? = some (.cells #[.string ⟨#[97, 100, 97]⟩, .int .i64 1, .int .i64 0, .int .i64 3, .int .i64 0, .int .i64 49, .int .i64 0, .int .i64 0, .string ⟨#[97, 100, 97]⟩, .int .i64 2, .int .i64 0, .int .i64 1, .int .i64 150, .int .i64 150, .int .i64 20, .int .i64 40, .string ⟨#[97, 100, 97]⟩, .int .i64 3, .int .i64 0, .int .i64 1, .int .i64 500, .int .i64 500, .int .i64 0, .int .i64 300, .string ⟨#[97, 100, 97]⟩, .int .i64 4, .int .i64 0, .int .i64 2, .int .i64 520, .int .i64 525, .int .i64 0, .int .i64 0, .string ⟨#[98, 101, 110]⟩, .int .i64 1, .int .i64 0, .int .i64 1, .int .i64 150, .int .i64 150, .int .i64 28, .int .i64 60, .string ⟨#[98, 101, 110]⟩, .int .i64 2, .int .i64 0, .int .i64 2, .int .i64 524, .int .i64 530, .int .i64 0, .int .i64 0, .string ⟨#[98, 101, 110]⟩, .int .i64 3, .int .i64 0, .int .i64 1, .int .i64 900, .int .i64 900, .int .i64 5, .int .i64 10] 58 (0, 0))) : TaskAt w exT ⟨⟨⟨some ⟨bM, 0, none⟩, 3⟩, ⟨some ⟨bS, 0, none⟩, 2⟩, ⟨some ⟨bL, 0, none⟩, 2⟩⟩, ⟨some ⟨bN, 0, none⟩, 7⟩⟩ := by
  refine ⟨⟨rows_blk hM (by decide) ?_, rows_blk hS (by decide) ?_, rows_blk hL (by decide) ?_, by decide⟩, rows_blk hN (by decide) ?_, ?_⟩
  · intro i j hi hj
    rcases (show i = 0 ∨ i = 1 ∨ i = 2 by have : i < 3 := hi; omega) with rfl | rfl | rfl <;> rcases (by omega : j = 0 ∨ j = 1 ∨ j = 2) with rfl | rfl | rfl <;> rfl
  · intro i j hi hj
    rcases (show i = 0 ∨ i = 1 by have : i < 2 := hi; omega) with rfl | rfl <;> rcases (by omega : j = 0 ∨ j = 1) with rfl | rfl <;> rfl
  · intro i j hi hj
    rcases (show i = 0 ∨ i = 1 by have : i < 2 := hi; omega) with rfl | rfl <;> rcases (by omega : j = 0 ∨ j = 1 ∨ j = 2) with rfl | rfl | rfl <;> rfl
  · intro i j hi hj
    rcases (show i = 0 ∨ i = 1 ∨ i = 2 ∨ i = 3 ∨ i = 4 ∨ i = 5 ∨ i = 6 by have : i < 7 := hi; omega) with rfl | rfl | rfl | rfl | rfl | rfl | rfl <;> rcases (by omega : j = 0 ∨ j = 1 ∨ j = 2 ∨ j = 3 ∨ j = 4 ∨ j = 5 ∨ j = 6 ∨ j = 7) with rfl | rfl | rfl | rfl | rfl | rfl | rfl | rfl <;> rfl
  · intro x hx
    have : ∀ y ∈ exNotes, y.by_.size ≤ 3 := by decide
    have h := this x hx
    unfold maxLen; omega
set_option maxRecDepth 100000 in
set_option maxHeartbeats 8000000 in
theorem taskL_any (w : World) : Calls Tryz.prog 18 #[] w (TskOut w) := by
  have HSP := Lib.hid fun lo hi W => spanL_any lo hi W
  go_enter Tryz.func18, Tryz.ntmps18
  go_wp2_with (fail)
  refine calls_name ?_
  intro w3 hw3
  obtain ⟨n3, hn3⟩ : ∃ n, n = w.heap.size := ⟨_, rfl⟩
  have x3 : w3.heap[n3]? = some (.cells #[.string ByteArray.empty, .int .i64 0, .int .i64 0, .int .i64 0, .int .i64 0, .int .i64 0, .int .i64 0, .slice none 0 0, .slice none 0 0, .slice none 0 0, .int .i64 0, .int .i64 0, .slice none 0 0] 31 (0, 0)) := by rw [hw3, hn3]; exact blk_new _ _
  have hE3 : Ext2 w w3 := by rw [hw3]; exact below_alloc' _ _
  rw [← hn3]
  have HE3 := Lib.hid hE3; have X3 := Lib.hid x3
  have lw : w.heap.size ≤ n3 := by omega
  clear hw3 hn3 hE3 x3
  refine (reelL_any _).mono ?_
  rintro e w4 ⟨⟨bM, bS, bL, rfl, hS, hL⟩, hE4⟩
  have x3 := Ext2.blk hE4 X3.out
  have HE4 := Lib.hid (ext_trans HE3.out hE4)
  have lx3 := blk_lt x3
  have HS := Lib.hid hS; have HL := Lib.hid hL; have X34 := Lib.hid x3
  clear hE4 hS hL x3
  go_upto_region 3 with (fail)
  refine wp_name ?_
  intro w5 hw5
  obtain ⟨n1, hn1⟩ : ∃ n, n = w4.heap.size := ⟨_, rfl⟩
  obtain ⟨bQ, hbQ⟩ : ∃ n, n = w4.heap.size + 1 := ⟨_, rfl⟩
  have xQ : w5.heap[bQ]? = some exMk := by rw [hw5, hbQ]; exact blk_new' _ _ (by simp)
  have x1 : w5.heap[n1]? = some (.cells #[.string ⟨#[110, 97, 110, 97, 45, 50]⟩, .int .i64 35, .int .i64 1, .int .i64 1000, .int .i64 1925, .int .i64 1940, .int .i64 3, .slice (some ⟨bQ, 0, none⟩) 3 3, .slice (some ⟨bS, 0, none⟩) 2 2, .slice (some ⟨bL, 0, none⟩) 2 2] 28 (0, 0)) := by rw [hw5, hbQ, hn1]; exact blk_alloc (blk_new _ _) _
  have hE5 : Ext2 w4 w5 := by rw [hw5]; exact ext_trans (below_alloc' _ _) (below_alloc' _ _)
  have l31 : n3 < n1 := by omega
  have HE5 := Lib.hid (ext_trans HE4.out hE5)
  have HS5 := Lib.hid (hE5.blk HS.out); have HL5 := Lib.hid (hE5.blk HL.out); have HQ5 := Lib.hid xQ; have X35 := Lib.hid (hE5.blk X34.out)
  rw [← hn1]
  clear hw5 hn1 hbQ hE5 xQ lx3
  have q1c := cell_blk x1
  have q1f := frz_blk x1
  clear x1
  refine region_ev [] [0, 1, 2, 3, 4, 5, 6, 7, 8, 9, 10, 11, 12] [(13, 21, none)] [14, 15] (by kernel_rfl) (by kernel_rfl) (by intro c a d v w h; cases d <;> exact h) ?_
  simp only [picks, List.drop_succ_cons, List.drop_zero]
  repeat (refine wpQ0_step (fun K hK => ?_); go_simp; (refine hK _ ?_; clear hK K))
  refine wpQ0_nil ?_
  repeat ((with_reducible refine wpQ2_step (fun K hK => ?_)); go_simp; first | ((with_reducible refine hK _ ?_); clear hK K) | (apply Exists.intro; refine ⟨fun x => ?_, hK _ ?_⟩; ((with_reducible exact HSP.out _ _ x.1)); clear hK K))
  refine wpQ2_nil ?_
  refine Events.lay1 (fun b => .slice (some ⟨b, 0, none⟩) 7 7) (Obj.cells #[.string ⟨#[97, 100, 97]⟩, .int .i64 1, .int .i64 0, .int .i64 3, .int .i64 0, .int .i64 49, .int .i64 0, .int .i64 0, .string ⟨#[97, 100, 97]⟩, .int .i64 2, .int .i64 0, .int .i64 1, .int .i64 150, .int .i64 150, .int .i64 20, .int .i64 40, .string ⟨#[97, 100, 97]⟩, .int .i64 3, .int .i64 0, .int .i64 1, .int .i64 500, .int .i64 500, .int .i64 0, .int .i64 300, .string ⟨#[97, 100, 97]⟩, .int .i64 4, .int .i64 0, .int .i64 2, .int .i64 520, .int .i64 525, .int .i64 0, .int .i64 0, .string ⟨#[98, 101, 110]⟩, .int .i64 1, .int .i64 0, .int .i64 1, .int .i64 150, .int .i64 150, .int .i64 28, .int .i64 60, .string ⟨#[98, 101, 110]⟩, .int .i64 2, .int .i64 0, .int .i64 2, .int .i64 524, .int .i64 530, .int .i64 0, .int .i64 0, .string ⟨#[98, 101, 110]⟩, .int .i64 3, .int .i64 0, .int .i64 1, .int .i64 900, .int .i64 900, .int .i64 5, .int .i64 10] 58 (0, 0)) ⟨_, rfl, rfl, rfl, fun W => by kernel_rfl⟩ fun bq wx hbq hgx nbq => ?_
  simp only [picks, List.drop_succ_cons, List.drop_zero]
  have x3 := hgx.blk X35.out
  have HEX := Lib.hid (ext_trans HE5.out hgx)
  have HSX := Lib.hid (hgx.blk HS5.out); have HLX := Lib.hid (hgx.blk HL5.out); have HQX := Lib.hid (hgx.blk HQ5.out); have HNB := Lib.hid nbq
  have lt3 := blk_lt X35.out
  have lq3 : n3 < bq := by have := hbq; have := lt3; omega
  have ne1 : n3 ≠ bS := fun h => by have := HSX.out; rw [← h, x3] at this; simp only [exSym, Option.some.injEq, Obj.cells.injEq] at this; exact absurd this.2.1 (by decide)
  have ne2 : n3 ≠ bL := fun h => by have := HLX.out; rw [← h, x3] at this; simp only [exLen, Option.some.injEq, Obj.cells.injEq] at this; exact absurd this.2.1 (by decide)
  have ne3 : n3 ≠ bQ := fun h => by have := HQX.out; rw [← h, x3] at this; simp only [exMk, Option.some.injEq, Obj.cells.injEq] at this; exact absurd this.2.1 (by decide)
  clear q1c q1f hgx nbq hbq
  have q3c := cell_blk x3
  have q3f := frz_blk x3
  go_wp2_with (fail)
  refine bp_name ?_
  intro w7 hw7
  have hB7 : Bx n3 wx w7 := by rw [hw7]; exact ((((((((((((Bx.set _).trans (Bx.set _)).trans (Bx.set _)).trans (Bx.set _)).trans (Bx.set _)).trans (Bx.set _)).trans (Bx.set _)).trans (Bx.set _)).trans (Bx.set _)).trans (Bx.set _)).trans (Bx.set _)).trans (Bx.set _)).trans (Bx.set _)
  have k0 : w7.heap[n3]? = some (.cells #[.string ⟨#[110, 97, 110, 97, 45, 50]⟩, .int .i64 35, .int .i64 1, .int .i64 1000, .int .i64 1925, .int .i64 1940, .int .i64 3, .slice (some ⟨bQ, 0, none⟩) 3 3, .slice (some ⟨bS, 0, none⟩) 2 2, .slice (some ⟨bL, 0, none⟩) 2 2, .int .i64 1200, .int .i64 1230, .slice (some ⟨bq, 0, none⟩) 7 7] 31 (0, 0)) := by rw [hw7]; exact Eq.trans (blk_set (blk_set (blk_set (blk_set (blk_set (blk_set (blk_set (blk_set (blk_set (blk_set (blk_set (blk_set (blk_set (x3) _ _) _ _) _ _) _ _) _ _) _ _) _ _) _ _) _ _) _ _) _ _) _ _) _ _) rfl
  have hbel : Below w.heap.size w w7 := by rw [hw7]; exact below_set (below_set (below_set (below_set (below_set (below_set (below_set (below_set (below_set (below_set (below_set (below_set (below_set (HEX.out) lw) lw) lw) lw) lw) lw) lw) lw) lw) lw) lw) lw) lw
  have keep : ∀ (b : Nat) (o : Obj), b ≠ n3 → wx.heap[b]? = some o → w7.heap[b]? = some o := fun b o hn h => (hB7.block b (blk_lt h) hn).trans h
  have hat := ex_at (keep _ _ (Ne.symm ne3) HQX.out) (keep _ _ (Ne.symm ne1) HSX.out) (keep _ _ (Ne.symm ne2) HLX.out) (keep _ _ (by omega) HNB.out)
  clear hw7
  refine bodyPost_ret (v := .agg #[.string exT.reel.name, .int .i64 exT.reel.gauge, .int .i64 exT.reel.base, .int .i64 exT.reel.frames, .int .i64 exT.reel.ylo, .int .i64 exT.reel.yhi, .int .i64 exT.reel.keep, .slice (⟨⟨⟨some ⟨bQ, 0, none⟩, 3⟩, ⟨some ⟨bS, 0, none⟩, 2⟩, ⟨some ⟨bL, 0, none⟩, 2⟩⟩, ⟨some ⟨bq, 0, none⟩, 7⟩⟩ : TSl).r.m.a exT.reel.marks.length (⟨⟨⟨some ⟨bQ, 0, none⟩, 3⟩, ⟨some ⟨bS, 0, none⟩, 2⟩, ⟨some ⟨bL, 0, none⟩, 2⟩⟩, ⟨some ⟨bq, 0, none⟩, 7⟩⟩ : TSl).r.m.cap, .slice (⟨⟨⟨some ⟨bQ, 0, none⟩, 3⟩, ⟨some ⟨bS, 0, none⟩, 2⟩, ⟨some ⟨bL, 0, none⟩, 2⟩⟩, ⟨some ⟨bq, 0, none⟩, 7⟩⟩ : TSl).r.s.a exT.reel.syms.length (⟨⟨⟨some ⟨bQ, 0, none⟩, 3⟩, ⟨some ⟨bS, 0, none⟩, 2⟩, ⟨some ⟨bL, 0, none⟩, 2⟩⟩, ⟨some ⟨bq, 0, none⟩, 7⟩⟩ : TSl).r.s.cap, .slice (⟨⟨⟨some ⟨bQ, 0, none⟩, 3⟩, ⟨some ⟨bS, 0, none⟩, 2⟩, ⟨some ⟨bL, 0, none⟩, 2⟩⟩, ⟨some ⟨bq, 0, none⟩, 7⟩⟩ : TSl).r.l.a exT.reel.lens.length (⟨⟨⟨some ⟨bQ, 0, none⟩, 3⟩, ⟨some ⟨bS, 0, none⟩, 2⟩, ⟨some ⟨bL, 0, none⟩, 2⟩⟩, ⟨some ⟨bq, 0, none⟩, 7⟩⟩ : TSl).r.l.cap, .int .i64 exT.whole.lo, .int .i64 exT.whole.hi, .slice (⟨⟨⟨some ⟨bQ, 0, none⟩, 3⟩, ⟨some ⟨bS, 0, none⟩, 2⟩, ⟨some ⟨bL, 0, none⟩, 2⟩⟩, ⟨some ⟨bq, 0, none⟩, 7⟩⟩ : TSl).n.a exT.notes.length (⟨⟨⟨some ⟨bQ, 0, none⟩, 3⟩, ⟨some ⟨bS, 0, none⟩, 2⟩, ⟨some ⟨bL, 0, none⟩, 2⟩⟩, ⟨some ⟨bq, 0, none⟩, 7⟩⟩ : TSl).n.cap]) ?_ rfl ⟨⟨bQ, bS, bL, bq, rfl, hat⟩, hbel⟩
  have zc := cell_blk k0
  have zf := frz_blk k0
  simp [results, Tryz.results18, go_sem, zc]
  exact ⟨rfl, rfl, rfl, rfl, rfl, rfl, rfl, rfl, rfl, rfl, rfl, rfl, rfl⟩
end Go.Proofs.YtapeakbngligaaaGreatDoor
