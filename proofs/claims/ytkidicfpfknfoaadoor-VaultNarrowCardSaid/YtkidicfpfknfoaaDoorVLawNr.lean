/-
  The law VaultNarrow, walked.
-/
import Derived.Test.YtkidicfpfknfoaaDoorVAwake
import Derived.Test.YtkidicfpfknfoaaDoorVRefC
import Derived.Test.YtkidicfpfknfoaaDoorVPlBst
import Derived.Test.YtkidicfpfknfoaaDoorVArgM
import Derived.Test.YtkidicfpfknfoaaDoorVThr
namespace Go.Proofs.YtkidicfpfknfoaaDoor
open Go.RowKit D
set_option linter.unusedVariables false
set_option linter.unusedSimpArgs false
attribute [local go_sem high] run_minI run_maxI
attribute [local go_sem] upon2 cls_cell cls_frozen forall_const exists_eq_left'
attribute [local go_sem] FirstUpon
theorem elRm : Elem Tryd.prog 22 41 (.agg #[.string ByteArray.empty, .int .i64 0, .int .i64 0, .int .i64 0, .int .i64 0, .bool false, .bool false, .int .i64 0, .int .i64 0, .int .i64 0]) 10 80 := ⟨by kernel_rfl, by kernel_rfl, rfl, by omega, by omega⟩
set_option maxRecDepth 100000 in
set_option maxHeartbeats 2000000 in
theorem less_any {t : Span} {b i : Nat} {y : Nat → Int} {w : World} (hb : w.heap[b]? = some (.cells #[.int .u8 (y 0), .int .u8 (y 1), .int .u8 (y 2), .int .u8 (y 3)] 86 (0, 0))) (hi : i < 4) (hy : ∀ k, k < 4 → 0 ≤ y k ∧ y k ≤ 255)
    (ht : t.lo ≤ t.hi) (h1 : -1000000 ≤ t.lo) (h2 : t.hi ≤ 1000000) :
    Calls Tryd.prog 32 #[.agg #[.int .i64 t.lo, .int .i64 t.hi], .int .i64 (i : Int), .pointer (some ⟨b, 0, none⟩)] w fun e w' => e = .returned (.agg #[.int .i64 (lessS t (y i)).lo, .int .i64 (lessS t (y i)).hi]) ∧ Below w.heap.size w w' := by
  have hx := hb
  have hbl := blk_lt hx
  have hc : w.cell? ⟨b, i, none⟩ = some (.int .u8 (y i)) := by
    rw [cell_blk hx]
    match i, hi with
    | 0, _ => rfl
    | 1, _ => rfl
    | 2, _ => rfl
    | 3, _ => rfl
  obtain ⟨Y, hY⟩ : ∃ Y, Y = y i := ⟨_, rfl⟩
  have hyi := hy i hi
  rw [← hY] at hc hyi ⊢
  obtain ⟨lo, hi'⟩ := t
  simp only at ht h1 h2
  obtain ⟨P, hP⟩ : ∃ P, P = (hi' - lo) * Y := ⟨_, rfl⟩
  have p1 : 0 ≤ P := by rw [hP]; exact Int.mul_nonneg (by omega) hyi.1
  have p2 : P ≤ 510000000 := by
    have : (hi' - lo) * Y ≤ 2000000 * 255 := Int.mul_le_mul (by omega) hyi.2 hyi.1 (by omega)
    omega
  have wY : IntKind.i64.wrap Y = Y := IntWalk.i64_in _ (by omega)
  have w1 : IntKind.i64.wrap (hi' - lo) = hi' - lo := IntWalk.i64_in _ (by omega)
  have w2 : IntKind.i64.wrap ((hi' - lo) * Y) = P := by rw [← hP]; exact IntWalk.i64_in _ (by omega)
  have w3 : P.tdiv 512 = P / 512 := Int.tdiv_eq_ediv_of_nonneg p1
  obtain ⟨Q, hQ⟩ : ∃ Q, Q = P / 512 := ⟨_, rfl⟩
  have q1 : 0 ≤ Q ∧ Q ≤ 1000000 := by rw [hQ]; omega
  rw [← hQ] at w3
  have w4 : IntKind.i64.wrap Q = Q := IntWalk.i64_in _ (by omega)
  have w5 : IntKind.i64.wrap (lo + Q) = lo + Q := IntWalk.i64_in _ (by omega)
  have w6 : IntKind.i64.wrap (hi' - Q) = hi' - Q := IntWalk.i64_in _ (by omega)
  have hR : lessS ⟨lo, hi'⟩ Y = ⟨lo + Q, hi' - Q⟩ := by unfold lessS; simp only; rw [← hP, ← hQ]
  rw [hR]
  have f0 : decide ((0 : Int) ≤ (i : Int)) = true := decide_eq_true (by omega)
  have f1 : decide ((i : Int) < 4) = true := decide_eq_true (by omega)
  have g0 : (0 : Int) ≤ (i : Int) := by omega
  have g1 : (i : Int) < 4 := by omega
  have ht2 : (i : Int).toNat = i := by omega
  clear hy hY hP hQ p1 p2 hx hb hR ht h1 h2
  go_enter Tryd.func32, Tryd.ntmps32
  go_wp2_with (fail)
  refine wp_name ?_
  intro w7 hw7
  obtain ⟨n3, hn3⟩ : ∃ n, n = w.heap.size := ⟨_, rfl⟩
  obtain ⟨n5, hn5⟩ : ∃ n, n = n3 + 1 := ⟨_, rfl⟩
  have hE7 : Ext2 w w7 := by rw [hw7]; exact ext_trans (below_alloc' _ _) (below_alloc' _ _)
  have x3 : w7.heap[n3]? = some (.cells #[.int .i64 lo, .int .i64 hi'] 25 (0, 0)) := by rw [hw7, hn3]; exact blk_alloc (blk_new _ _) _
  have x5 : w7.heap[n5]? = some (Obj.cells #[.int .i64 0, .int .i64 0] 25) := by rw [hw7, hn5, hn3]; exact blk_new' _ _ (by simp)
  have lw5 : w.heap.size ≤ n5 := by omega
  have d : w7.cell? ⟨b, i, none⟩ = some (.int .u8 Y) := (Below.cell (p := ⟨b, i, none⟩) hE7 (cell_lt hc)).trans hc
  rw [← hn3, ← hn5]
  clear hw7 hn3 hn5 hc
  have q3c := cell_blk x3
  have q3f := frz_blk x3
  clear x3
  refine region_ev [] [0, 1, 2, 3, 4, 5, 6, 7, 8, 9, 10, 11, 12, 13, 14, 15, 16, 17, 18, 19, 20, 21, 22, 23, 24, 25, 26, 27, 28] [] [29] (by kernel_rfl) (by kernel_rfl) (by intro c a d v w h; cases d <;> exact h) ?_
  simp only [picks, List.drop_succ_cons, List.drop_zero]
  repeat (refine wpQ0_step (fun K hK => ?_); go_simp; (refine hK _ ?_; clear hK K))
  refine wpQ0_nil ?_
  repeat ((with_reducible refine wpQ2_step (fun K hK => ?_)); go_simp; first | ((with_reducible refine hK _ ?_); clear hK K) | (apply Exists.intro; refine ⟨fun x => ?_, hK _ ?_⟩; (fail); clear hK K))
  refine wpQ2_nil ?_
  refine Events.none_ fun w8 hg8 => ?_
  simp only [picks, List.drop_succ_cons, List.drop_zero]
  have HE8 := Lib.hid (ext_trans hE7 hg8)
  have y5 := Ext2.blk hg8 x5
  clear q3c q3f d hg8 x5 hE7
  have Y5 := Lib.hid y5
  have q5c := cell_blk y5
  have q5f := frz_blk y5
  clear y5
  go_wp2_with (fail)
  have hB := below_set (below_set HE8.out lw5 (o := 0) (v := .int .i64 (lo + Q))) lw5 (o := 1) (v := .int .i64 (hi' - Q))
  have r5 := cell_blk (Eq.trans (blk_set (blk_set Y5.out 0 (.int .i64 (lo + Q))) 1 (.int .i64 (hi' - Q))) (show _ = some (Obj.cells #[.int .i64 (lo + Q), .int .i64 (hi' - Q)] 25 (0, 0)) from rfl))
  refine bodyPost_ret (v := .agg #[.int .i64 (lo + Q), .int .i64 (hi' - Q)]) ?_ rfl ⟨rfl, hB⟩
  simp [results, Tryd.results32, go_sem, r5]
theorem rowsR_set {w : World} {base g cap n : Nat} {l : List Rm} {i : Nat} {r : Rm} (hO : OwnR w base 41 10 (.slice (some ⟨g, 0, none⟩) n cap) n (rmC l)) (hn : n = l.length) (hi : i < n) (hr : r = { rmD l i with tlo := r.tlo, thi := r.thi, dlo := r.dlo, dhi := r.dhi }) :
    OwnR ((((w.setCell ⟨g, i * 10 + 1, none⟩ (.int .i64 r.tlo)).setCell ⟨g, i * 10 + 2, none⟩ (.int .i64 r.thi)).setCell ⟨g, i * 10 + 3, none⟩ (.int .i64 r.dlo)).setCell ⟨g, i * 10 + 4, none⟩ (.int .i64 r.dhi)) base 41 10 (.slice (some ⟨g, 0, none⟩) n cap) n (rmC (l.set i r)) := by
  have h1 := hO.set (j := 1) hi (by omega) (.int .i64 r.tlo)
  have h2 := h1.set (j := 2) hi (by omega) (.int .i64 r.thi)
  have h3 := h2.set (j := 3) hi (by omega) (.int .i64 r.dlo)
  have h4 := h3.set (j := 4) hi (by omega) (.int .i64 r.dhi)
  refine h4.congr fun i' j' hi' hj' => ?_
  have hil : i < l.length := by omega
  have e : rmD (l.set i r) i' = if i' = i then r else rmD l i' := rmD_set hil
  by_cases h : i' = i
  · subst h
    rcases (by omega : j' = 0 ∨ j' = 1 ∨ j' = 2 ∨ j' = 3 ∨ j' = 4 ∨ j' = 5 ∨ j' = 6 ∨ j' = 7 ∨ j' = 8 ∨ j' = 9) with rfl | rfl | rfl | rfl | rfl | rfl | rfl | rfl | rfl | rfl <;> simp [rmC, e] <;> rw [hr]
  · rcases (by omega : j' = 0 ∨ j' = 1 ∨ j' = 2 ∨ j' = 3 ∨ j' = 4 ∨ j' = 5 ∨ j' = 6 ∨ j' = 7 ∨ j' = 8 ∨ j' = 9) with rfl | rfl | rfl | rfl | rfl | rfl | rfl | rfl | rfl | rfl <;> simp [rmC, e, h]
theorem askE1_zero {S : Site} (hC : Chk S) {t : Span} (ht : spanE t = 0) {r : Nat} (hr : r < S.rooms.length) : askE S t [(r : Int)] = 0 := by
  have h := askE_zero hC ht (r := (r : Int)) (nx := (r : Int)) ⟨by omega, by omega⟩ ⟨by omega, by omega⟩
  have e0 : intD [(r : Int), (r : Int)] 0 = (r : Int) := rfl
  have e1 : intD [(r : Int)] 0 = (r : Int) := rfl
  have ho : outR S (r : Int) = false := by unfold outR; rw [outB_in, inB_iff.2 (show 0 ≤ (r : Int) ∧ (r : Int) ≤ (S.rooms.length : Int) - 1 by omega)]; rfl
  unfold askE
  rw [if_neg (by rw [chk_iff.2 hC]; decide), if_neg (by rw [ht]; decide)]
  have : anyF (fun i => outR S (intD [(r : Int)] i)) [(r : Int)].length = false := by
    show decide (firstN _ 1 < 1) = false
    simp [firstN, e1, ho]
  rw [this]; rfl
theorem sweatO_of {S : Site} (hC : Chk S) {t : Span} (ht : spanE t = 0) {r : Nat} (hr : r < S.rooms.length) : sweatO S t (r : Int) = (wet t.hi (rmD S.rooms r).tlo (rmD S.rooms r).dlo, mayS t (rmD S.rooms r), 0) := by
  unfold sweatO
  rw [if_neg (by rw [askE1_zero hC ht hr]; decide), Int.toNat_natCast]
theorem warmO_of {S : Site} (hC : Chk S) {t : Span} (ht : spanE t = 0) {r : Nat} (hr : r < S.rooms.length) {h : Nat} (hh : h ≤ 2400) : warmO S t (r : Int) (h : Int) = (warmN S (rmD S.rooms r) h t, 0) := by
  unfold warmO
  rw [if_neg (by rw [askE1_zero hC ht hr]; decide), inB_iff.2 (show 0 ≤ (h : Int) ∧ (h : Int) ≤ 2400 by omega), Int.toNat_natCast, Int.toNat_natCast]
  simp
theorem own_cells {w : World} {base g cap : Nat} {e : TypeId} {sz n : Nat} {c : Nat → Nat → Value} (h : OwnR w base e sz (.slice (some ⟨g, 0, none⟩) n cap) n c) (h0 : 0 < n) : (∀ i j, i < n → j < sz → w.cell? ⟨g, i * sz + j, none⟩ = some (c i j)) ∧ (∀ o, w.frozen? ⟨g, o, none⟩ = false) ∧ g < w.heap.size := by
  obtain ⟨g', cap', he, -, -, -, hr, hf⟩ := own_some h h0
  cases he
  refine ⟨fun i j hi hj => ?_, hf, hr.1⟩
  have := hr.2 i j hi hj
  rwa [Nat.zero_add] at this
theorem wpl_name {P : Program} {ops : Array Oper} {Q : Exit → Act → World → Prop} {l : List Oper} {a : Act} {w : World} (h : ∀ w0, w0 = w → wpList P ops Q l a w0) : wpList P ops Q l a w := h w rfl
theorem row_cells {w : World} {b off c sz n : Nat} {f : Nat → Nat → Value} (h : RowS w ⟨some ⟨b, off, none⟩, c⟩ sz n f) : ∀ i j, i < n → j < sz → w.cell? ⟨b, off + i * sz + j, none⟩ = some (f i j) := fun i j hi hj => by
  obtain ⟨b', off', h1, h2⟩ := h.cell i j hi hj
  cases h1; exact h2
theorem rmC_cell (l : List Rm) (i j : Nat) : (rmC l i j).oneCell' = true := by
  unfold rmC; split <;> rfl
set_option maxRecDepth 100000 in
set_option maxHeartbeats 8000000 in
theorem lawNarrow_any {S : Site} {s : SSl} {X : D.Ask} {y : Nat → Int} {w : World} (hS : SiteAt w S s) (hy : ∀ i, i < 4 → 0 ≤ y i ∧ y i ≤ 255) (hm : MaxAt w) :
    Calls Tryd.prog 11 #[.agg #[.slice s.r.a S.rooms.length s.r.cap, .slice s.c.a S.cans.length s.c.cap, .int .i64 S.rlo, .int .i64 S.rhi, .slice s.p.a S.steps.length s.p.cap], .agg #[.int .i64 X.t.lo, .int .i64 X.t.hi, .int .i64 X.room, .int .i64 X.next, .int .i64 X.hours, .int .i64 X.base], .agg #[.int .u8 (y 0), .int .u8 (y 1), .int .u8 (y 2), .int .u8 (y 3)]] w fun e w' => e = .returned (.bool true) ∧ Below w.heap.size w w' := by
  have HS := Lib.hid hS; have HY := Lib.hid hy; have HM := Lib.hid hm
  have hrl := hS.rm.le; have hrm := hS.rm.max
  obtain ⟨⟨ra, rc⟩, cs, ps⟩ := s
  dsimp only at hrl hrm
  have hAw : ∀ W, Ext2 w W → Calls Tryd.prog 15 #[] W fun e w' => e = .returned (.bool true) ∧ Below W.heap.size W w' := fun W hW => awake_any (HM.out.below hW)
  have HAW := Lib.hid hAw
  clear hS hy hm hAw
  go_enter Tryd.func11, Tryd.ntmps11
  go_wp2_with (fail)
  refine calls_name ?_
  intro w1 hw1
  obtain ⟨n3, hn3⟩ : ∃ n, n = w.heap.size := ⟨_, rfl⟩
  obtain ⟨n4, hn4⟩ : ∃ n, n = n3 + 1 := ⟨_, rfl⟩
  obtain ⟨n5, hn5⟩ : ∃ n, n = n4 + 1 := ⟨_, rfl⟩
  have hE1 : Ext2 w w1 := by rw [hw1]; exact ext_trans (ext_trans (below_alloc' _ _) (below_alloc' _ _)) (below_alloc' _ _)
  have X3 : Hid (w1.heap[n3]? = some (Obj.cells #[.slice (SSl.mk ⟨ra, rc⟩ cs ps).r.a S.rooms.length (SSl.mk ⟨ra, rc⟩ cs ps).r.cap, .slice (SSl.mk ⟨ra, rc⟩ cs ps).c.a S.cans.length (SSl.mk ⟨ra, rc⟩ cs ps).c.cap, .int .i64 S.rlo, .int .i64 S.rhi, .slice (SSl.mk ⟨ra, rc⟩ cs ps).p.a S.steps.length (SSl.mk ⟨ra, rc⟩ cs ps).p.cap] 28)) := Lib.hid (by rw [hw1, hn3]; exact blk_alloc (blk_alloc (blk_new _ _) _) _)
  have X4 : Hid (w1.heap[n4]? = some (Obj.cells #[.int .i64 X.t.lo, .int .i64 X.t.hi, .int .i64 X.room, .int .i64 X.next, .int .i64 X.hours, .int .i64 X.base] 62 (0, 0))) := Lib.hid (by rw [hw1, hn4, hn3]; exact blk_alloc (blk_new' _ _ (by simp)) _)
  have X5 : Hid (w1.heap[n5]? = some (.cells #[.int .u8 (y 0), .int .u8 (y 1), .int .u8 (y 2), .int .u8 (y 3)] 86 (0, 0))) := Lib.hid (by rw [hw1, hn5, hn4, hn3]; exact blk_new' _ _ (by simp))
  have HE1 := Lib.hid hE1
  have l34 : n3 < n4 := by omega
  have lw3 : w.heap.size ≤ n3 := by omega
  rw [← hn3, ← hn4, ← hn5]
  clear hw1 hn3 hn4 hn5 hE1
  refine (sweats_any (HS.out.below HE1.out) (HM.out.below HE1.out)).mono ?_
  rintro e w2 ⟨rfl, hb2⟩
  have HE2 := Lib.hid (ext_trans HE1.out hb2)
  have X32 := Lib.hid (Ext2.blk hb2 X3.out); have X42 := Lib.hid (Ext2.blk hb2 X4.out); have X52 := Lib.hid (Ext2.blk hb2 X5.out)
  obtain ⟨o1, o2, o3, ho⟩ : ∃ a b c, sweatO S X.t X.room = (a, b, c) := ⟨_, _, _, rfl⟩
  rw [ho]
  have HO := Lib.hid ho
  dsimp only
  have x3 := X32.out
  clear hb2 ho
  have q3c := cell_blk x3
  have q3f := frz_blk x3
  clear x3
  go_wp2_with (fail)
  refine (checkR_any (HS.out.below HE2.out)).mono ?_
  rintro e w3 ⟨rfl, hb3⟩
  have HE3 := Lib.hid (ext_trans HE2.out hb3)
  have X33 := Lib.hid (Ext2.blk hb3 X32.out); have X43 := Lib.hid (Ext2.blk hb3 X42.out); have X53 := Lib.hid (Ext2.blk hb3 X52.out)
  obtain ⟨c1, c2, c3, hc⟩ : ∃ a b c, checkV S = (a, b, c) := ⟨_, _, _, rfl⟩
  rw [hc]
  have HC := Lib.hid hc
  dsimp only
  have x3 := X33.out; have x4 := X43.out
  clear hc hb3 q3c q3f
  have q3c := cell_blk x3
  have q3f := frz_blk x3
  have q4c := cell_blk x4
  have q4f := frz_blk x4
  clear x3 x4
  by_cases h0 : o3 = 0
  case neg =>
    have d1 : (o3 != 0) = true := by simp [h0]
    clear h0
    go_wp2_with (fail)
    refine (HAW.out _ HE3.out).mono ?_
    rintro e w4 ⟨rfl, hb4⟩
    go_wp2_with (fail)
    go_ret
    exact ⟨rfl, ext_trans HE3.out hb4⟩
  subst h0
  have hask : askE S X.t [X.room] = 0 := by
    have := HO.out
    unfold sweatO at this
    by_cases h : askE S X.t [X.room] = 0
    · exact h
    · rw [if_pos h] at this; simp only [Prod.mk.injEq] at this; exact absurd this.2.2 h
  obtain ⟨hck, hsp, hr0, hr1⟩ := askE1_ok hask
  obtain ⟨t, xr, xn, xh, xb⟩ := X
  dsimp only at hr0 hr1 hsp hask
  obtain ⟨r, rfl⟩ : ∃ n : Nat, xr = (n : Int) := ⟨xr.toNat, by omega⟩
  have hrl' : r < S.rooms.length := by omega
  have hc3 : c3 = 0 := by have := chk_iff.2 hck; rw [HC.out] at this; exact this
  subst hc3
  have hso : o1 = wet t.hi (rmD S.rooms r).tlo (rmD S.rooms r).dlo ∧ o2 = mayS t (rmD S.rooms r) := by
    have := HO.out
    unfold sweatO at this
    dsimp only at this
    rw [if_neg (by rw [hask]; decide), Int.toNat_natCast] at this
    simp only [Prod.mk.injEq] at this
    exact ⟨this.1.symm, this.2.1.symm⟩
  have hnv := nar_v hck hrl' hsp HY.out
  have d1 : ((0 : Int) != 0) = false := rfl
  have g1 : ¬ (r : Int) < 0 := by omega
  have g2 : ¬ (S.rooms.length : Int) ≤ (r : Int) := by omega
  have HCK := Lib.hid hck; have HSP := Lib.hid hsp; have HSO := Lib.hid hso; have HNV := Lib.hid hnv
  have k3 := blk_lt X33.out
  have m3 : ¬ n3 = w3.heap.size := by omega
  clear hask hck hsp hr0 hr1 hso hnv HO
  obtain ⟨rb, roff, hra, hrc⟩ := rm_cells (HS.out.below HE3.out).rm hrl'
  dsimp only at hra
  subst hra
  have hn12 := HCK.out.len.1.2
  clear hrc
  have p0 : (0 : Int) ≤ (r : Int) := by omega
  have p1 : (r : Int) < (S.rooms.length : Int) := by omega
  have HRB := Lib.hid (row_cells (HS.out.below HE3.out).rm)
  go_wp2_with (at_builtin; refine wpl_name ?_; intro w4 hw4; (obtain ⟨n14, hn14⟩ : ∃ n, n = w3.heap.size := ⟨_, rfl⟩); (obtain ⟨be, hbe⟩ : ∃ n, n = n14 + 1 := ⟨_, rfl⟩); (have hE4 : Ext2 w3 w4 := by rw [hw4]; exact ext_trans (below_alloc' _ _) (below_alloc' _ _)); (have N14 : Hid (w4.heap[n14]? = some (Obj.cells #[.slice (SSl.mk ⟨some ⟨rb, roff, none⟩, rc⟩ cs ps).r.a S.rooms.length (SSl.mk ⟨some ⟨rb, roff, none⟩, rc⟩ cs ps).r.cap, .slice (SSl.mk ⟨some ⟨rb, roff, none⟩, rc⟩ cs ps).c.a S.cans.length (SSl.mk ⟨some ⟨rb, roff, none⟩, rc⟩ cs ps).c.cap, .int .i64 S.rlo, .int .i64 S.rhi, .slice (SSl.mk ⟨some ⟨rb, roff, none⟩, rc⟩ cs ps).p.a S.steps.length (SSl.mk ⟨some ⟨rb, roff, none⟩, rc⟩ cs ps).p.cap] 28)) := Lib.hid (by rw [hw4, hn14]; exact blk_alloc (blk_new _ _) _)); (have NE : w4.heap[be]? = some (.cells #[] 41 (0, 0)) := by rw [hw4, hbe, hn14]; exact blk_new' _ _ (by simp)); (have HE4 := Lib.hid hE4); (have l14 : w3.heap.size ≤ n14 := by omega); (have lbe : n14 < be := by omega); rw [← hn14, ← hbe]; clear hw4 hn14 hbe hE4; refine app_rows_at elRm (v := .slice (some ⟨be, 0, none⟩) 0 0) (c2 := rmC S.rooms) rfl _ _ rfl be rfl (own_empty (c := rmC S.rooms) NE (Nat.le_refl _)) rb roff S.rooms.length rc rfl (fun i j hi hj => (Below.cell (p := ⟨rb, roff + i * 10 + j, none⟩) HE4.out (cell_lt (HRB.out i j hi hj))).trans (HRB.out i j hi hj)) (rmC_cell _) (by omega) (by have := blk_lt NE; omega) (fun i j hi _ => absurd hi (Nat.not_lt_zero i)) (fun i j _ _ => by rw [Nat.zero_add]) ?_; intro v' w6 hO6 hg6 _; rw [Nat.zero_add] at hO6; (obtain ⟨g, cp, hv, hge, hncp, hcpm, -⟩ := own_some hO6 (by omega)); subst hv; (have HO6 := Lib.hid hO6); (have HG6 := Lib.hid hg6); (have kE := blk_lt NE); (have x14 : w6.heap[n14]? = some (Obj.cells #[.slice (SSl.mk ⟨some ⟨rb, roff, none⟩, rc⟩ cs ps).r.a S.rooms.length (SSl.mk ⟨some ⟨rb, roff, none⟩, rc⟩ cs ps).r.cap, .slice (SSl.mk ⟨some ⟨rb, roff, none⟩, rc⟩ cs ps).c.a S.cans.length (SSl.mk ⟨some ⟨rb, roff, none⟩, rc⟩ cs ps).c.cap, .int .i64 S.rlo, .int .i64 S.rhi, .slice (SSl.mk ⟨some ⟨rb, roff, none⟩, rc⟩ cs ps).p.a S.steps.length (SSl.mk ⟨some ⟨rb, roff, none⟩, rc⟩ cs ps).p.cap] 28) := by rw [hg6.block n14 (by omega) (fun h => by simp [Value.ownBlock] at h; omega)]; exact N14.out); (have k14 := cell_blk x14); (have f14 := frz_blk x14); (have HE6 := Lib.hid (ext_grown HE4.out hg6 (fun k hk => by simp [Value.ownBlock] at hk; omega))); (have x4 := Ext2.blk HE6.out X43.out); (have k4 := cell_blk x4); (have f4 := frz_blk x4); (have m4 : ¬ n4 = n14 := by have := blk_lt X43.out; omega); (have m43 : ¬ n14 = n4 := by omega); clear hO6 hg6 NE x4)
  refine wp_name ?_
  intro w7 hw7
  have X147 : Hid (w7.heap[n14]? = some (Obj.cells #[.slice (some ⟨g, 0, none⟩) S.rooms.length cp, .slice cs.a S.cans.length cs.cap, .int .i64 S.rlo, .int .i64 S.rhi, .slice ps.a S.steps.length ps.cap] 28)) := Lib.hid (by rw [hw7]; exact Eq.trans (blk_set x14 0 _) rfl)
  have HE7 : Hid (Ext2 w3 w7) := Lib.hid (by rw [hw7]; exact below_set HE6.out l14)
  have HO7 : Hid (OwnR w7 be 41 10 (.slice (some ⟨g, 0, none⟩) S.rooms.length cp) S.rooms.length (rmC S.rooms)) := Lib.hid (by rw [hw7]; exact HO6.out.above (by repeat' (first | (with_reducible assumption) | (with_reducible exact Above.refl _ _) | (with_reducible refine Above.set ?_ (by omega)) | (with_reducible refine Above.alloc ?_ _) | (with_reducible refine Above.ext ?_ (by assumption)))))
  obtain ⟨R, hR⟩ : ∃ R, R = rmD S.rooms r := ⟨_, rfl⟩
  have HR := Lib.hid hR
  have hRok : roomE R = 0 := by rw [hR]; exact (rm_iff.1 (HCK.out.rm r hrl')).2.2
  have HRK := Lib.hid hRok
  obtain ⟨⟨a1, a2, a3, a4, a5, a6, a7, a8⟩, a9, a10, -⟩ := room_iff.1 hRok
  have hn0 : 0 < S.rooms.length := by omega
  have hcell := fun W (hW : Ext2 w7 W) => own_cells (HO7.out.below hW) hn0
  have HCELL := Lib.hid hcell
  have hq := hcell w7 (Below.refl _ _)
  have q1 : w7.cell? ⟨g, r * 10 + 1, none⟩ = some (.int .i64 R.tlo) := by rw [hR]; exact hq.1 r 1 hrl' (by omega)
  have q2 : w7.cell? ⟨g, r * 10 + 2, none⟩ = some (.int .i64 R.thi) := by rw [hR]; exact hq.1 r 2 hrl' (by omega)
  have q3 : w7.cell? ⟨g, r * 10 + 3, none⟩ = some (.int .i64 R.dlo) := by rw [hR]; exact hq.1 r 3 hrl' (by omega)
  have q4 : w7.cell? ⟨g, r * 10 + 4, none⟩ = some (.int .i64 R.dhi) := by rw [hR]; exact hq.1 r 4 hrl' (by omega)
  have X57 := Lib.hid (Ext2.blk HE7.out X53.out)
  have hL : ∀ (tt : Span) (i : Nat), i < 4 → tt.lo ≤ tt.hi → -1000000 ≤ tt.lo → tt.hi ≤ 1000000 → ∀ W, W.heap[n5]? = some (.cells #[.int .u8 (y 0), .int .u8 (y 1), .int .u8 (y 2), .int .u8 (y 3)] 86 (0, 0)) → Calls Tryd.prog 32 #[.agg #[.int .i64 tt.lo, .int .i64 tt.hi], .int .i64 (i : Int), .pointer (some ⟨n5, 0, none⟩)] W fun e w' => e = .returned (.agg #[.int .i64 (lessS tt (y i)).lo, .int .i64 (lessS tt (y i)).hi]) ∧ Below W.heap.size W w' := fun tt i hi h1 h2 h3 W hW => less_any hW hi HY.out h1 h2 h3
  have HL := Lib.hid hL
  have HL0 : Hid (∀ W, Ext2 w7 W → Calls Tryd.prog 32 #[.agg #[.int .i64 R.tlo, .int .i64 R.thi], .int .i64 0, .pointer (some ⟨n5, 0, none⟩)] W fun e w' => e = .returned (.agg #[.int .i64 (lessS ⟨R.tlo, R.thi⟩ (y 0)).lo, .int .i64 (lessS ⟨R.tlo, R.thi⟩ (y 0)).hi]) ∧ Below W.heap.size W w') := Lib.hid fun W hW => hL ⟨R.tlo, R.thi⟩ 0 (by omega) a9 (by simp only; omega) (by simp only; omega) W (Ext2.blk hW X57.out)
  have HL1 : Hid (∀ W, Ext2 w7 W → Calls Tryd.prog 32 #[.agg #[.int .i64 R.dlo, .int .i64 R.dhi], .int .i64 1, .pointer (some ⟨n5, 0, none⟩)] W fun e w' => e = .returned (.agg #[.int .i64 (lessS ⟨R.dlo, R.dhi⟩ (y 1)).lo, .int .i64 (lessS ⟨R.dlo, R.dhi⟩ (y 1)).hi]) ∧ Below W.heap.size W w') := Lib.hid fun W hW => hL ⟨R.dlo, R.dhi⟩ 1 (by omega) a10 (by simp only; omega) (by simp only; omega) W (Ext2.blk hW X57.out)
  clear hw7 hR hRok a1 a2 a3 a4 a5 a6 a7 a8 a9 a10 hcell hq hL k4 f4 k14 f14 x14 q3c q3f q4c q4f
  refine region_ev [1] [0, 2, 3, 4, 5, 6, 7, 8, 9, 10, 11, 12, 13, 14, 15] [] [16, 17, 18, 19] (by kernel_rfl) (by kernel_rfl) (by intro c a d v w h; cases d <;> exact h) ?_
  simp only [picks, List.drop_succ_cons, List.drop_zero]
  repeat (refine wpQ0_step (fun K hK => ?_); go_simp; (refine hK _ ?_; clear hK K))
  refine wpQ0_nil ?_
  repeat (refine wpQ2_step (fun K hK => ?_); go_simp; first | (refine hK _ ?_; clear hK K) | (apply Exists.intro; refine ⟨fun x => ?_, hK _ ?_⟩; (first | (with_reducible exact HL0.out x.1 x.2) | (with_reducible exact HL1.out x.1 x.2)); clear hK K))
  refine wpQ2_nil ?_
  refine Events.none_ fun w8 hg8 => ?_
  simp only [picks, List.drop_succ_cons, List.drop_zero]
  have HE8 := Lib.hid (ext_trans HE7.out hg8)
  have hq := HCELL.out w8 hg8
  have r1 : w8.cell? ⟨g, r * 10 + 1, none⟩ = some (.int .i64 R.tlo) := by rw [HR.out]; exact hq.1 r 1 hrl' (by omega)
  have r2 : w8.cell? ⟨g, r * 10 + 2, none⟩ = some (.int .i64 R.thi) := by rw [HR.out]; exact hq.1 r 2 hrl' (by omega)
  have r3 : w8.cell? ⟨g, r * 10 + 3, none⟩ = some (.int .i64 R.dlo) := by rw [HR.out]; exact hq.1 r 3 hrl' (by omega)
  have r4 : w8.cell? ⟨g, r * 10 + 4, none⟩ = some (.int .i64 R.dhi) := by rw [HR.out]; exact hq.1 r 4 hrl' (by omega)
  have r5 := hq.2.1
  have X148 := Lib.hid (Ext2.blk hg8 X147.out)
  have HO8 := Lib.hid (HO7.out.below hg8)
  have X38 := Lib.hid (Ext2.blk HE8.out X33.out); have X48 := Lib.hid (Ext2.blk HE8.out X43.out); have X58 := Lib.hid (Ext2.blk HE8.out X53.out)
  have x3 := X38.out
  have j3 : ¬ n3 = g := by have := blk_lt X33.out; omega
  have j3' : ¬ g = n3 := by omega
  obtain ⟨A, hA⟩ : ∃ A, A = lessS ⟨R.tlo, R.thi⟩ (y 0) := ⟨_, rfl⟩
  obtain ⟨B, hB⟩ : ∃ B, B = lessS ⟨R.dlo, R.dhi⟩ (y 1) := ⟨_, rfl⟩
  rw [← hA, ← hB]
  have HA := Lib.hid hA; have HB := Lib.hid hB
  clear q1 q2 q3 q4 hq hg8 hA hB
  have q3c := cell_blk x3
  have q3f := frz_blk x3
  clear x3
  go_wp2_with (fail)
  refine calls_name ?_
  intro w9 hw9
  have lg3 : w3.heap.size ≤ g := by omega
  have HE9 : Hid (Ext2 w3 w9) := Lib.hid (by rw [hw9]; exact below_set (below_set (below_set (below_set HE8.out lg3) lg3) lg3) lg3)
  have HO9 : Hid (OwnR w9 be 41 10 (.slice (some ⟨g, 0, none⟩) S.rooms.length cp) S.rooms.length (rmC (S.rooms.set r (lessR R (y 0) (y 1))))) := Lib.hid (by
    have h := rowsR_set (r := lessR R (y 0) (y 1)) HO8.out rfl hrl' (by rw [← HR.out]; rfl)
    rw [hw9, HA.out, HB.out]; exact h)
  have ng14 : n14 ≠ g := by omega
  have X149 : Hid (w9.heap[n14]? = some (Obj.cells #[.slice (some ⟨g, 0, none⟩) S.rooms.length cp, .slice cs.a S.cans.length cs.cap, .int .i64 S.rlo, .int .i64 S.rhi, .slice ps.a S.steps.length ps.cap] 28)) := Lib.hid (by rw [hw9]; exact blk_set_ne (blk_set_ne (blk_set_ne (blk_set_ne X148.out ng14.symm) ng14.symm) ng14.symm) ng14.symm)
  have X59 := Lib.hid (Ext2.blk HE9.out X53.out)
  clear hw9 q3c q3f r1 r2 r3 r4 r5 X148 HO8 HE8 X38 X48 X58
  obtain ⟨z1, z2⟩ := HCK.out.rate
  refine (HL.out ⟨S.rlo, S.rhi⟩ 2 (by omega) HCK.out.rle (by simp only; omega) (by simp only; omega) w9 X59.out).mono ?_
  rintro e w10 ⟨rfl, hb10⟩
  obtain ⟨C, hC⟩ : ∃ C, C = lessS ⟨S.rlo, S.rhi⟩ (y 2) := ⟨_, rfl⟩
  rw [← hC]
  have HC' := Lib.hid hC
  have HE10 := Lib.hid (ext_trans HE9.out hb10)
  have HO10 := Lib.hid (HO9.out.below hb10)
  have X1410 := Lib.hid (Ext2.blk hb10 X149.out)
  have x14 := X1410.out
  have x4 := Ext2.blk HE10.out X43.out
  have q14c := cell_blk x14
  have q14f := frz_blk x14
  have q4c := cell_blk x4
  have q4f := frz_blk x4
  clear hb10 hC x14 x4 z1 z2
  go_wp2_with (fail)
  refine calls_name ?_
  intro w11 hw11
  have HE11 : Hid (Ext2 w3 w11) := Lib.hid (by rw [hw11]; exact below_set (below_set HE10.out l14) l14)
  have HO11 : Hid (OwnR w11 be 41 10 (.slice (some ⟨g, 0, none⟩) S.rooms.length cp) S.rooms.length (rmC (S.rooms.set r (lessR R (y 0) (y 1))))) := Lib.hid (by rw [hw11]; exact HO10.out.above (by repeat' (first | (with_reducible assumption) | (with_reducible exact Above.refl _ _) | (with_reducible refine Above.set ?_ (by omega)) | (with_reducible refine Above.alloc ?_ _) | (with_reducible refine Above.ext ?_ (by assumption)))))
  have X1411 : Hid (w11.heap[n14]? = some (Obj.cells #[.slice (some ⟨g, 0, none⟩) S.rooms.length cp, .slice cs.a S.cans.length cs.cap, .int .i64 C.lo, .int .i64 C.hi, .slice ps.a S.steps.length ps.cap] 28)) := Lib.hid (by rw [hw11]; exact Eq.trans (blk_set (blk_set X1410.out 2 _) 3 _) rfl)
  have X511 := Lib.hid (Ext2.blk HE11.out X53.out)
  obtain ⟨⟨t1, t2, t3, t4⟩, t5⟩ := spanE_iff'.1 HSP.out
  clear hw11 q14c q14f q4c q4f
  refine (HL.out t 3 (by omega) t5 (by omega) (by omega) w11 X511.out).mono ?_
  rintro e w12 ⟨rfl, hb12⟩
  obtain ⟨D, hD⟩ : ∃ D, D = lessS t (y 3) := ⟨_, rfl⟩
  rw [← hD]
  have HD := Lib.hid hD
  have HE12 := Lib.hid (ext_trans HE11.out hb12)
  have HO12 := Lib.hid (HO11.out.below hb12)
  have X1412 := Lib.hid (Ext2.blk hb12 X1411.out)
  have x14 := X1412.out
  have x4 := Ext2.blk HE12.out X43.out; have x3 := Ext2.blk HE12.out X33.out
  have k12 := blk_lt x14
  have k3 := blk_lt x3; have k4 := blk_lt x4
  have m14 : ¬ n14 = w12.heap.size := by omega
  have m14' : ¬ w12.heap.size = n14 := by omega
  have m3 : ¬ n3 = w12.heap.size := by omega
  have m3' : ¬ w12.heap.size = n3 := by omega
  have m4' : ¬ n4 = w12.heap.size := by omega
  have m314 : ¬ n3 = n14 := by have := blk_lt X33.out; omega
  have m143 : ¬ n14 = n3 := by omega
  have m34 : ¬ n3 = n4 := by omega
  have m43' : ¬ n4 = n3 := by omega
  have q14c := cell_blk x14
  have q14f := frz_blk x14
  have q4c := cell_blk x4
  have q4f := frz_blk x4
  have q3c := cell_blk x3
  have q3f := frz_blk x3
  clear hb12 hD x14 x4 x3 t1 t2 t3 t4 t5
  go_wp2_with (fail)
  refine calls_name ?_
  intro w13 hw13
  obtain ⟨n16, hn16⟩ : ∃ n, n = w12.heap.size := ⟨_, rfl⟩
  have HB13 : Hid (Below w.heap.size w w13) := Lib.hid (by
    rw [hw13]
    refine Below.alloc (below_set (below_set (ext_trans HE3.out HE12.out) (by omega)) lw3) ?_ _
    simp; exact (ext_trans HE3.out HE12.out).size)
  have X313 : Hid (w13.heap[n3]? = some (Obj.cells #[.slice (some ⟨rb, roff, none⟩) S.rooms.length rc, .slice none 0 0, .int .i64 S.rlo, .int .i64 S.rhi, .slice ps.a S.steps.length ps.cap] 28)) := Lib.hid (by
    rw [hw13]; exact blk_alloc (Eq.trans (blk_set (blk_set_ne (Ext2.blk HE12.out X33.out) m143) 1 _) rfl) _)
  have X1413 : Hid (w13.heap[n14]? = some (Obj.cells #[.slice (some ⟨g, 0, none⟩) S.rooms.length cp, .slice none 0 0, .int .i64 C.lo, .int .i64 C.hi, .slice ps.a S.steps.length ps.cap] 28)) := Lib.hid (by
    rw [hw13]; exact blk_alloc (blk_set_ne (Eq.trans (blk_set X1412.out 1 _) rfl) m314) _)
  have X413 : Hid (w13.heap[n4]? = some (Obj.cells #[.int .i64 t.lo, .int .i64 t.hi, .int .i64 (r : Int), .int .i64 xn, .int .i64 xh, .int .i64 xb] 62)) := Lib.hid (by
    rw [hw13]; exact blk_alloc (blk_set_ne (blk_set_ne (Ext2.blk HE12.out X43.out) (fun h => m4 h.symm)) m34) _)
  have X1613 : Hid (w13.heap[n16]? = some (Obj.cells #[.int .i64 D.lo, .int .i64 D.hi] 25)) := Lib.hid (by rw [hw13, hn16]; exact blk_new' _ _ (by simp))
  have HO13 : Hid (OwnR w13 be 41 10 (.slice (some ⟨g, 0, none⟩) S.rooms.length cp) S.rooms.length (rmC (S.rooms.set r (lessR R (y 0) (y 1))))) := Lib.hid (by rw [hw13]; exact HO12.out.above (by repeat' (first | (with_reducible assumption) | (with_reducible exact Above.refl _ _) | (with_reducible refine Above.set ?_ (by omega)) | (with_reducible refine Above.alloc ?_ _) | (with_reducible refine Above.ext ?_ (by assumption)))))
  have hs := HS.out.below HB13.out
  obtain ⟨S0, hS0⟩ : ∃ S0 : Site, S0 = ⟨S.rooms, [], S.rlo, S.rhi, S.steps⟩ := ⟨_, rfl⟩
  obtain ⟨T, hT⟩ : ∃ T : Site, T = narS S r (lessR R (y 0) (y 1)) C.lo C.hi := ⟨_, rfl⟩
  have HSA : Hid (SiteAt w13 S0 ⟨⟨some ⟨rb, roff, none⟩, rc⟩, ⟨none, 0⟩, ps⟩) := Lib.hid (by
    rw [hS0]
    exact ⟨hs.rm, ⟨Nat.le_refl _, by show 0 ≤ 9223372036854775807; omega, fun i j hi _ => absurd hi (Nat.not_lt_zero i)⟩, hs.st, hs.rsize, fun i hi => absurd hi (Nat.not_lt_zero i)⟩)
  have HTA : Hid (SiteAt w13 T ⟨⟨some ⟨g, 0, none⟩, cp⟩, ⟨none, 0⟩, ps⟩) := Lib.hid (by
    rw [hT]
    have hcl := own_cells HO13.out hn0
    have hll : (S.rooms.set r (lessR R (y 0) (y 1))).length = S.rooms.length := List.length_set
    refine ⟨⟨?_, hcpm, fun i j hi hj => ⟨g, 0, rfl, ?_⟩⟩, ⟨Nat.le_refl _, by show 0 ≤ 9223372036854775807; omega, fun i j hi _ => absurd hi (Nat.not_lt_zero i)⟩, hs.st, fun i hi => ?_, fun i hi => absurd hi (Nat.not_lt_zero i)⟩
    · show (S.rooms.set r (lessR R (y 0) (y 1))).length ≤ cp
      rw [hll]; exact hncp
    · have hi : i < (S.rooms.set r (lessR R (y 0) (y 1))).length := hi
      rw [hll] at hi
      rw [Nat.zero_add]; exact hcl.1 i j hi hj
    · have hi : i < (S.rooms.set r (lessR R (y 0) (y 1))).length := hi
      rw [hll] at hi
      show (rmD (S.rooms.set r (lessR R (y 0) (y 1))) i).name.size ≤ maxLen
      rw [rmD_set hrl']
      split
      · show R.name.size ≤ maxLen
        rw [HR.out]; exact hs.rsize r hrl'
      · exact hs.rsize i hi)
  have hnv := HNV.out
  rw [HSO.out.1, HSO.out.2]
  obtain ⟨n1, n2, n3', n4', n5', n6, n7⟩ := hnv
  have hCE : C = lessS ⟨S.rlo, S.rhi⟩ (y 2) := HC'.out
  have hDE : D = lessS t (y 3) := HD.out
  rw [← HR.out, ← hCE, ← hT] at n2 n7
  rw [← hS0] at n1 n7
  rw [← HR.out] at n4' n5' n6
  rw [← hDE] at n3' n4' n5' n7
  rw [← HR.out]
  have hTr : rmD T.rooms r = lessR R (y 0) (y 1) := by rw [hT]; show rmD (S.rooms.set r _) r = _; rw [rmD_set hrl', if_pos rfl]
  have hSr : rmD S0.rooms r = R := by rw [hS0, HR.out]
  have hTl : T.rooms.length = S.rooms.length := by rw [hT]; exact List.length_set
  have hSl : S0.rooms.length = S.rooms.length := by rw [hS0]
  obtain ⟨R', hR'⟩ : ∃ R', R' = lessR R (y 0) (y 1) := ⟨_, rfl⟩
  rw [← hR'] at n4' n5' n7 hTr
  have HSw : Hid (Calls Tryd.prog 31 #[.agg #[.slice (some ⟨g, 0, none⟩) S.rooms.length cp, .slice none 0 0, .int .i64 C.lo, .int .i64 C.hi, .slice ps.a S.steps.length ps.cap], .agg #[.int .i64 D.lo, .int .i64 D.hi], .int .i64 (r : Int)] w13 fun e w' => e = .returned (.tuple #[.bool (wet D.hi R'.tlo R'.dlo), .bool (mayS D R'), .int .i64 0]) ∧ Below w13.heap.size w13 w') := Lib.hid (by
    have h := sweats_any (t := D) (r := (r : Int)) HTA.out (HM.out.below HB13.out)
    rw [sweatO_of n2 n3' (by rw [hTl]; exact hrl'), hTr, hTl] at h
    have e1 : T.cans.length = 0 := by rw [hT]; rfl
    have e2 : T.rlo = C.lo := by rw [hT]; rfl
    have e3 : T.rhi = C.hi := by rw [hT]; rfl
    have e4 : T.steps = S.steps := by rw [hT]; rfl
    rw [e1, e2, e3, e4] at h
    exact h)
  obtain ⟨hh, hhh⟩ : ∃ k : Nat, k = (max 0 (min 40 xh)).toNat := ⟨_, rfl⟩
  have hmx : max (0 : Int) (min 40 xh) = (hh : Int) := by omega
  have hh40 : hh ≤ 40 := by omega
  have HWm1 : Hid (∀ W, Ext2 w13 W → Calls Tryd.prog 33 #[.agg #[.slice (some ⟨rb, roff, none⟩) S.rooms.length rc, .slice none 0 0, .int .i64 S.rlo, .int .i64 S.rhi, .slice ps.a S.steps.length ps.cap], .agg #[.int .i64 t.lo, .int .i64 t.hi], .int .i64 (r : Int), .int .i64 (hh : Int)] W fun e w' => e = .returned (.tuple #[.agg #[.int .i64 (warmN S0 R hh t).lo, .int .i64 (warmN S0 R hh t).hi], .int .i64 0]) ∧ Below W.heap.size W w') := Lib.hid fun W hW => by
    have h := warmA_any (t := t) (r := (r : Int)) (h := (hh : Int)) (HSA.out.below hW) (HM.out.below (HB13.out.trans (Below.mono hW HB13.out.size)))
    rw [warmO_of n1 HSP.out (by rw [hSl]; exact hrl') (by omega), hSr, hSl] at h
    have e1 : S0.cans.length = 0 := by rw [hS0]; rfl
    have e2 : S0.rlo = S.rlo := by rw [hS0]
    have e3 : S0.rhi = S.rhi := by rw [hS0]
    have e4 : S0.steps = S.steps := by rw [hS0]
    rw [e1, e2, e3, e4] at h
    exact h
  have HWm2 : Hid (∀ W, Ext2 w13 W → Calls Tryd.prog 33 #[.agg #[.slice (some ⟨g, 0, none⟩) S.rooms.length cp, .slice none 0 0, .int .i64 C.lo, .int .i64 C.hi, .slice ps.a S.steps.length ps.cap], .agg #[.int .i64 D.lo, .int .i64 D.hi], .int .i64 (r : Int), .int .i64 (hh : Int)] W fun e w' => e = .returned (.tuple #[.agg #[.int .i64 (warmN T R' hh D).lo, .int .i64 (warmN T R' hh D).hi], .int .i64 0]) ∧ Below W.heap.size W w') := Lib.hid fun W hW => by
    have h := warmA_any (t := D) (r := (r : Int)) (h := (hh : Int)) (HTA.out.below hW) (HM.out.below (HB13.out.trans (Below.mono hW HB13.out.size)))
    rw [warmO_of n2 n3' (by rw [hTl]; exact hrl') (by omega), hTr, hTl] at h
    have e1 : T.cans.length = 0 := by rw [hT]; rfl
    have e2 : T.rlo = C.lo := by rw [hT]; rfl
    have e3 : T.rhi = C.hi := by rw [hT]; rfl
    have e4 : T.steps = S.steps := by rw [hT]; rfl
    rw [e1, e2, e3, e4] at h
    exact h
  have hwi := n7 hh
  obtain ⟨U1, hU1⟩ : ∃ u, u = warmN S0 R hh t := ⟨_, rfl⟩
  obtain ⟨U2, hU2⟩ : ∃ u, u = warmN T R' hh D := ⟨_, rfl⟩
  rw [← hU1] at HWm1 hwi
  rw [← hU2] at HWm2 hwi
  obtain ⟨wi1, wi2⟩ := hwi
  obtain ⟨b1, hb1⟩ : ∃ u, u = wet t.hi R.tlo R.dlo := ⟨_, rfl⟩
  obtain ⟨b2, hb2'⟩ : ∃ u, u = mayS t R := ⟨_, rfl⟩
  obtain ⟨b3, hb3'⟩ : ∃ u, u = wet D.hi R'.tlo R'.dlo := ⟨_, rfl⟩
  obtain ⟨b4, hb4'⟩ : ∃ u, u = mayS D R' := ⟨_, rfl⟩
  rw [← hb1, ← hb2']
  rw [← hb1, ← hb3'] at n4'
  rw [← hb2', ← hb4'] at n5'
  rw [← hb1, ← hb2'] at n6
  rw [← hb3', ← hb4'] at HSw
  rw [← hn16]
  clear hs hS0 hT hTr hSr hTl hSl hR' hU1 hU2 hb1 hb2' hb3' hb4' hCE hDE n1 n2 n3' n7 hhh hw13 hn16 q14c q14f q4c q4f q3c q3f m14 m14' m3 m3' m4' m4 m43 k12 k3 k4
  refine HSw.out.mono ?_
  rintro e w14 ⟨rfl, hb14⟩
  have HE14 := Lib.hid hb14
  have HB14 := Lib.hid (HB13.out.trans (Below.mono hb14 HB13.out.size))
  have x4 := Ext2.blk hb14 X413.out
  have x3 := Ext2.blk hb14 X313.out
  have q4c := cell_blk x4
  have q4f := frz_blk x4
  have q3c := cell_blk x3
  have q3f := frz_blk x3
  clear hb14 x4 x3
  cases b1 <;> cases b4
  case' true.true => (obtain rfl := n4' rfl; obtain rfl := n5' rfl)
  case' true.false => (obtain rfl := n4' rfl; obtain rfl := n6 rfl)
  case' false.true => obtain rfl := n5' rfl
  all_goals
    clear n4' n5' n6
    go_wp2_with (fail)
    refine (HWm1.out _ HE14.out).mono ?_
    rintro e w15 ⟨rfl, hb15⟩
    have HE15 := Lib.hid (ext_trans HE14.out hb15)
    have HB15 := Lib.hid (HB14.out.trans (Below.mono hb15 HB14.out.size))
    have x14 := Ext2.blk HE15.out X1413.out
    have x16 := Ext2.blk HE15.out X1613.out
    have x4 := Ext2.blk HE15.out X413.out
    have k14 := blk_lt x14; have k16 := blk_lt x16; have k4 := blk_lt x4
    have j14 : ¬ n14 = w15.heap.size := by omega
    have j16 : ¬ n16 = w15.heap.size := by omega
    have j4 : ¬ n4 = w15.heap.size := by omega
    clear hb15 q4c q4f q3c q3f
    have q14c := cell_blk x14
    have q14f := frz_blk x14
    have q16c := cell_blk x16
    have q16f := frz_blk x16
    have q4c := cell_blk x4
    have q4f := frz_blk x4
    clear x14 x16 x4
    go_wp2_with (fail)
    refine calls_name ?_
    intro w16 hw16
    obtain ⟨n20, hn20⟩ : ∃ n, n = w15.heap.size := ⟨_, rfl⟩
    have hE16 : Ext2 w15 w16 := by rw [hw16]; exact below_alloc' _ _
    have X20 : Hid (w16.heap[n20]? = some (Obj.cells #[.int .i64 U1.lo, .int .i64 U1.hi] 25)) := Lib.hid (by rw [hw16, hn20]; exact blk_new _ _)
    have HE16 := Lib.hid (ext_trans HE15.out hE16)
    have HB16 := Lib.hid (HB15.out.trans (Below.mono hE16 HB15.out.size))
    rw [← hn20]
    clear hw16 hn20 hE16 q14c q14f q16c q16f q4c q4f j14 j16 j4 k14 k16 k4
    refine (HWm2.out _ HE16.out).mono ?_
    rintro e w17 ⟨rfl, hb17⟩
    have HB17 := Lib.hid (HB16.out.trans (Below.mono hb17 HB16.out.size))
    have x20 := Ext2.blk hb17 X20.out
    have k20 := blk_lt x20
    have j20 : ¬ n20 = w17.heap.size := by omega
    have b00 : ((0 : Int) == 0) = true := rfl
    clear hb17
    have q20c := cell_blk x20
    have q20f := frz_blk x20
    clear x20
    go_wp2_with (fail)
    refine calls_name ?_
    intro w18 hw18
    have hB18 : Below w.heap.size w w18 := by rw [hw18]; exact Below.alloc HB17.out HB17.out.size _
    clear hw18 q20c q20f
    refine (awake_any (HM.out.below hB18)).mono ?_
    rintro e w19 ⟨rfl, hb19⟩
    go_wp2_with (fail)
    go_ret
    exact ⟨rfl, hB18.trans (Below.mono hb19 hB18.size)⟩
end Go.Proofs.YtkidicfpfknfoaaDoor
