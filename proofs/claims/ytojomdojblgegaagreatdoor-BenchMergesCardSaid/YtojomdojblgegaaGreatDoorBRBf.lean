/-
  ref.before.
-/
import Derived.Test.YtojomdojblgegaaGreatDoorBRSd
import Derived.Test.YtojomdojblgegaaGreatDoorBOrS
namespace Go.Proofs.YtojomdojblgegaaGreatDoor.D
theorem fst0_at : ∀ {l : List Int} {k : Nat}, (∀ j, j < k → intD l j = 0) → k < l.length → intD l k ≠ 0 → fst0 l = intD l k
  | [], k, _, h, _ => absurd h (by simp)
  | x :: l, 0, _, _, hk => by rw [fst0, if_pos (show x ≠ 0 from hk)]; rfl
  | x :: l, k + 1, h, hl, hk => by
    have h0 : x = 0 := h 0 (by omega)
    rw [fst0, if_neg (by simpa using h0)]
    exact fst0_at (l := l) (k := k) (fun j hj => h (j + 1) (by omega)) (by simpa using hl) hk
end Go.Proofs.YtojomdojblgegaaGreatDoor.D
namespace Go.Proofs.YtojomdojblgegaaGreatDoor
open Go.RowKit D
set_option linter.unusedVariables false
set_option linter.unusedSimpArgs false
attribute [local go_sem high] run_minI run_maxI
attribute [local go_sem] upon2 cls_cell cls_frozen forall_const exists_eq_left'
attribute [local go_sem] FirstUpon atBlk_cell
def bfP (a : Note) : List Int := [a.from_, a.until_, a.kind]
def bfQ (a : Note) : List Int := [a.number, a.rev, a.mlo, a.mhi]
theorem bfP_cell {w : World} {b : Nat} {a : Note} (h : w.heap[b]? = some (.cells #[.int .i64 a.from_, .int .i64 a.until_, .int .i64 a.kind] 3 (0, 0))) (k : Nat) (hk : k < 3) : w.cell? ⟨b, k, none⟩ = some (.int .i64 (intD (bfP a) k)) := by
  rw [cell_blk h]
  rcases (by omega : k = 0 ∨ k = 1 ∨ k = 2) with rfl | rfl | rfl <;> rfl
theorem bfQ_cell {w : World} {b : Nat} {a : Note} (h : w.heap[b]? = some (.cells #[.int .i64 a.number, .int .i64 a.rev, .int .i64 a.mlo, .int .i64 a.mhi] 3 (0, 0))) (k : Nat) (hk : k < 4) : w.cell? ⟨b, k, none⟩ = some (.int .i64 (intD (bfQ a) k)) := by
  rw [cell_blk h]
  rcases (by omega : k = 0 ∨ k = 1 ∨ k = 2 ∨ k = 3) with rfl | rfl | rfl | rfl <;> rfl
def bfO (a b : Note) : List Int := [a.from_ - b.from_, a.until_ - b.until_, a.kind - b.kind, cmpS a.by_ b.by_, a.number - b.number, a.rev - b.rev, a.mlo - b.mlo, a.mhi - b.mhi]
theorem ordP (a b : Note) (k : Nat) (hk : k < 3) : intD (bfO a b) k = intD (bfP a) k - intD (bfP b) k := by
  rcases (by omega : k = 0 ∨ k = 1 ∨ k = 2) with rfl | rfl | rfl <;> rfl
theorem ordQ (a b : Note) (k : Nat) (hk : k < 4) : intD (bfO a b) (k + 4) = intD (bfQ a) k - intD (bfQ b) k := by
  rcases (by omega : k = 0 ∨ k = 1 ∨ k = 2 ∨ k = 3) with rfl | rfl | rfl | rfl <;> rfl
/-- Where the first parts differ. -/
theorem ord_first {a b : Note} {k : Nat} (h : ∀ j, j < k → intD (bfP a) j = intD (bfP b) j) (hk : k < 3) (hn : intD (bfP a) k ≠ intD (bfP b) k) : decide (ordV a b < 0) = decide (intD (bfP a) k < intD (bfP b) k) := by
  have e : ordV a b = intD (bfO a b) k := fst0_at (l := bfO a b) (k := k) (fun j hj => by rw [ordP a b j (by omega), h j hj]; omega) (by show k < 8; omega) (by rw [ordP a b k hk]; omega)
  rw [e, ordP a b k hk]
  exact decide_eq_decide.2 ⟨fun h => by omega, fun h => by omega⟩
theorem ord_name {a b : Note} (h : ∀ j, j < 3 → intD (bfP a) j = intD (bfP b) j) (hn : a.by_ ≠ b.by_) : decide (ordV a b < 0) = ltB a.by_ b.by_ := by
  have hc : cmpS a.by_ b.by_ ≠ 0 := fun hz => hn (cmpS_zero.1 hz)
  have e : ordV a b = cmpS a.by_ b.by_ := fst0_at (l := bfO a b) (k := 3) (fun j hj => by rw [ordP a b j hj, h j hj]; omega) (by show 3 < 8; omega) hc
  rw [e]
  unfold cmpS at hc ⊢
  by_cases h1 : ltB a.by_ b.by_ = true
  · rw [if_pos h1, h1]; rfl
  · rw [if_neg h1] at hc ⊢
    by_cases h2 : ltB b.by_ a.by_ = true
    · rw [if_pos h2]; simp [h1]
    · rw [if_neg h2] at hc; exact absurd rfl hc
theorem ord_last {a b : Note} {k : Nat} (h : ∀ j, j < 3 → intD (bfP a) j = intD (bfP b) j) (hn : a.by_ = b.by_) (h2 : ∀ j, j < k → intD (bfQ a) j = intD (bfQ b) j) (hk : k < 4) (hd : intD (bfQ a) k ≠ intD (bfQ b) k) : decide (ordV a b < 0) = decide (intD (bfQ a) k < intD (bfQ b) k) := by
  have e : ordV a b = intD (bfO a b) (k + 4) := fst0_at (l := bfO a b) (k := k + 4) (fun j hj => by
    rcases Nat.lt_or_ge j 3 with h' | h'
    · rw [ordP a b j h', h j h']; omega
    · rcases Nat.lt_or_ge j 4 with h3 | h3
      · obtain rfl : j = 3 := by omega
        show cmpS a.by_ b.by_ = 0
        exact cmpS_zero.2 hn
      · obtain ⟨i, rfl⟩ : ∃ i, j = i + 4 := ⟨j - 4, by omega⟩
        rw [ordQ a b i (by omega), h2 i (by omega)]; omega) (by show k + 4 < 8; omega) (by rw [ordQ a b k hk]; omega)
  rw [e, ordQ a b k hk]
  exact decide_eq_decide.2 ⟨fun h => by omega, fun h => by omega⟩
theorem ord_none {a b : Note} (h : ∀ j, j < 3 → intD (bfP a) j = intD (bfP b) j) (hn : a.by_ = b.by_) (h2 : ∀ j, j < 4 → intD (bfQ a) j = intD (bfQ b) j) : decide (ordV a b < 0) = false := by
  have e : ordV a b = 0 := fst0_zero.2 fun x hx => by
    have hx' : x ∈ bfO a b := hx
    obtain ⟨j, hj, rfl⟩ := List.mem_iff_getElem.1 hx'
    have hj8 : j < 8 := hj
    have hg : (bfO a b)[j] = intD (bfO a b) j := by unfold intD; rw [List.getD_eq_getElem?_getD, List.getElem?_eq_getElem hj]; rfl
    refine hg.trans ?_
    rcases Nat.lt_or_ge j 3 with h' | h'
    · rw [ordP a b j h', h j h']; omega
    · rcases Nat.lt_or_ge j 4 with h3 | h3
      · obtain rfl : j = 3 := by omega
        exact cmpS_zero.2 hn
      · obtain ⟨i, rfl⟩ : ∃ i, j = i + 4 := ⟨j - 4, by omega⟩
        rw [ordQ a b i (by omega), h2 i (by omega)]; omega
  rw [e]; rfl
set_option maxRecDepth 100000 in
set_option maxHeartbeats 8000000 in
theorem beforeN_any {a b : Note} {w : World} : Calls Tryz.prog 72 #[.agg #[.string a.by_, .int .i64 a.number, .int .i64 a.rev, .int .i64 a.kind, .int .i64 a.from_, .int .i64 a.until_, .int .i64 a.mlo, .int .i64 a.mhi], .agg #[.string b.by_, .int .i64 b.number, .int .i64 b.rev, .int .i64 b.kind, .int .i64 b.from_, .int .i64 b.until_, .int .i64 b.mlo, .int .i64 b.mhi]] w fun e w' => e = .returned (.bool (decide (ordV a b < 0))) ∧ Below w.heap.size w w' := by
  obtain ⟨v, hv⟩ : ∃ v, v = decide (ordV a b < 0) := ⟨_, rfl⟩
  rw [← hv]
  have HV := Lib.hid hv
  clear hv
  go_enter Tryz.func72, Tryz.ntmps72
  go_upto_region 1 with (fail)
  refine wp_name ?_
  intro w3 hw3
  obtain ⟨n2, hn2⟩ : ∃ n, n = w.heap.size := ⟨_, rfl⟩
  obtain ⟨n3, hn3⟩ : ∃ n, n = n2 + 1 := ⟨_, rfl⟩
  have x2 : w3.heap[n2]? = some (Obj.cells #[.string a.by_, .int .i64 a.number, .int .i64 a.rev, .int .i64 a.kind, .int .i64 a.from_, .int .i64 a.until_, .int .i64 a.mlo, .int .i64 a.mhi] 59) := by rw [hw3, hn2]; exact blk_alloc (blk_new _ _) _
  have x3 : w3.heap[n3]? = some (Obj.cells #[.string b.by_, .int .i64 b.number, .int .i64 b.rev, .int .i64 b.kind, .int .i64 b.from_, .int .i64 b.until_, .int .i64 b.mlo, .int .i64 b.mhi] 59) := by rw [hw3, hn3, hn2]; exact blk_new' _ _ (by simp)
  have hE3 : Ext2 w w3 := by rw [hw3]; exact ext_trans (below_alloc' _ _) (below_alloc' _ _)
  rw [← hn2, ← hn3]
  have HE3 := Lib.hid hE3; have X2 := Lib.hid x2; have X3 := Lib.hid x3
  clear hw3 hn2 hn3 hE3
  have q2c := cell_blk x2
  have q2f := frz_blk x2
  have q3c := cell_blk x3
  have q3f := frz_blk x3
  clear x2 x3
  go_upto_region 2 with (fail)
  refine wp_name ?_
  intro wa hwa
  obtain ⟨n5, hn5⟩ : ∃ n, n = w3.heap.size := ⟨_, rfl⟩
  have x5 : wa.heap[n5]? = some (.cells #[.int .i64 a.from_, .int .i64 a.until_, .int .i64 a.kind] 3 (0, 0)) := by rw [hwa, hn5]; exact blk_new _ _
  have hEa : Ext2 w3 wa := by rw [hwa]; exact below_alloc' _ _
  rw [← hn5]
  have HEa := Lib.hid (ext_trans HE3.out hEa)
  have X2a := Lib.hid (Ext2.blk hEa X2.out); have X3a := Lib.hid (Ext2.blk hEa X3.out); have X5a := Lib.hid x5
  clear hwa hn5 hEa q2c q2f q3c q3f X2 X3 HE3 x5
  have x3 := X3a.out
  have q3c := cell_blk x3
  have q3f := frz_blk x3
  clear x3
  go_upto_region 3 with (fail)
  refine wp_name ?_
  intro w4 hw4
  obtain ⟨n6, hn6⟩ : ∃ n, n = wa.heap.size := ⟨_, rfl⟩
  have x6 : w4.heap[n6]? = some (.cells #[.int .i64 b.from_, .int .i64 b.until_, .int .i64 b.kind] 3 (0, 0)) := by rw [hw4, hn6]; exact blk_new _ _
  have hE4 : Ext2 wa w4 := by rw [hw4]; exact below_alloc' _ _
  rw [← hn6]
  have HE4 := Lib.hid (ext_trans HEa.out hE4); have X5 := Lib.hid (Ext2.blk hE4 X5a.out); have X6 := Lib.hid x6
  have X24 := Lib.hid (Ext2.blk hE4 X2a.out); have X34 := Lib.hid (Ext2.blk hE4 X3a.out)
  clear hw4 hn6 hE4 q3c q3f X2a X3a X5a HEa x6
  go_wp2_with (fail)
  go_loopw [7] (fun i wr => ∃ k : Nat, i = .int .i64 k ∧ k ≤ 3 ∧ Ext2 w4 wr ∧ ∀ j, j < k → intD (bfP a) j = intD (bfP b) j) (fun i _ => 3 - (intOf i).toNat)
  case atStart => exact ⟨0, rfl, by omega, Below.refl _ _, fun j h => absurd h (by omega)⟩
  case round =>
    obtain ⟨k, rfl, hk, hE, hall⟩ := hrel
    have HEr := Lib.hid hE; have HALL := Lib.hid hall
    have HE := Lib.hid (ext_trans HE4.out hE)
    clear hall
    by_cases hlt : k < 3
    · go_light
      have c0 := bfP_cell (hE.blk X5.out) k hlt
      have c1 := bfP_cell (hE.blk X6.out) k hlt
      have HF1 : Hid (intD (bfP a) k ≠ intD (bfP b) k → v = decide (intD (bfP a) k < intD (bfP b) k)) := Lib.hid fun h => by rw [HV.out]; exact ord_first HALL.out hlt h
      have HN1 : Hid (intD (bfP a) k = intD (bfP b) k → ∀ j, j < k + 1 → intD (bfP a) j = intD (bfP b) j) := Lib.hid fun h j hj => by
        rcases Nat.lt_or_ge j k with h' | h'
        · exact HALL.out j h'
        · obtain rfl : j = k := by omega
          exact h
      obtain ⟨p, hp⟩ : ∃ p, p = intD (bfP a) k := ⟨_, rfl⟩
      obtain ⟨q, hq⟩ : ∃ q, q = intD (bfP b) k := ⟨_, rfl⟩
      rw [← hp] at c0 HF1 HN1; rw [← hq] at c1 HF1 HN1
      have C0 := Lib.hid c0; have C1 := Lib.hid c1
      have g0 : (0 : Int) ≤ (k : Int) := by omega
      have g1 : (k : Int) < 3 := by omega
      have e0 : decide ((0 : Int) ≤ (k : Int)) = true := decide_eq_true g0
      have e1 : decide ((k : Int) < 3) = true := decide_eq_true g1
      have w1' : IntKind.i64.wrap ((k : Int) + 1) = (k : Int) + 1 := IntWalk.i64_in _ (by omega)
      clear hE hp hq hlt
      go_upto_region 6 with (fail)
      by_cases hpq : p = q
      · have b1 : (p != q) = false := by simp [hpq]
        have HN2 := Lib.hid (HN1.out hpq)
        clear hpq
        refine region_ev [] [0, 1, 2, 3, 4, 5, 6, 7, 8] [] [] (by kernel_rfl) (by kernel_rfl) (by intro c a d v w h; cases d <;> exact h) ?_
        simp only [picks, List.drop_succ_cons, List.drop_zero]
        repeat (refine wpQ0_step (fun K hK => ?_); go_simp; (refine hK _ ?_; clear hK K))
        refine wpQ0_nil ?_
        repeat ((with_reducible refine wpQ2_step (fun K hK => ?_)); go_simp; first | ((with_reducible refine hK _ ?_); clear hK K) | (apply Exists.intro; refine ⟨fun x => ?_, hK _ ?_⟩; (fail); clear hK K))
        refine wpQ2_nil ?_
        refine Events.none_ fun w7 hg7 => ?_
        simp only [picks, List.drop_succ_cons, List.drop_zero]
        have HE7 := Lib.hid (ext_trans HEr.out hg7)
        clear c0 c1 C0 C1 hg7
        go_wp2_with (fail)
        go_roundw
        case rel => exact ⟨k + 1, by go_num, by omega, HE7.out, HN2.out⟩
        case measure => simp [intOf]; omega
      · have b1 : (p != q) = true := by simpa using hpq
        have HF2 := Lib.hid (HF1.out hpq)
        clear hpq
        refine region_ev [] [0, 1, 2, 3, 4, 5, 6, 7, 8] [] [] (by kernel_rfl) (by kernel_rfl) (by intro c a d v w h; cases d <;> exact h) ?_
        simp only [picks, List.drop_succ_cons, List.drop_zero]
        repeat (refine wpQ0_step (fun K hK => ?_); go_simp; (refine hK _ ?_; clear hK K))
        refine wpQ0_nil ?_
        repeat ((with_reducible refine wpQ2_step (fun K hK => ?_)); go_simp; first | ((with_reducible refine hK _ ?_); clear hK K) | (apply Exists.intro; refine ⟨fun x => ?_, hK _ ?_⟩; (fail); clear hK K))
        refine wpQ2_nil ?_
        refine Events.none_ fun w7 hg7 => ?_
        simp only [picks, List.drop_succ_cons, List.drop_zero]
        have HE7 := Lib.hid (ext_trans HE.out hg7)
        have c0 := ext_cell' hg7 C0.out; have c1 := ext_cell' hg7 C1.out
        clear hg7
        go_upto_region 7 with (fail)
        refine region_ev [] [0, 1, 2, 3, 4, 5, 6, 7, 8, 9] [] [] (by kernel_rfl) (by kernel_rfl) (by intro c a d v w h; cases d <;> exact h) ?_
        simp only [picks, List.drop_succ_cons, List.drop_zero]
        repeat (refine wpQ0_step (fun K hK => ?_); go_simp; (refine hK _ ?_; clear hK K))
        refine wpQ0_nil ?_
        repeat ((with_reducible refine wpQ2_step (fun K hK => ?_)); go_simp; first | ((with_reducible refine hK _ ?_); clear hK K) | (apply Exists.intro; refine ⟨fun x => ?_, hK _ ?_⟩; (fail); clear hK K))
        refine wpQ2_nil ?_
        refine Events.none_ fun w8 hg8 => ?_
        simp only [picks, List.drop_succ_cons, List.drop_zero]
        have HE8 := Lib.hid (ext_trans HE7.out hg8)
        clear c0 c1 C0 C1 hg8
        go_wp2_with (fail)
        go_ret
        exact ⟨ret_bool HF2.out.symm, HE8.out⟩
    · have hn3 : ¬ (k : Int) < 3 := by omega
      have hd3 : decide ((k : Int) < 3) = false := decide_eq_false hn3
      have HALL3 : Hid (∀ j, j < 3 → intD (bfP a) j = intD (bfP b) j) := Lib.hid fun j hj => HALL.out j (by omega)
      have x2 := hE.blk X24.out; have x3 := hE.blk X34.out
      have X2r := Lib.hid x2; have X3r := Lib.hid x3
      clear hE hlt hk
      have q2c := cell_blk x2
      have q2f := frz_blk x2
      have q3c := cell_blk x3
      have q3f := frz_blk x3
      clear x2 x3
      have e1 := bytesLess_ltB a.by_ b.by_
      by_cases hby : a.by_ = b.by_
      case neg =>
        have HF := Lib.hid (HV.out.trans (ord_name HALL3.out hby))
        have hS1 : (a.by_.toList == b.by_.toList) = false := by simp [toL_iff, hby]
        have hS2 : (a.by_.toList != b.by_.toList) = true := by simp [bne, toL_iff, hby]
        obtain ⟨u, hu⟩ : ∃ u, u = ltB a.by_ b.by_ := ⟨_, rfl⟩
        rw [← hu] at e1 HF
        clear hby hu
        go_wp2_with (fail)
        go_ret
        exact ⟨ret_bool HF.out.symm, HE.out⟩
      have hS1 : (a.by_.toList == b.by_.toList) = true := by simp [hby]
      have hS2 : (a.by_.toList != b.by_.toList) = false := by simp [bne, hby]
      have HBY := Lib.hid hby
      clear hby e1
      go_upto_region 11 with (fail)
      refine wp_name ?_
      intro wa hwa
      obtain ⟨n7, hn7⟩ : ∃ n, n = wr.heap.size := ⟨_, rfl⟩
      have x5 : wa.heap[n7]? = some (.cells #[.int .i64 a.number, .int .i64 a.rev, .int .i64 a.mlo, .int .i64 a.mhi] 3 (0, 0)) := by rw [hwa, hn7]; exact blk_new _ _
      have hEa : Ext2 wr wa := by rw [hwa]; exact below_alloc' _ _
      rw [← hn7]
      have HEa := Lib.hid (ext_trans HE.out hEa)
      have X3a := Lib.hid (Ext2.blk hEa X3r.out); have X5a := Lib.hid x5
      clear hwa hn7 hEa q2c q2f q3c q3f X2r X3r x5 hS1 hS2 X24 X34 X5 X6
      have x3 := X3a.out
      have q3c := cell_blk x3
      have q3f := frz_blk x3
      clear x3
      go_upto_region 12 with (fail)
      refine wp_name ?_
      intro wb hwb
      obtain ⟨n8, hn8⟩ : ∃ n, n = wa.heap.size := ⟨_, rfl⟩
      have x6 : wb.heap[n8]? = some (.cells #[.int .i64 b.number, .int .i64 b.rev, .int .i64 b.mlo, .int .i64 b.mhi] 3 (0, 0)) := by rw [hwb, hn8]; exact blk_new _ _
      have hEb : Ext2 wa wb := by rw [hwb]; exact below_alloc' _ _
      rw [← hn8]
      have HEb := Lib.hid (ext_trans HEa.out hEb); have X5 := Lib.hid (Ext2.blk hEb X5a.out); have X6 := Lib.hid x6
      clear hwb hn8 hEb q3c q3f X3a X5a HEa x6 HEr HALL HE HE4 hn3 hd3
      go_wp2_with (fail)
      go_loopw [8] (fun i ws => ∃ k : Nat, i = .int .i64 k ∧ k ≤ 4 ∧ Ext2 wb ws ∧ ∀ j, j < k → intD (bfQ a) j = intD (bfQ b) j) (fun i _ => 4 - (intOf i).toNat)
      case atStart => exact ⟨0, rfl, by omega, Below.refl _ _, fun j h => absurd h (by omega)⟩
      case round =>
        obtain ⟨k, rfl, hk, hE, hall⟩ := hrel
        have HEr := Lib.hid hE; have HALL := Lib.hid hall
        have HE := Lib.hid (ext_trans HEb.out hE)
        clear hall
        by_cases hlt : k < 4
        · go_light
          have c0 := bfQ_cell (hE.blk X5.out) k hlt
          have c1 := bfQ_cell (hE.blk X6.out) k hlt
          have HF1 : Hid (intD (bfQ a) k ≠ intD (bfQ b) k → v = decide (intD (bfQ a) k < intD (bfQ b) k)) := Lib.hid fun h => by rw [HV.out]; exact ord_last HALL3.out HBY.out HALL.out hlt h
          have HN1 : Hid (intD (bfQ a) k = intD (bfQ b) k → ∀ j, j < k + 1 → intD (bfQ a) j = intD (bfQ b) j) := Lib.hid fun h j hj => by
            rcases Nat.lt_or_ge j k with h' | h'
            · exact HALL.out j h'
            · obtain rfl : j = k := by omega
              exact h
          obtain ⟨p, hp⟩ : ∃ p, p = intD (bfQ a) k := ⟨_, rfl⟩
          obtain ⟨q, hq⟩ : ∃ q, q = intD (bfQ b) k := ⟨_, rfl⟩
          rw [← hp] at c0 HF1 HN1; rw [← hq] at c1 HF1 HN1
          have C0 := Lib.hid c0; have C1 := Lib.hid c1
          have g0 : (0 : Int) ≤ (k : Int) := by omega
          have g1 : (k : Int) < 4 := by omega
          have e0 : decide ((0 : Int) ≤ (k : Int)) = true := decide_eq_true g0
          have e1 : decide ((k : Int) < 4) = true := decide_eq_true g1
          have w1' : IntKind.i64.wrap ((k : Int) + 1) = (k : Int) + 1 := IntWalk.i64_in _ (by omega)
          clear hE hp hq hlt
          go_upto_region 15 with (fail)
          by_cases hpq : p = q
          · have b1 : (p != q) = false := by simp [hpq]
            have HN2 := Lib.hid (HN1.out hpq)
            clear hpq
            refine region_ev [] [0, 1, 2, 3, 4, 5, 6, 7, 8] [] [] (by kernel_rfl) (by kernel_rfl) (by intro c a d v w h; cases d <;> exact h) ?_
            simp only [picks, List.drop_succ_cons, List.drop_zero]
            repeat (refine wpQ0_step (fun K hK => ?_); go_simp; (refine hK _ ?_; clear hK K))
            refine wpQ0_nil ?_
            repeat ((with_reducible refine wpQ2_step (fun K hK => ?_)); go_simp; first | ((with_reducible refine hK _ ?_); clear hK K) | (apply Exists.intro; refine ⟨fun x => ?_, hK _ ?_⟩; (fail); clear hK K))
            refine wpQ2_nil ?_
            refine Events.none_ fun w7 hg7 => ?_
            simp only [picks, List.drop_succ_cons, List.drop_zero]
            have HE7 := Lib.hid (ext_trans HEr.out hg7)
            clear c0 c1 C0 C1 hg7
            go_wp2_with (fail)
            go_roundw
            case rel => exact ⟨k + 1, by go_num, by omega, HE7.out, HN2.out⟩
            case measure => simp [intOf]; omega
          · have b1 : (p != q) = true := by simpa using hpq
            have HF2 := Lib.hid (HF1.out hpq)
            clear hpq
            refine region_ev [] [0, 1, 2, 3, 4, 5, 6, 7, 8] [] [] (by kernel_rfl) (by kernel_rfl) (by intro c a d v w h; cases d <;> exact h) ?_
            simp only [picks, List.drop_succ_cons, List.drop_zero]
            repeat (refine wpQ0_step (fun K hK => ?_); go_simp; (refine hK _ ?_; clear hK K))
            refine wpQ0_nil ?_
            repeat ((with_reducible refine wpQ2_step (fun K hK => ?_)); go_simp; first | ((with_reducible refine hK _ ?_); clear hK K) | (apply Exists.intro; refine ⟨fun x => ?_, hK _ ?_⟩; (fail); clear hK K))
            refine wpQ2_nil ?_
            refine Events.none_ fun w7 hg7 => ?_
            simp only [picks, List.drop_succ_cons, List.drop_zero]
            have HE7 := Lib.hid (ext_trans HE.out hg7)
            have c0 := ext_cell' hg7 C0.out; have c1 := ext_cell' hg7 C1.out
            clear hg7
            go_upto_region 16 with (fail)
            refine region_ev [] [0, 1, 2, 3, 4, 5, 6, 7, 8, 9] [] [] (by kernel_rfl) (by kernel_rfl) (by intro c a d v w h; cases d <;> exact h) ?_
            simp only [picks, List.drop_succ_cons, List.drop_zero]
            repeat (refine wpQ0_step (fun K hK => ?_); go_simp; (refine hK _ ?_; clear hK K))
            refine wpQ0_nil ?_
            repeat ((with_reducible refine wpQ2_step (fun K hK => ?_)); go_simp; first | ((with_reducible refine hK _ ?_); clear hK K) | (apply Exists.intro; refine ⟨fun x => ?_, hK _ ?_⟩; (fail); clear hK K))
            refine wpQ2_nil ?_
            refine Events.none_ fun w8 hg8 => ?_
            simp only [picks, List.drop_succ_cons, List.drop_zero]
            have HE8 := Lib.hid (ext_trans HE7.out hg8)
            clear c0 c1 C0 C1 hg8
            go_wp2_with (fail)
            go_ret
            exact ⟨ret_bool HF2.out.symm, HE8.out⟩
        · have hn4 : ¬ (k : Int) < 4 := by omega
          have hd4 : decide ((k : Int) < 4) = false := decide_eq_false hn4
          have HF : Hid (v = false) := Lib.hid (HV.out.trans (ord_none HALL3.out HBY.out (fun j hj => HALL.out j (by omega))))
          clear hlt hE
          go_wp2_with (fail)
          go_ret
          exact ⟨ret_bool HF.out.symm, HE.out⟩
end Go.Proofs.YtojomdojblgegaaGreatDoor
