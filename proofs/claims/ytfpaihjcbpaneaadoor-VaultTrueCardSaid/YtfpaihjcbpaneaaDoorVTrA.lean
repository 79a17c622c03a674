/-
  The law's part and toward.
-/
import Derived.Test.YtfpaihjcbpaneaaDoorVPlTr
import Derived.Test.YtfpaihjcbpaneaaDoorVArgM
namespace Go.Proofs.YtfpaihjcbpaneaaDoor.D
theorem tdiv100 (n : Int) : n.tdiv 100 = if 0 ≤ n ∨ n / 100 * 100 = n then n / 100 else n / 100 + 1 := by
  by_cases h : 0 ≤ n
  · rw [if_pos (.inl h)]; exact Int.tdiv_eq_ediv_of_nonneg h
  · have e : n.tdiv 100 = -((-n) / 100) := by
      have h1 : n = -(-n) := by omega
      have h2 : (-n).tdiv 100 = (-n) / 100 := Int.tdiv_eq_ediv_of_nonneg (by omega)
      rw [← h2]
      conv => lhs; rw [h1]
      exact Int.neg_tdiv _ _
    rw [e]
    by_cases hd : n / 100 * 100 = n
    · rw [if_pos (.inr hd)]; omega
    · rw [if_neg (by omega)]; omega
end Go.Proofs.YtfpaihjcbpaneaaDoor.D
namespace Go.Proofs.YtfpaihjcbpaneaaDoor
open Go.RowKit D
set_option linter.unusedVariables false
set_option linter.unusedSimpArgs false
attribute [local go_sem high] run_minI run_maxI
attribute [local go_sem] upon2 cls_cell cls_frozen forall_const exists_eq_left'
attribute [local go_sem] FirstUpon
set_option maxRecDepth 100000 in
set_option maxHeartbeats 2000000 in
theorem partL_any {t : Span} {l : List Int} {sl : Sl} {i : Nat} {w : World} (hL : KindS .u8 w sl l) (ht : t.lo ≤ t.hi) (h1 : -1000000 ≤ t.lo) (h2 : t.hi ≤ 1000000) (hi : i ≤ 1000000) :
    Calls Tryd.prog 8 #[.agg #[.int .i64 t.lo, .int .i64 t.hi], .slice sl.a l.length sl.cap, .int .i64 (i : Int)] w fun e w' => e = .returned (.int .i64 (partV t.lo t.hi (idxL l i))) ∧ Below w.heap.size w w' := by
  have HL := Lib.hid hL
  have hle := hL.1.le; have hmx := hL.1.max
  obtain ⟨a, c⟩ := sl
  dsimp only at hle hmx
  by_cases h0 : l.length = 0
  · rw [idxL_none h0, partV_zero, h0]
    have b0 : ((0 : Int) == 0) = true := rfl
    clear hL h0 ht h1 h2 hle hmx
    go_enter Tryd.func8, Tryd.ntmps8
    go_wp2_with (fail)
    go_ret
    exact ⟨rfl, below_alloc _ _⟩
  · have hm : i % l.length < l.length := Nat.mod_lt _ (by omega)
    obtain ⟨b, off, ha, c0⟩ := hL.1.cell (i % l.length) 0 hm (by omega)
    dsimp only at ha
    subst ha
    have hv := u8_in (hL.2 (i % l.length) hm)
    rw [idxL_some (by omega)]
    obtain ⟨k, hk⟩ : ∃ k, k = i % l.length := ⟨_, rfl⟩
    rw [← hk] at c0 hv hm ⊢
    replace c0 : w.cell? ⟨b, off + k, none⟩ = some (.int .u8 (intD l k)) := by
      have e : off + k * 1 + 0 = off + k := by omega
      rw [e] at c0; exact c0
    obtain ⟨V, hV⟩ : ∃ V, V = intD l k := ⟨_, rfl⟩
    rw [← hV] at c0 hv ⊢
    obtain ⟨lo, hi'⟩ := t
    simp only at ht h1 h2 ⊢
    obtain ⟨P, hP⟩ : ∃ P, P = (hi' - lo) * V := ⟨_, rfl⟩
    have p1 : 0 ≤ P := by rw [hP]; exact Int.mul_nonneg (by omega) hv.1
    have p2 : P ≤ 510000000 := by
      have : (hi' - lo) * V ≤ 2000000 * 255 := Int.mul_le_mul (by omega) hv.2 hv.1 (by omega)
      omega
    have hR : partV lo hi' V = lo + P / 255 := by unfold partV; rw [← hP]
    rw [hR]
    obtain ⟨Q, hQ⟩ : ∃ Q, Q = P / 255 := ⟨_, rfl⟩
    rw [← hQ]
    have b0 : ((l.length : Int) == 0) = false := beq_eq_false_iff_ne.2 (by omega)
    have hz' : ¬ l = [] := fun h => h0 (by rw [h]; rfl)
    have hrem : (i : Int).tmod (l.length : Int) = (k : Int) := by
      rw [Int.tmod_eq_emod_of_nonneg (by omega), hk, Int.natCast_emod]
    have wk : IntKind.i64.wrap (k : Int) = (k : Int) := IntWalk.i64_in _ (by omega)
    have wV : IntKind.i64.wrap V = V := IntWalk.i64_in _ (by omega)
    have w1 : IntKind.i64.wrap (hi' - lo) = hi' - lo := IntWalk.i64_in _ (by omega)
    have w2 : IntKind.i64.wrap ((hi' - lo) * V) = P := by rw [← hP]; exact IntWalk.i64_in _ (by omega)
    have w3 : P.tdiv 255 = Q := by rw [hQ]; exact Int.tdiv_eq_ediv_of_nonneg p1
    have w4 : IntKind.i64.wrap Q = Q := IntWalk.i64_in _ (by omega)
    have w5 : IntKind.i64.wrap (lo + Q) = lo + Q := IntWalk.i64_in _ (by omega)
    have f0 : (0 : Int) ≤ (k : Int) := by omega
    have f1 : (k : Int) < (l.length : Int) := by omega
    have f0' : decide ((0 : Int) ≤ (k : Int)) = true := decide_eq_true f0
    have f1' : decide ((k : Int) < (l.length : Int)) = true := decide_eq_true f1
    clear hL hk hV hP hQ p1 p2 hR h0 ht h1 h2
    go_enter Tryd.func8, Tryd.ntmps8
    go_wp2_with (fail)
    refine wp_name ?_
    intro w7 hw7
    obtain ⟨n3, hn3⟩ : ∃ n, n = w.heap.size := ⟨_, rfl⟩
    have hE7 : Ext2 w w7 := by rw [hw7]; exact below_alloc' _ _
    have x3 : w7.heap[n3]? = some (.cells #[.int .i64 lo, .int .i64 hi'] 25 (0, 0)) := by rw [hw7, hn3]; exact blk_new _ _
    have d : w7.cell? ⟨b, off + k, none⟩ = some (.int .u8 V) := (Below.cell (p := ⟨b, off + k, none⟩) hE7 (cell_lt c0)).trans c0
    rw [← hn3]
    clear hw7 hn3 c0
    have q3c := cell_blk x3
    have q3f := frz_blk x3
    clear x3
    refine region_ev [] [0, 1, 2, 3, 4, 5, 6, 7, 8, 9, 10, 11, 12, 13, 14, 15, 16, 17, 18] [] [] (by kernel_rfl) (by kernel_rfl) (by intro c a d v w h; cases d <;> exact h) ?_
    simp only [picks, List.drop_succ_cons, List.drop_zero]
    repeat (refine wpQ0_step (fun K hK => ?_); go_simp; (refine hK _ ?_; clear hK K))
    refine wpQ0_nil ?_
    repeat ((with_reducible refine wpQ2_step (fun K hK => ?_)); go_simp; first | ((with_reducible refine hK _ ?_); clear hK K) | (apply Exists.intro; refine ⟨fun x => ?_, hK _ ?_⟩; (fail); clear hK K))
    refine wpQ2_nil ?_
    refine Events.none_ fun w8 hg8 => ?_
    simp only [picks, List.drop_succ_cons, List.drop_zero]
    have hB := ext_trans hE7 hg8
    clear hg8 q3c q3f d
    go_wp2_with (fail)
    go_ret
    exact ⟨rfl, hB⟩
set_option maxRecDepth 100000 in
set_option maxHeartbeats 2000000 in
theorem towardL_any {own room rate : Int} {up : Bool} (w : World) (h1 : -1000 ≤ own ∧ own ≤ 1000) (h2 : -1000 ≤ room ∧ room ≤ 1000) (h3 : 0 ≤ rate ∧ rate ≤ 100) :
    Calls Tryd.prog 11 #[.int .i64 own, .int .i64 room, .int .i64 rate, .bool up] w fun e w' => e = .returned (.int .i64 (towardV own room rate up)) ∧ Below w.heap.size w w' := by
  obtain ⟨n, hn⟩ : ∃ n, n = (room - own) * rate := ⟨_, rfl⟩
  have hb : -200000 ≤ n ∧ n ≤ 200000 := by
    rw [hn]
    rcases Int.le_total 0 (room - own) with h | h
    · have a1 : 0 ≤ (room - own) * rate := Int.mul_nonneg h h3.1
      have a2 : (room - own) * rate ≤ 2000 * 100 := Int.mul_le_mul (by omega) h3.2 h3.1 (by omega)
      omega
    · have a1 : 0 ≤ (own - room) * rate := Int.mul_nonneg (by omega) h3.1
      have a2 : (own - room) * rate ≤ 2000 * 100 := Int.mul_le_mul (by omega) h3.2 h3.1 (by omega)
      have e : (room - own) * rate = -((own - room) * rate) := by rw [← Int.neg_mul]; congr 1; omega
      omega
  have hV : towardV own room rate up = if up ∧ n / 100 * 100 ≠ n then own + (n / 100 + 1) else own + n / 100 := by unfold towardV; rw [← hn]
  rw [hV]
  obtain ⟨q, hq⟩ : ∃ q, q = n.tdiv 100 := ⟨_, rfl⟩
  obtain ⟨Q, hQ⟩ : ∃ Q, Q = n / 100 := ⟨_, rfl⟩
  have hqQ := tdiv100 n
  rw [← hq, ← hQ] at hqQ
  rw [← hQ]
  have bQ : -2000 ≤ Q ∧ Q ≤ 2000 := by omega
  have w0 : IntKind.i64.wrap (room - own) = room - own := IntWalk.i64_in _ (by omega)
  have w1 : IntKind.i64.wrap ((room - own) * rate) = n := by rw [← hn]; exact IntWalk.i64_in _ (by omega)
  have w2 : n.tdiv 100 = q := hq.symm
  have bq : -2001 ≤ q ∧ q ≤ 2001 := by rw [hqQ]; split <;> omega
  have w3 : IntKind.i64.wrap q = q := IntWalk.i64_in _ (by omega)
  have w4 : IntKind.i64.wrap (q * 100) = q * 100 := IntWalk.i64_in _ (by omega)
  have w5 : IntKind.i64.wrap (q - 1) = q - 1 := IntWalk.i64_in _ (by omega)
  have w6 : IntKind.i64.wrap (Q * 100) = Q * 100 := IntWalk.i64_in _ (by omega)
  have w7 : IntKind.i64.wrap (Q + 1) = Q + 1 := IntWalk.i64_in _ (by omega)
  have w8 : IntKind.i64.wrap (own + Q) = own + Q := IntWalk.i64_in _ (by omega)
  have w9 : IntKind.i64.wrap (own + (Q + 1)) = own + (Q + 1) := IntWalk.i64_in _ (by omega)
  have hcase : (n < 0 ∧ q * 100 ≠ n ∧ q - 1 = Q) ∨ (n < 0 ∧ q * 100 = n ∧ q = Q) ∨ (0 ≤ n ∧ q = Q) := by
    by_cases hn0 : 0 ≤ n
    · rw [if_pos (.inl hn0)] at hqQ; exact .inr (.inr ⟨hn0, hqQ⟩)
    · by_cases hd : Q * 100 = n
      · rw [if_pos (.inr hd)] at hqQ; exact .inr (.inl ⟨by omega, by rw [hqQ]; exact hd, hqQ⟩)
      · rw [if_neg (by omega)] at hqQ; exact .inl ⟨by omega, by omega, by omega⟩
  clear hn hV hq hQ hqQ hb bQ bq h1 h2 h3
  rcases hcase with ⟨g1, g2, g3⟩ | ⟨g1, g2, g3⟩ | ⟨g1, g3⟩
  case' inl =>
    have e1 : (q * 100 != n) = true := by simp [g2]
    have w5' : IntKind.i64.wrap (q - 1) = Q := by rw [w5, g3]
    clear w5 g2 g3
  case' inr.inl =>
    obtain rfl : Q = q := g3.symm
    have e1 : (Q * 100 != n) = false := by simp [g2]
    have HD := Lib.hid g2
    clear g2
  case' inr.inr =>
    obtain rfl : Q = q := g3.symm
    have g1' : ¬ n < 0 := by omega
  all_goals
    cases up
    · rw [if_neg (by simp)]
      go_enter Tryd.func11, Tryd.ntmps11
      go_wp2_with (fail)
      go_ret
      exact ⟨rfl, Below.refl _ _⟩
    · by_cases hd : Q * 100 = n
      · rw [if_neg (fun h => h.2 hd)]
        have e2 : (Q * 100 != n) = false := by simp [hd]
        clear hd
        go_enter Tryd.func11, Tryd.ntmps11
        go_wp2_with (fail)
        go_ret
        exact ⟨rfl, Below.refl _ _⟩
      · rw [if_pos ⟨rfl, hd⟩]
        have e2 : (Q * 100 != n) = true := by simp [hd]
        first
          | exact absurd HD.out hd
          | (clear hd
             go_enter Tryd.func11, Tryd.ntmps11
             go_wp2_with (fail)
             go_ret
             exact ⟨rfl, Below.refl _ _⟩)
end Go.Proofs.YtfpaihjcbpaneaaDoor
