/-
  law.ink: how many columns of a glyph are dark.
-/
import Derived.Test.YtahgbecfaihfpaaDoorTPlInk
namespace Go.Proofs.YtahgbecfaihfpaaDoor
open Go.RowKit D
set_option linter.unusedVariables false
set_option linter.unusedSimpArgs false
attribute [local go_sem high] run_minI run_maxI
attribute [local go_sem] upon2 cls_cell cls_frozen forall_const exists_eq_left'
attribute [local go_sem] FirstUpon
theorem cntB_le (r : Nat) : ∀ n, cntB r n ≤ n
  | 0 => Nat.le_refl _
  | n + 1 => by have := cntB_le r n; rw [cntB]; split <;> omega
theorem inkR_le (g : Gl) : ∀ n, inkR g n ≤ 12 * n
  | 0 => Nat.le_refl _
  | n + 1 => by have h1 := inkR_le g n; have h2 := cntB_le (intD g.rows n).toNat 12; rw [inkR]; omega
theorem shr_zero {r s : Nat} (h : r / 2 ^ s = 0) (h12 : s ≤ 12) : cntB r 12 = cntB r s := by
  have h1 : r < 2 ^ s := by
    rcases Nat.lt_or_ge r (2 ^ s) with h2 | h2
    · exact h2
    · have := Nat.div_pos h2 (Nat.two_pow_pos s); omega
  have := cntB_stop h1 (12 - s)
  rwa [show s + (12 - s) = 12 by omega] at this
theorem bit_shr (r s : Nat) : r / 2 ^ s % 2 = if r.testBit s = true then 1 else 0 := by
  rw [Nat.testBit_eq_decide_div_mod_eq]
  by_cases h : r / 2 ^ s % 2 = 1
  · simp [h]
  · rw [if_neg (by simpa using h)]; omega
set_option maxRecDepth 100000 in
set_option maxHeartbeats 2000000 in
theorem inkL_any {g : Gl} {gr : Sl} {w : World} (hg : IntsS w gr g.rows) (hr : ∀ i, i < g.rows.length → 0 ≤ intD g.rows i ∧ intD g.rows i < 4096) (hn : 0 < g.rows.length) (h16 : g.rows.length ≤ 16) :
    Calls Tryd.prog 29 #[.agg #[.string g.text, .int .i64 g.wide, .slice gr.a g.rows.length gr.cap]] w fun e w' => e = .returned (.int .i64 (inkG g : Nat)) ∧ Below w.heap.size w w' := by
  obtain ⟨rb, roff, hra, -⟩ := int_cell hg hn
  have hgc := hg.le; have hgm := hg.max
  obtain ⟨ra, rc⟩ := gr
  dsimp only at hra hgc hgm
  subst hra
  have HG := Lib.hid hg; have HR := Lib.hid hr
  clear hg hr
  go_enter Tryd.func29, Tryd.ntmps29
  go_wp2_with (fail)
  refine wp_name ?_
  intro w1 h1
  have xg : w1.heap[w.heap.size]? = some (Obj.cells #[.string g.text, .int .i64 g.wide, .slice (some ⟨rb, roff, none⟩) g.rows.length rc] 41) := by rw [h1]; exact blk_new _ _
  have hB1 : Below w.heap.size w w1 := by rw [h1]; exact below_alloc' _ _
  have HXG := Lib.hid xg; have HB1 := Lib.hid hB1
  clear h1 xg hB1
  go_loopw [3, 4] (fun nv i wr => ∃ k : Nat, i = .int .i64 (k : Int) ∧ k ≤ g.rows.length ∧ nv = .int .i64 (inkR g k : Nat) ∧ Ext2 w1 wr) (fun _ i _ => g.rows.length - (intOf i).toNat)
  case atStart => exact ⟨0, rfl, Nat.zero_le _, rfl, Below.refl _ _⟩
  case round =>
    obtain ⟨k, rfl, hk, rfl, hEr⟩ := hrel
    have HEr := Lib.hid hEr
    have xg := Ext2.blk hEr HXG.out
    have hil := inkR_le g k
    by_cases hlt : k < g.rows.length
    · go_light
      obtain ⟨_, _, e1, c0⟩ := int_cell (HG.out.below (below_ext HB1.out hEr)) hlt
      obtain ⟨rfl, rfl⟩ : rb = _ ∧ roff = _ := by simpa using e1
      have hrr := HR.out k hlt
      obtain ⟨r, hr⟩ : ∃ r : Nat, intD g.rows k = (r : Int) := ⟨(intD g.rows k).toNat, by omega⟩
      rw [hr] at c0 hrr
      have hst : inkR g (k + 1) = inkR g k + cntB r 12 := by rw [inkR, hr, Int.toNat_natCast]
      obtain ⟨I, hI⟩ : ∃ I, I = inkR g k := ⟨_, rfl⟩
      rw [← hI] at hst hil ⊢
      have HST := Lib.hid hst
      have r0 : (0 : Int) ≤ (k : Int) := by omega
      have r1 : (k : Int) < (g.rows.length : Int) := by omega
      have w3' : IntKind.i64.wrap ((k : Int) + 1) = (k : Int) + 1 := IntWalk.i64_in _ (by omega)
      clear e1 hr hst hI hEr
      have qgc := cell_blk xg
      have qgf := frz_blk xg
      go_wp2_with (fail)
      clear qgc qgf xg c0
      go_loopw [3, 5] (fun nv rv wx => ∃ s q : Nat, rv = .int .i64 (q : Int) ∧ q = r / 2 ^ s ∧ s ≤ 12 ∧ nv = .int .i64 ((I + cntB r s : Nat) : Int) ∧ Ext2 w1 wx) (fun _ rv _ => (intOf rv).toNat)
      case atStart => exact ⟨0, r, rfl, by simp, Nat.zero_le _, rfl, HEr.out⟩
      case round =>
        obtain ⟨s, q, rfl, hq, hs, rfl, hEx⟩ := hrel
        have HQ := Lib.hid hq; have HEx := Lib.hid hEx
        have hcl := cntB_le r s
        by_cases h0 : 0 < q
        · go_light
          have hs12 : s < 12 := by
            rcases Nat.lt_or_ge s 12 with h | h
            · exact h
            · have h1 : s = 12 := by omega
              rw [hq, h1] at h0
              have : r / 2 ^ 12 = 0 := Nat.div_eq_of_lt (by have : (2 : Nat) ^ 12 = 4096 := rfl; omega)
              omega
          have hb : (q : Int).tmod 2 = ((q % 2 : Nat) : Int) := by rw [Int.tmod_eq_emod_of_nonneg (by omega)]; exact (Int.natCast_emod _ _).symm
          have hd : (q : Int).tdiv 2 = ((q / 2 : Nat) : Int) := by rw [Int.tdiv_eq_ediv_of_nonneg (by omega)]; exact (Int.natCast_ediv _ _).symm
          obtain ⟨bt, hbt⟩ : ∃ b, b = q % 2 := ⟨_, rfl⟩
          obtain ⟨q2, hq2⟩ : ∃ b, b = q / 2 := ⟨_, rfl⟩
          rw [← hbt] at hb
          rw [← hq2] at hd
          have hcb : cntB r (s + 1) = cntB r s + bt := by rw [cntB, hbt, HQ.out, bit_shr]
          obtain ⟨J, hJ⟩ : ∃ J, J = I + cntB r s := ⟨_, rfl⟩
          rw [← hJ]
          have hb2 : bt ≤ 1 := by omega
          have hqr : q ≤ 4096 := by rw [hq]; exact Nat.le_trans (Nat.div_le_self _ _) (by omega)
          have wb : IntKind.i64.wrap (bt : Int) = (bt : Int) := IntWalk.i64_in _ (by omega)
          have wq : IntKind.i64.wrap (q2 : Int) = (q2 : Int) := IntWalk.i64_in _ (by omega)
          have wj : IntKind.i64.wrap ((J : Int) + (bt : Int)) = (J : Int) + (bt : Int) := IntWalk.i64_in _ (by omega)
          have g0 : (q : Int) > 0 := by omega
          have HJ : Hid (I + cntB r (s + 1) = J + bt) := Lib.hid (by rw [hcb, hJ]; omega)
          have HQ2 : Hid (q2 = r / 2 ^ (s + 1)) := Lib.hid (by rw [hq2, HQ.out, Nat.div_div_eq_div_mul, Nat.pow_succ])
          have hlt2 : q2 < q := by omega
          clear hq hbt hq2 hcb hJ hEx
          go_wp2_with (fail)
          go_roundw
          case rel => exact ⟨s + 1, q2, rfl, HQ2.out, hs12, by rw [HJ.out]; simp, HEx.out⟩
          case measure => simp [intOf]; omega
        · have h00 : q = 0 := by omega
          have hz := shr_zero (r := r) (s := s) (by rw [← hq]; exact h00) hs
          have HZ := Lib.hid hz
          have g0 : ¬ (q : Int) > 0 := by omega
          clear hq h00 hz hEx
          go_wp2_with (fail)
          go_roundw
          case rel => exact ⟨k + 1, by go_num, hlt, by rw [HST.out, HZ.out], HEx.out⟩
          case measure => simp [intOf]; omega
    · obtain rfl : k = g.rows.length := by omega
      have r1 : ¬ (g.rows.length : Int) < (g.rows.length : Int) := by omega
      have hBr := below_ext HB1.out hEr
      clear hlt hEr
      have qgc := cell_blk xg
      have qgf := frz_blk xg
      go_wp2_with (fail)
      go_ret
      exact ⟨rfl, hBr⟩
end Go.Proofs.YtahgbecfaihfpaaDoor
