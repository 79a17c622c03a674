/-
  ref.wet, may, spanned, asked, Sweats, floor, hour, Warm, wait, Wait.
-/
import Derived.Test.YtfpaihjcbpaneaaGreatDoorVRefC
import Derived.Test.YtfpaihjcbpaneaaGreatDoorVPathA
import Derived.Deep.Light
namespace Go.Proofs.YtfpaihjcbpaneaaGreatDoor
open Go.RowKit D
set_option linter.unusedVariables false
set_option linter.unusedSimpArgs false
attribute [local go_sem high] run_minI run_maxI
attribute [local go_sem] upon2 cls_cell cls_frozen forall_const exists_eq_left'
attribute [local go_sem] FirstUpon
theorem floorR_any (n : Int) (w : World) (h1 : -90000 ≤ n) (h2 : n ≤ 90000) : Calls Tryz.prog 70 #[.int .i64 n, .int .i64 100] w fun e w' => e = .returned (.int .i64 (n / 100)) ∧ w = w' := by
  obtain ⟨q, hq⟩ : ∃ q, q = n.tdiv 100 := ⟨_, rfl⟩
  have hb : (0 ≤ n → q = n / 100) ∧ (n < 0 → q = if n = q * 100 then n / 100 else n / 100 + 1) ∧ -900 ≤ q ∧ q ≤ 900 := by
    rw [hq]
    rcases Int.lt_or_le n 0 with h | h
    · have e : n.tdiv 100 = -((-n) / 100) := by
        have := Int.neg_tdiv (-n) 100
        rw [Int.neg_neg] at this
        rw [this, Int.tdiv_eq_ediv_of_nonneg (by omega)]
      rw [e]
      refine ⟨fun h' => by omega, fun _ => ?_, by omega, by omega⟩
      split <;> omega
    · rw [Int.tdiv_eq_ediv_of_nonneg h]
      exact ⟨fun _ => rfl, fun h' => by omega, by omega, by omega⟩
  obtain ⟨g1, g2, g3, g4⟩ := hb
  have w0 : IntKind.i64.wrap q = q := IntWalk.i64_in _ (by omega)
  have w1 : IntKind.i64.wrap (q * 100) = q * 100 := IntWalk.i64_in _ (by omega)
  have w2 : IntKind.i64.wrap (q - 1) = q - 1 := IntWalk.i64_in _ (by omega)
  by_cases h : n < q * 100
  · have e : n / 100 = q - 1 := by
      rcases Int.lt_or_le n 0 with h' | h'
      · have := g2 h'; rw [if_neg (by omega)] at this; omega
      · have := g1 h'; omega
    rw [e]
    clear g1 g2 e
    go_enter Tryz.func70, Tryz.ntmps70
    go_wp2_with (fail)
    rw [← hq]
    go_wp2_with (fail)
    go_ret
    exact ⟨rfl, rfl⟩
  · have e : n / 100 = q := by
      rcases Int.lt_or_le n 0 with h' | h'
      · have := g2 h'
        by_cases hh : n = q * 100
        · rw [if_pos hh] at this; exact this.symm
        · rw [if_neg hh] at this; omega
      · exact (g1 h').symm
    rw [e]
    clear g1 g2 e
    go_enter Tryz.func70, Tryz.ntmps70
    go_wp2_with (fail)
    rw [← hq]
    go_wp2_with (fail)
    go_ret
    exact ⟨rfl, rfl⟩
theorem floorR_b (n : Int) (W : World) (h1 : -90000 ≤ n) (h2 : n ≤ 90000) : Calls Tryz.prog 70 #[.int .i64 n, .int .i64 100] W fun e w' => e = .returned (.int .i64 (n / 100)) ∧ Below W.heap.size W w' := (floorR_any n W h1 h2).mono fun e w' ⟨he, hw⟩ => ⟨he, by rw [← hw]; exact Below.refl _ _⟩
set_option maxRecDepth 100000 in
set_option maxHeartbeats 2000000 in
theorem wetR_any {o t d : Int} (w : World) (h1 : -300 ≤ o) (h2 : o ≤ 600) (h3 : -300 ≤ t) (h4 : t ≤ 600) (h5 : 0 ≤ d) (h6 : d ≤ 1000) : Calls Tryz.prog 63 #[.int .i64 o, .int .i64 t, .int .i64 d] w fun e w' => e = .returned (.bool (wet o t d)) ∧ Below w.heap.size w w' := by
  have HA := Lib.hid fun W => vapourR_any (t := t) W h3 h4
  have HB := Lib.hid fun W => vapourR_any (t := o) W h1 h2
  have bA := vap_in h3 h4; have bB := vap_in h1 h2
  obtain ⟨A, hA⟩ : ∃ A, A = vap t := ⟨_, rfl⟩
  obtain ⟨B, hB⟩ : ∃ B, B = vap o := ⟨_, rfl⟩
  rw [wet_eq hA.symm hB.symm]
  rw [← hA] at HA bA
  rw [← hB] at HB bB
  have hdA : 0 ≤ d * A ∧ d * A ≤ 130200000 := by
    have a1 : d * A ≤ 1000 * 130200 := Int.mul_le_mul h6 bA.2 (by omega) (by omega)
    have a2 : 0 ≤ d * A := Int.mul_nonneg h5 (by omega)
    omega
  obtain ⟨P, hP⟩ : ∃ P, P = d * A := ⟨_, rfl⟩
  rw [← hP] at hdA ⊢
  have q1 : wrap64 (d * A) = P := by rw [← hP]; exact IntWalk.wrap64_in _ (by omega)
  clear hA hB hP
  go_enter Tryz.func63, Tryz.ntmps63
  go_wp2_with (fail)
  (with_reducible refine (HA.out _).mono ?_)
  rintro e w1 ⟨rfl, hb1⟩
  go_wp2_with (fail)
  (with_reducible refine (HB.out _).mono ?_)
  rintro e w2 ⟨rfl, hb2⟩
  have hB2 := below_ext hb1 hb2
  go_wp2_with (fail)
  go_ret
  exact ⟨rfl, hB2⟩
set_option maxRecDepth 100000 in
set_option maxHeartbeats 8000000 in
theorem mayR_any {S : Site} {s : SSl} {t : Span} {r : Nat} {w : World} (hS : SiteAt w S s) (hr : r < S.rooms.length) (hI : RIn (rmD S.rooms r)) (ht : TIn t) :
    Calls Tryz.prog 64 #[.agg #[.slice s.r.a S.rooms.length s.r.cap, .slice s.c.a S.cans.length s.c.cap, .int .i64 S.rlo, .int .i64 S.rhi, .slice s.p.a S.steps.length s.p.cap], .agg #[.int .i64 t.lo, .int .i64 t.hi], .int .i64 (r : Int)] w fun e w' => e = .returned (.bool (mayS t (rmD S.rooms r))) ∧ Below w.heap.size w w' := by
  have HS := Lib.hid hS
  have hrl := hS.rm.le; have hrm := hS.rm.max
  obtain ⟨⟨ra, rc⟩, cs, ps⟩ := s
  dsimp only at hrl hrm
  obtain ⟨R, hR⟩ : ∃ R, R = rmD S.rooms r := ⟨_, rfl⟩
  rw [← hR] at hI ⊢
  have HW := Lib.hid fun W => wetR_any (o := t.lo) (t := R.thi) (d := R.dhi) W ht.1 ht.2.1 hI.2.2.1 hI.2.2.2.1 hI.2.2.2.2.2.2.1 hI.2.2.2.2.2.2.2
  obtain ⟨v, hv⟩ : ∃ v, v = mayS t R := ⟨_, rfl⟩
  rw [← hv]
  rw [show wet t.lo R.thi R.dhi = v by rw [hv]; rfl] at HW
  have HR := Lib.hid hR
  clear hv ht hI hS hR
  go_enter Tryz.func64, Tryz.ntmps64
  go_wp2_with (fail)
  refine wp_name ?_
  intro w1 hw1
  obtain ⟨n3, hn3⟩ : ∃ n, n = w.heap.size := ⟨_, rfl⟩
  obtain ⟨n4, hn4⟩ : ∃ n, n = n3 + 1 := ⟨_, rfl⟩
  have hE1 : Ext2 w w1 := by rw [hw1]; exact ext_trans (below_alloc' _ _) (below_alloc' _ _)
  have x3 : w1.heap[n3]? = some (Obj.cells #[.slice (SSl.mk ⟨ra, rc⟩ cs ps).r.a S.rooms.length (SSl.mk ⟨ra, rc⟩ cs ps).r.cap, .slice (SSl.mk ⟨ra, rc⟩ cs ps).c.a S.cans.length (SSl.mk ⟨ra, rc⟩ cs ps).c.cap, .int .i64 S.rlo, .int .i64 S.rhi, .slice (SSl.mk ⟨ra, rc⟩ cs ps).p.a S.steps.length (SSl.mk ⟨ra, rc⟩ cs ps).p.cap] 28) := by rw [hw1, hn3]; exact blk_alloc (blk_new _ _) _
  have x4 : w1.heap[n4]? = some (Obj.cells #[.int .i64 t.lo, .int .i64 t.hi] 25) := by rw [hw1, hn4, hn3]; exact blk_new' _ _ (by simp)
  rw [← hn3, ← hn4]
  clear hw1 hn3 hn4
  have HE1 := Lib.hid hE1
  obtain ⟨bR, oR, haR, c0, c1, c2, c3, c4, c5, c6, c7, c8, c9⟩ := rm_cells (HS.out.below hE1).rm hr
  dsimp only at haR
  subst haR
  rw [← HR.out] at c2 c4
  have i0 : (0 : Int) ≤ (r : Int) := by omega
  have i1 : (r : Int) < (S.rooms.length : Int) := by omega
  have i0' : decide ((0 : Int) ≤ (r : Int)) = true := decide_eq_true i0
  have i1' : decide ((r : Int) < (S.rooms.length : Int)) = true := decide_eq_true i1
  have q3c := cell_blk x3
  have q3f := frz_blk x3
  have q4c := cell_blk x4
  have q4f := frz_blk x4
  clear x3 x4 hE1 c0 c1 c3 c5 c6 c7 c8 c9
  refine region_ev [] [0, 1, 2, 3, 4, 5, 6, 7, 8, 9, 10, 11, 12, 13, 14, 15, 16, 17] [] [] (by kernel_rfl) (by kernel_rfl) (by intro c a d v w h; cases d <;> exact h) ?_
  simp only [picks, List.drop_succ_cons, List.drop_zero]
  repeat (refine wpQ0_step (fun K hK => ?_); go_simp; (refine hK _ ?_; clear hK K))
  refine wpQ0_nil ?_
  repeat ((with_reducible refine wpQ2_step (fun K hK => ?_)); go_simp; first | ((with_reducible refine hK _ ?_); clear hK K) | (apply Exists.intro; refine ⟨fun x => ?_, hK _ ?_⟩; ((with_reducible exact HW.out x.1)); clear hK K))
  refine wpQ2_nil ?_
  refine Events.none_ fun w2 hg2 => ?_
  simp only [picks, List.drop_succ_cons, List.drop_zero]
  go_wp2_with (fail)
  go_ret
  exact ⟨rfl, ext_trans HE1.out hg2⟩
set_option maxRecDepth 100000 in
set_option maxHeartbeats 2000000 in
theorem spannedR_any (t : Span) (w : World) : Calls Tryz.prog 53 #[.agg #[.int .i64 t.lo, .int .i64 t.hi]] w fun e w' => e = .returned (.int .i64 (spanE t)) ∧ Below w.heap.size w w' := by
  obtain ⟨E, hE⟩ : ∃ E, E = spanE t := ⟨_, rfl⟩
  rw [← hE]
  unfold spanE at hE
  obtain ⟨v1, hv1⟩ : ∃ v, v = inB t.lo (-300) 600 := ⟨_, rfl⟩
  obtain ⟨v2, hv2⟩ : ∃ v, v = inB t.hi (-300) 600 := ⟨_, rfl⟩
  rw [← hv1, ← hv2] at hE
  have HE := Lib.hid hE
  have H1 : Hid (∀ W, Calls Tryz.prog 81 #[.int .i64 t.lo] W fun e w' => e = .returned (.bool v1) ∧ W = w') := Lib.hid fun W => by rw [hv1]; exact temp_any _ W
  have H2 : Hid (∀ W, Calls Tryz.prog 81 #[.int .i64 t.hi] W fun e w' => e = .returned (.bool v2) ∧ W = w') := Lib.hid fun W => by rw [hv2]; exact temp_any _ W
  clear hE hv1 hv2
  go_enter Tryz.func53, Tryz.ntmps53
  go_wp2_with (fail)
  (with_reducible refine (H1.out _).mono ?_)
  rintro e w' ⟨rfl, rfl⟩
  cases v1
  case false =>
    have hE2 : E = 7 := by rw [HE.out, if_pos (by simp)]
    have HE2 := Lib.hid hE2
    clear hE2
    go_wp2_with (fail)
    go_ret
    exact ⟨ret_int HE2.out.symm, below_alloc _ _⟩
  case true =>
  go_wp2_with (fail)
  (with_reducible refine (H2.out _).mono ?_)
  rintro e w' ⟨rfl, rfl⟩
  cases v2
  case false =>
    have hE2 : E = 7 := by rw [HE.out, if_pos (by simp)]
    have HE2 := Lib.hid hE2
    clear hE2
    go_wp2_with (fail)
    go_ret
    exact ⟨ret_int HE2.out.symm, below_alloc _ _⟩
  case true =>
  by_cases ht : t.hi < t.lo
  · have HT := Lib.hid ht
    go_wp2_with (fail)
    go_ret
    exact ⟨ret_int (by rw [HE.out, if_neg (by simp), if_pos HT.out]), below_alloc _ _⟩
  · have HT := Lib.hid ht
    go_wp2_with (fail)
    go_ret
    exact ⟨ret_int (by rw [HE.out, if_neg (by simp), if_neg (Int.not_lt.2 HT.out)]), below_alloc _ _⟩
set_option maxRecDepth 100000 in
set_option maxHeartbeats 2000000 in
theorem validR_any {S : Site} {s : SSl} {w : World} (hS : SiteAt w S s) : Calls Tryz.prog 52 #[.agg #[.slice s.r.a S.rooms.length s.r.cap, .slice s.c.a S.cans.length s.c.cap, .int .i64 S.rlo, .int .i64 S.rhi, .slice s.p.a S.steps.length s.p.cap]] w fun e w' => e = .returned (.int .i64 (checkV S).2.2) ∧ Below w.heap.size w w' := by
  have HS := Lib.hid hS
  obtain ⟨p1, p2, p3, hp⟩ : ∃ a b c, checkV S = (a, b, c) := ⟨_, _, _, rfl⟩
  have HP := Lib.hid hp
  rw [hp]
  clear hS hp
  go_enter Tryz.func52, Tryz.ntmps52
  go_wp2_with (fail)
  refine (checkR_any (HS.out.below (below_alloc' _ _))).mono ?_
  rintro e w2 ⟨rfl, hb2⟩
  rw [HP.out]
  dsimp only
  go_wp2_with (fail)
  go_ret
  exact ⟨rfl, ext_trans (below_alloc' _ _) hb2⟩
theorem anyF_one (p : Nat → Bool) : anyF p 1 = p 0 := by
  rw [anyF_succ]; unfold anyF firstN; simp
theorem askE_one {S : Site} {t : Span} {r : Int} : askE S t [r] = if (checkV S).2.2 ≠ 0 then (checkV S).2.2 else if spanE t ≠ 0 then spanE t else if inB r 0 ((S.rooms.length : Int) - 1) = false then 4 else 0 := by
  unfold askE
  rw [show ([r] : List Int).length = 1 from rfl, anyF_one]
  unfold outR
  rw [show intD [r] 0 = r from rfl, outB_in]
  cases inB r 0 ((S.rooms.length : Int) - 1) <;> simp
theorem askE_two {S : Site} {t : Span} {r nx : Int} : askE S t [r, nx] = if askE S t [r] ≠ 0 then askE S t [r] else if inB nx 0 ((S.rooms.length : Int) - 1) = false then 4 else 0 := by
  have e2 : anyF (fun i => outR S (intD [r, nx] i)) ([r, nx] : List Int).length = (outR S r || outR S nx) := by
    rw [show ([r, nx] : List Int).length = 1 + 1 from rfl, anyF_succ, anyF_one]; rfl
  have e1 : anyF (fun i => outR S (intD [r] i)) ([r] : List Int).length = outR S r := by
    rw [show ([r] : List Int).length = 1 from rfl, anyF_one]; rfl
  have e : outR S nx = !inB nx 0 ((S.rooms.length : Int) - 1) := outB_in _ _ _
  unfold askE
  rw [e1, e2]
  by_cases h1 : (checkV S).2.2 = 0
  · by_cases h2 : spanE t = 0
    · simp only [h1, h2, ne_eq, not_true, if_false, ite_false]
      rw [e]
      cases outR S r <;> cases inB nx 0 ((S.rooms.length : Int) - 1) <;> simp
    · simp [h1, h2]
  · simp [h1]
set_option maxRecDepth 100000 in
set_option maxHeartbeats 8000000 in
theorem askedR_any {S : Site} {s : SSl} {t : Span} {r : Int} {w : World} (hS : SiteAt w S s) :
    Calls Tryz.prog 62 #[.agg #[.slice s.r.a S.rooms.length s.r.cap, .slice s.c.a S.cans.length s.c.cap, .int .i64 S.rlo, .int .i64 S.rhi, .slice s.p.a S.steps.length s.p.cap], .agg #[.int .i64 t.lo, .int .i64 t.hi], .int .i64 r] w fun e w' => e = .returned (.int .i64 (askE S t [r])) ∧ Below w.heap.size w w' := by
  have HS := Lib.hid hS
  have hrl := hS.rm.le; have hrm := hS.rm.max
  obtain ⟨E, hE⟩ : ∃ E, E = askE S t [r] := ⟨_, rfl⟩
  rw [← hE]
  rw [askE_one] at hE
  obtain ⟨v1, hv1⟩ : ∃ v, v = (checkV S).2.2 := ⟨_, rfl⟩
  obtain ⟨v2, hv2⟩ : ∃ v, v = spanE t := ⟨_, rfl⟩
  obtain ⟨v3, hv3⟩ : ∃ v, v = inB r 0 ((S.rooms.length : Int) - 1) := ⟨_, rfl⟩
  rw [← hv1, ← hv2, ← hv3] at hE
  have HE := Lib.hid hE
  have H1 : Hid (∀ W, Ext2 w W → Calls Tryz.prog 52 #[.agg #[.slice s.r.a S.rooms.length s.r.cap, .slice s.c.a S.cans.length s.c.cap, .int .i64 S.rlo, .int .i64 S.rhi, .slice s.p.a S.steps.length s.p.cap]] W fun e w' => e = .returned (.int .i64 v1) ∧ Below W.heap.size W w') := Lib.hid fun W hW => by rw [hv1]; exact validR_any (HS.out.below hW)
  have H2 : Hid (∀ W, Calls Tryz.prog 53 #[.agg #[.int .i64 t.lo, .int .i64 t.hi]] W fun e w' => e = .returned (.int .i64 v2) ∧ Below W.heap.size W w') := Lib.hid fun W => by rw [hv2]; exact spannedR_any t W
  have H3 : Hid (∀ W, Calls Tryz.prog 37 #[.int .i64 r, .int .i64 0, .int .i64 ((S.rooms.length : Int) - 1)] W fun e w' => e = .returned (.bool v3) ∧ W = w') := Lib.hid fun W => by rw [hv3]; exact in_any _ _ _ W
  have w5' : IntKind.i64.wrap ((S.rooms.length : Int) - 1) = (S.rooms.length : Int) - 1 := IntWalk.i64_in _ (by omega)
  clear hE hv1 hv2 hv3 hS
  go_enter Tryz.func62, Tryz.ntmps62
  go_wp2_with (fail)
  refine calls_name ?_
  intro w1 hw1
  obtain ⟨n3, hn3⟩ : ∃ n, n = w.heap.size := ⟨_, rfl⟩
  obtain ⟨n4, hn4⟩ : ∃ n, n = n3 + 1 := ⟨_, rfl⟩
  have hE1 : Ext2 w w1 := by rw [hw1]; exact ext_trans (below_alloc' _ _) (below_alloc' _ _)
  have X3 : Hid (w1.heap[n3]? = some (Obj.cells #[.slice s.r.a S.rooms.length s.r.cap, .slice s.c.a S.cans.length s.c.cap, .int .i64 S.rlo, .int .i64 S.rhi, .slice s.p.a S.steps.length s.p.cap] 28)) := Lib.hid (by rw [hw1, hn3]; exact blk_alloc (blk_new _ _) _)
  have X4 : Hid (w1.heap[n4]? = some (Obj.cells #[.int .i64 t.lo, .int .i64 t.hi] 25)) := Lib.hid (by rw [hw1, hn4, hn3]; exact blk_new' _ _ (by simp))
  rw [← hn3, ← hn4]
  clear hw1 hn3 hn4
  (with_reducible refine (H1.out _ hE1).mono ?_)
  rintro e w2 ⟨rfl, hb2⟩
  have HE2 := Lib.hid (ext_trans hE1 hb2)
  have x3 := Ext2.blk hb2 X3.out; have x4 := Ext2.blk hb2 X4.out
  have q3c := cell_blk x3
  have q3f := frz_blk x3
  have q4c := cell_blk x4
  have q4f := frz_blk x4
  have X42 := Lib.hid x4; have X32 := Lib.hid x3
  clear hb2 hE1 x3 x4
  by_cases h1 : v1 = 0
  case neg =>
    have hd : (v1 == 0) = false := beq_eq_false_iff_ne.2 h1
    have hd2 : decide (v1 = 0) = false := decide_eq_false h1
    have HN := Lib.hid h1
    clear h1
    go_wp2_with (fail)
    go_ret
    exact ⟨ret_int (by rw [HE.out, if_pos HN.out]), HE2.out⟩
  subst h1
  have hd : ((0 : Int) == 0) = true := rfl
  go_wp2_with (fail)
  (with_reducible refine (H2.out _).mono ?_)
  rintro e w3 ⟨rfl, hb3⟩
  have HE3 := Lib.hid (ext_trans HE2.out hb3)
  have x3 := Ext2.blk hb3 X32.out
  clear q3c q3f q4c q4f hb3
  have q3c := cell_blk x3
  have q3f := frz_blk x3
  clear x3
  by_cases h2 : v2 = 0
  case neg =>
    have hd : (v2 == 0) = false := beq_eq_false_iff_ne.2 h2
    have HN := Lib.hid h2
    clear h2
    go_wp2_with (fail)
    go_ret
    exact ⟨ret_int (by rw [HE.out, if_neg (by simp), if_pos HN.out]), HE3.out⟩
  subst h2
  go_wp2_with (fail)
  (with_reducible refine (H3.out _).mono ?_)
  rintro e w' ⟨rfl, rfl⟩
  cases v3
  case false =>
    go_wp2_with (fail)
    go_ret
    exact ⟨ret_int (by rw [HE.out]; simp), HE3.out⟩
  case true =>
    go_wp2_with (fail)
    go_ret
    exact ⟨ret_int (by rw [HE.out]; simp), HE3.out⟩
set_option maxRecDepth 100000 in
set_option maxHeartbeats 8000000 in
theorem sweatsR_any {S : Site} {s : SSl} {t : Span} {r : Int} {w : World} (hS : SiteAt w S s) :
    Calls Tryz.prog 27 #[.agg #[.slice s.r.a S.rooms.length s.r.cap, .slice s.c.a S.cans.length s.c.cap, .int .i64 S.rlo, .int .i64 S.rhi, .slice s.p.a S.steps.length s.p.cap], .agg #[.int .i64 t.lo, .int .i64 t.hi], .int .i64 r] w fun e' w' => e' = .returned (.tuple #[.bool (sweatO S t r).1, .bool (sweatO S t r).2.1, .int .i64 (sweatO S t r).2.2]) ∧ Below w.heap.size w w' := by
  have HS := Lib.hid hS
  have hrl' := hS.rm.le; have hrm' := hS.rm.max
  obtain ⟨⟨ra, rc⟩, cs, ps⟩ := s
  dsimp only at hrl' hrm'
  clear hS
  go_enter Tryz.func27, Tryz.ntmps27
  go_wp2_with (fail)
  refine calls_name ?_
  intro w1 hw1
  obtain ⟨n3, hn3⟩ : ∃ n, n = w.heap.size := ⟨_, rfl⟩
  obtain ⟨n4, hn4⟩ : ∃ n, n = n3 + 1 := ⟨_, rfl⟩
  have hE1 : Ext2 w w1 := by rw [hw1]; exact ext_trans (below_alloc' _ _) (below_alloc' _ _)
  have X3 : Hid (w1.heap[n3]? = some (Obj.cells #[.slice (SSl.mk ⟨ra, rc⟩ cs ps).r.a S.rooms.length (SSl.mk ⟨ra, rc⟩ cs ps).r.cap, .slice (SSl.mk ⟨ra, rc⟩ cs ps).c.a S.cans.length (SSl.mk ⟨ra, rc⟩ cs ps).c.cap, .int .i64 S.rlo, .int .i64 S.rhi, .slice (SSl.mk ⟨ra, rc⟩ cs ps).p.a S.steps.length (SSl.mk ⟨ra, rc⟩ cs ps).p.cap] 28)) := Lib.hid (by rw [hw1, hn3]; exact blk_alloc (blk_new _ _) _)
  have X4 : Hid (w1.heap[n4]? = some (Obj.cells #[.int .i64 t.lo, .int .i64 t.hi] 25)) := Lib.hid (by rw [hw1, hn4, hn3]; exact blk_new' _ _ (by simp))
  rw [← hn3, ← hn4]
  clear hw1 hn3 hn4
  refine (askedR_any (HS.out.below hE1)).mono ?_
  rintro e w2 ⟨rfl, hb2⟩
  have HE2 := Lib.hid (ext_trans hE1 hb2)
  have Y3 := Lib.hid (Ext2.blk hb2 X3.out); have Y4 := Lib.hid (Ext2.blk hb2 X4.out)
  obtain ⟨x, hx⟩ : ∃ x, x = askE S t [r] := ⟨_, rfl⟩
  rw [← hx]
  have HX := Lib.hid hx
  clear hE1 hb2 hx
  by_cases hx0 : x = 0
  case neg =>
    have hd : (x != 0) = true := by simp [hx0]
    have HN := Lib.hid hx0
    clear hx0
    go_wp2_with (fail)
    have e0 : sweatO S t r = (false, false, x) := by unfold sweatO; rw [← HX.out, if_pos HN.out]
    refine bodyPost_ret (v := .tuple #[.bool false, .bool false, .int .i64 x]) ?_ rfl ⟨by rw [e0], HE2.out⟩
    simp [results, Tryz.results27, go_sem]
  subst hx0
  have hd : ((0 : Int) != 0) = false := rfl
  obtain ⟨hck, hsp, hr0, hr1⟩ := askE1_ok HX.out.symm
  have hti := spanE_in hsp
  obtain ⟨rn, hrn⟩ : ∃ n : Nat, n = r.toNat := ⟨_, rfl⟩
  have er : r = (rn : Int) := by omega
  have hrl : rn < S.rooms.length := by omega
  obtain ⟨bR, oR, haR, c0, c1, c2, c3, c4, c5, c6, c7, c8, c9⟩ := rm_cells (HS.out.below HE2.out).rm hrl
  dsimp only at haR
  subst haR
  have hri := (hck.room hrl).1
  obtain ⟨R, hR⟩ : ∃ R, R = rmD S.rooms rn := ⟨_, rfl⟩
  rw [← hR] at c1 c3 hri
  obtain ⟨wb, hwb⟩ : ∃ b, b = wet t.hi R.tlo R.dlo := ⟨_, rfl⟩
  obtain ⟨mb, hmb⟩ : ∃ b, b = mayS t R := ⟨_, rfl⟩
  have HW : Hid (∀ W, Calls Tryz.prog 63 #[.int .i64 t.hi, .int .i64 R.tlo, .int .i64 R.dlo] W fun e w' => e = .returned (.bool wb) ∧ Below W.heap.size W w') := Lib.hid fun W => by rw [hwb]; exact wetR_any W hti.2.2.1 hti.2.2.2 hri.1 hri.2.1 hri.2.2.2.2.1 hri.2.2.2.2.2.1
  have HMy : Hid (∀ W, Ext2 w2 W → Calls Tryz.prog 64 #[.agg #[.slice (SSl.mk ⟨some ⟨bR, oR, none⟩, rc⟩ cs ps).r.a S.rooms.length (SSl.mk ⟨some ⟨bR, oR, none⟩, rc⟩ cs ps).r.cap, .slice (SSl.mk ⟨some ⟨bR, oR, none⟩, rc⟩ cs ps).c.a S.cans.length (SSl.mk ⟨some ⟨bR, oR, none⟩, rc⟩ cs ps).c.cap, .int .i64 S.rlo, .int .i64 S.rhi, .slice (SSl.mk ⟨some ⟨bR, oR, none⟩, rc⟩ cs ps).p.a S.steps.length (SSl.mk ⟨some ⟨bR, oR, none⟩, rc⟩ cs ps).p.cap], .agg #[.int .i64 t.lo, .int .i64 t.hi], .int .i64 (rn : Int)] W fun e w' => e = .returned (.bool mb) ∧ Below W.heap.size W w') := Lib.hid fun W hW => by rw [hmb, hR]; exact mayR_any (HS.out.below (ext_trans HE2.out hW)) hrl (hck.room hrl).1 hti
  have e0 : sweatO S t r = (wb, mb, 0) := by unfold sweatO; rw [if_neg (by rw [← HX.out]; decide), ← hrn, ← hR, ← hwb, ← hmb]
  have HE0 := Lib.hid e0
  have x3 := Y3.out; have x4 := Y4.out
  subst er
  have i0 : (0 : Int) ≤ (rn : Int) := by omega
  have i1 : (rn : Int) < (S.rooms.length : Int) := by omega
  have i0' : decide ((0 : Int) ≤ (rn : Int)) = true := decide_eq_true i0
  have i1' : decide ((rn : Int) < (S.rooms.length : Int)) = true := decide_eq_true i1
  have q3c := cell_blk x3
  have q3f := frz_blk x3
  have q4c := cell_blk x4
  have q4f := frz_blk x4
  clear hck hsp hti hri hrn hR hwb hmb e0 x3 x4 hr0 hr1 c0 c2 c4 c5 c6 c7 c8 c9
  go_wp2_with (fail)
  refine region_ev [] [0, 1, 2, 3, 4, 5, 6, 7, 8, 9, 10, 11, 12, 13, 14, 15, 16, 17, 18, 19, 20, 21, 22, 23] [] [] (by kernel_rfl) (by kernel_rfl) (by intro c a d v w h; cases d <;> exact h) ?_
  simp only [picks, List.drop_succ_cons, List.drop_zero]
  repeat (refine wpQ0_step (fun K hK => ?_); go_simp; (refine hK _ ?_; clear hK K))
  refine wpQ0_nil ?_
  repeat ((with_reducible refine wpQ2_step (fun K hK => ?_)); go_simp; first | ((with_reducible refine hK _ ?_); clear hK K) | (apply Exists.intro; refine ⟨fun x => ?_, hK _ ?_⟩; (first | (with_reducible exact HW.out x.1) | (with_reducible exact HMy.out x.1 x.2)); clear hK K))
  refine wpQ2_nil ?_
  refine Events.none_ fun w5 hg5 => ?_
  simp only [picks, List.drop_succ_cons, List.drop_zero]
  go_wp2_with (fail)
  refine bodyPost_ret (v := .tuple #[.bool wb, .bool mb, .int .i64 0]) ?_ rfl ⟨by rw [HE0.out], ext_trans HE2.out hg5⟩
  simp [results, Tryz.results27, go_sem]
end Go.Proofs.YtfpaihjcbpaneaaGreatDoor
