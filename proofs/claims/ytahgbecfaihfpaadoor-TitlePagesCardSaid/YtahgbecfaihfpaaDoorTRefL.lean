/-
  ref.line.
-/
import Derived.Test.YtahgbecfaihfpaaDoorTRefD
import Derived.Test.YtahgbecfaihfpaaDoorTSameL
namespace Go.Proofs.YtahgbecfaihfpaaDoor
open Go.RowKit D
set_option linter.unusedVariables false
set_option linter.unusedSimpArgs false
attribute [local go_sem high] run_minI run_maxI
attribute [local go_sem] upon2 cls_cell cls_frozen forall_const exists_eq_left'
attribute [local go_sem] FirstUpon
/-- While a line is measured. -/
structure LnSt (w W : World) (F : Font) (s : FSl) (R : Rul) (fb rb xb lb : Nat) (y : Ln) : Prop where
  bel : Below w.heap.size w W
  f : W.heap[fb]? = some (Obj.cells #[.int .i64 F.high, .int .i64 F.space, .slice s.g.a F.glyphs.length s.g.cap, .slice s.k.a F.kerns.length s.k.cap] 25 (0, 0))
  r : W.heap[rb]? = some (Obj.cells #[.int .i64 R.measure, .int .i64 R.lines, .int .i64 R.lead, .int .i64 R.short, .int .i64 R.extra, .int .i64 R.ink] 34 (0, 0))
  x0 : W.heap[xb]? = some (Obj.cells #[.int .i64 0, .int .i64 0, .int .i64 0, .int .i64 0] 71 (0, 0))
  l : W.heap[lb]? = some (Obj.cells #[.int .i64 y.from_, .int .i64 y.until_, .int .i64 y.wide, .int .i64 y.cost] 71 (0, 0))
theorem LnSt.ext {w W W' : World} {F : Font} {s : FSl} {R : Rul} {fb rb xb lb : Nat} {x : Ln} (h : LnSt w W F s R fb rb xb lb x) (hb : Ext2 W W') : LnSt w W' F s R fb rb xb lb x := ⟨below_ext h.bel hb, Ext2.blk hb h.f, Ext2.blk hb h.r, Ext2.blk hb h.x0, Ext2.blk hb h.l⟩
theorem LnSt.wide {w W : World} {F : Font} {s : FSl} {R : Rul} {fb rb xb lb : Nat} {x : Ln} (h : LnSt w W F s R fb rb xb lb x) (h0 : w.heap.size ≤ lb) (h1 : lb ≠ fb) (h2 : lb ≠ rb) (h3 : lb ≠ xb) (v : Int) : LnSt w (W.setCell ⟨lb, 2, none⟩ (.int .i64 v)) F s R fb rb xb lb ⟨x.from_, x.until_, v, x.cost⟩ :=
  ⟨below_set h.bel h0, blk_set_ne h.f h1, blk_set_ne h.r h2, blk_set_ne h.x0 h3, Eq.trans (blk_set h.l _ _) rfl⟩
theorem LnSt.costs {w W : World} {F : Font} {s : FSl} {R : Rul} {fb rb xb lb : Nat} {x : Ln} (h : LnSt w W F s R fb rb xb lb x) (h0 : w.heap.size ≤ lb) (h1 : lb ≠ fb) (h2 : lb ≠ rb) (h3 : lb ≠ xb) (v : Int) : LnSt w (W.setCell ⟨lb, 3, none⟩ (.int .i64 v)) F s R fb rb xb lb ⟨x.from_, x.until_, x.wide, v⟩ :=
  ⟨below_set h.bel h0, blk_set_ne h.f h1, blk_set_ne h.r h2, blk_set_ne h.x0 h3, Eq.trans (blk_set h.l _ _) rfl⟩
theorem wideL_rng' {F : Font} {P : List ByteArray} {a z : Nat} (h : ∀ d, a + d ≤ P.length → -20 ≤ sumW F P a d ∧ sumW F P a d ≤ 68 * (d : Int)) (haz : a < z) (hz : z ≤ P.length) : -20 ≤ wideL F P a z ∧ wideL F P a z ≤ 68 * ((z : Int) - a) := by
  have := h (z - a) (by omega)
  unfold wideL; omega
set_option maxRecDepth 100000 in
set_option maxHeartbeats 2000000 in
theorem lineR_any {F : Font} {s : FSl} {R : Rul} {P : List ByteArray} {s1 s2 : Sl} {a z : Nat} {w : World} (hk : FontOk F) (hr : RulOk F R) (ht : TextOk F R P) (h1 : StrsS w s1 P) (h2 : IntsS w s2 (widL F P)) (haz : a < z) (hz : z ≤ P.length) :
    Calls Tryd.prog 58 #[.agg #[.int .i64 F.high, .int .i64 F.space, .slice s.g.a F.glyphs.length s.g.cap, .slice s.k.a F.kerns.length s.k.cap], .agg #[.int .i64 R.measure, .int .i64 R.lines, .int .i64 R.lead, .int .i64 R.short, .int .i64 R.extra, .int .i64 R.ink], .slice s1.a P.length s1.cap, .slice s2.a P.length s2.cap, .int .i64 (a : Int), .int .i64 (z : Int)] w fun e w' => e = .returned (.agg #[.int .i64 (lineS F R P a z).from_, .int .i64 (lineS F R P a z).until_, .int .i64 (lineS F R P a z).wide, .int .i64 (lineS F R P a z).cost]) ∧ Below w.heap.size w w' := by
  have hn40 := ht.n40
  have hsp := hk.space
  have hms := hr.measure
  have hex := hr.extra
  have hsr := fun d (hd : a + d ≤ P.length) => sumW_rng hk hr ht a d hd
  have hww : ∀ i, i < P.length → 0 ≤ wW F (strD P i) ∧ wW F (strD P i) ≤ 68 := fun i hi => by have h1 := ht.wide i hi; omega
  obtain ⟨sb, soff, hsa, -⟩ := str_cell h1 (i := 0) (by omega)
  have h1c := h1.le; have h1m := h1.max
  obtain ⟨sa, sc⟩ := s1
  dsimp only at hsa h1c h1m
  subst hsa
  obtain ⟨wb, woff, hwa, -⟩ := int_cell h2 (i := 0) (by rw [widL_len]; omega)
  have h2c := h2.le; have h2m := h2.max
  rw [widL_len] at h2c
  obtain ⟨wa, wc⟩ := s2
  dsimp only at hwa h2c h2m
  subst hwa
  obtain ⟨m, hm⟩ : ∃ m, z = a + 1 + m := ⟨z - a - 1, by omega⟩
  have hm40 : m ≤ 39 := by omega
  have hmul : 0 ≤ (m : Int) * F.space ∧ (m : Int) * F.space ≤ 39 * 20 := ⟨Int.mul_nonneg (by omega) (by omega), Int.mul_le_mul (by omega) (by omega) (by omega) (by omega)⟩
  obtain ⟨M, hM⟩ : ∃ M, M = (m : Int) * F.space := ⟨_, rfl⟩
  have t1 : IntKind.i64.wrap ((z : Int) - (a : Int)) = (z : Int) - (a : Int) := IntWalk.i64_in _ (by omega)
  have t2 : IntKind.i64.wrap ((z : Int) - (a : Int) - 1) = (m : Int) := by rw [IntWalk.i64_in _ (by omega)]; omega
  have t3 : IntKind.i64.wrap ((m : Int) * F.space) = M := by rw [← hM]; exact IntWalk.i64_in _ (by omega)
  rw [← hM] at hmul
  have HM := Lib.hid hm; have HMM := Lib.hid hM; have HSR := Lib.hid hsr; have HWW := Lib.hid hww
  have H1 := Lib.hid h1; have H2 := Lib.hid h2; have HTX := Lib.hid ht
  clear hk hr ht h1 h2 hm hM hsr hww
  go_enter Tryd.func58, Tryd.ntmps58
  go_wp2_with (fail)
  refine wp_name ?_
  intro w1 hw1
  have hS1 : LnSt w w1 F s R w.heap.size (w.heap.size + 1) (w.heap.size + 1 + 1) (w.heap.size + 1 + 1 + 1) ⟨a, z, M, 0⟩ := by
    refine ⟨?_, ?_, ?_, ?_, ?_⟩
    · rw [hw1]; repeat' (first | exact Below.refl _ _ | assumption | refine below_drewN ?_ _ | refine Below.drew ?_ | refine Below.alloc ?_ (by first | assumption | omega | (simp <;> omega)) _ | refine Below.setCell ?_ (by first | assumption | omega | (simp <;> omega)) _ | refine Ext2.on (by assumption) ?_)
    · rw [hw1]; repeat' (first | (with_reducible assumption) | (with_reducible refine blk_set_ne ?_ ?_) | (with_reducible exact blk_new _ _) | (with_reducible refine blk_new' _ _ (by first | (with_reducible rfl) | (simp; done) | (simp <;> omega))) | (with_reducible refine blk_alloc ?_ _) | (with_reducible refine blk_drew ?_) | (with_reducible refine blk_drewN ?_ _) | (with_reducible refine Ext2.blk (by assumption) ?_) | omega | (simp <;> omega) | exact blk_set (by assumption) _ _)
    · rw [hw1]; repeat' (first | (with_reducible assumption) | (with_reducible refine blk_set_ne ?_ ?_) | (with_reducible exact blk_new _ _) | (with_reducible refine blk_new' _ _ (by first | (with_reducible rfl) | (simp; done) | (simp <;> omega))) | (with_reducible refine blk_alloc ?_ _) | (with_reducible refine blk_drew ?_) | (with_reducible refine blk_drewN ?_ _) | (with_reducible refine Ext2.blk (by assumption) ?_) | omega | (simp <;> omega) | exact blk_set (by assumption) _ _)
    · rw [hw1]; repeat' (first | (with_reducible assumption) | (with_reducible refine blk_set_ne ?_ ?_) | (with_reducible exact blk_new _ _) | (with_reducible refine blk_new' _ _ (by first | (with_reducible rfl) | (simp; done) | (simp <;> omega))) | (with_reducible refine blk_alloc ?_ _) | (with_reducible refine blk_drew ?_) | (with_reducible refine blk_drewN ?_ _) | (with_reducible refine Ext2.blk (by assumption) ?_) | omega | (simp <;> omega) | exact blk_set (by assumption) _ _)
    · rw [hw1]; repeat' (first | (with_reducible assumption) | (with_reducible refine blk_set_ne ?_ ?_) | (with_reducible exact blk_new _ _) | (with_reducible refine blk_new' _ _ (by first | (with_reducible rfl) | (simp; done) | (simp <;> omega))) | (with_reducible refine blk_alloc ?_ _) | (with_reducible refine blk_drew ?_) | (with_reducible refine blk_drewN ?_ _) | (with_reducible refine Ext2.blk (by assumption) ?_) | omega | (simp <;> omega) | exact blk_set (by assumption) _ _)
  obtain ⟨fb, hfb⟩ : ∃ n, n = w.heap.size := ⟨_, rfl⟩
  obtain ⟨rb, hrb⟩ : ∃ n, n = w.heap.size + 1 := ⟨_, rfl⟩
  obtain ⟨xb, hxb⟩ : ∃ n, n = w.heap.size + 1 + 1 := ⟨_, rfl⟩
  obtain ⟨lb, hlb⟩ : ∃ n, n = w.heap.size + 1 + 1 + 1 := ⟨_, rfl⟩
  rw [← hlb, ← hxb, ← hrb, ← hfb] at hS1
  rw [← hlb, ← hxb, ← hrb, ← hfb]
  have q0 : w.heap.size ≤ lb := by omega
  have q0x : w.heap.size ≤ xb := by omega
  have q1 : lb ≠ fb := by omega
  have q2 : lb ≠ rb := by omega
  have q3 : lb ≠ xb := by omega
  have q4 : ¬ xb = lb := by omega
  have HS1 := Lib.hid hS1
  clear hw1 hS1 hfb hrb hxb hlb t1 t2 t3
  have h00 : M = sumW F P a (a - a) + ((z : Int) - (a : Int)) * F.space := by
    rw [Nat.sub_self, sumW, HMM.out, show ((z : Int) - (a : Int)) = (m : Int) + 1 by have := HM.out; omega, Int.add_mul, Int.one_mul]; omega
  have H00 := Lib.hid h00
  clear h00
  go_loopw [14] (fun i wr => ∃ k : Nat, i = .int .i64 (k : Int) ∧ a ≤ k ∧ k ≤ z ∧ LnSt w wr F s R fb rb xb lb ⟨a, z, sumW F P a (k - a) + ((z : Int) - (k : Int)) * F.space, 0⟩) (fun i _ => z - (intOf i).toNat)
  case atStart => exact ⟨a, rfl, Nat.le_refl _, by omega, by rw [← H00.out]; exact HS1.out⟩
  case round =>
    obtain ⟨k, rfl, hak, hkz, hS⟩ := hrel
    have HS := Lib.hid hS
    by_cases hlt : k < z
    · go_light
      obtain ⟨_, _, e1, c0⟩ := int_cell (RowS.below H2.out hS.bel) (i := k) (by rw [widL_len]; omega)
      obtain ⟨rfl, rfl⟩ : wb = _ ∧ woff = _ := by simpa using e1
      rw [widL_at F P (by omega)] at c0
      have hwk := HWW.out k (by omega)
      have hsk := HSR.out (k - a) (by omega)
      have hT : 0 ≤ ((z : Int) - (k : Int)) * F.space ∧ ((z : Int) - (k : Int)) * F.space ≤ 40 * 20 := ⟨Int.mul_nonneg (by omega) (by omega), Int.mul_le_mul (by omega) (by omega) (by omega) (by omega)⟩
      have hst : sumW F P a (k + 1 - a) + ((z : Int) - ((k + 1 : Nat) : Int)) * F.space = (sumW F P a (k - a) + ((z : Int) - (k : Int)) * F.space) + wW F (strD P k) := by
        rw [show k + 1 - a = k - a + 1 by omega, sumW, show a + (k - a) = k by omega, show ((z : Int) - ((k + 1 : Nat) : Int)) = ((z : Int) - (k : Int)) - 1 by omega, Int.sub_mul, Int.one_mul]; omega
      obtain ⟨S, hSx⟩ : ∃ x, x = sumW F P a (k - a) + ((z : Int) - (k : Int)) * F.space := ⟨_, rfl⟩
      obtain ⟨wk, hwkx⟩ : ∃ x, x = wW F (strD P k) := ⟨_, rfl⟩
      rw [← hwkx] at c0 hwk hst
      have hSr : -20 ≤ S ∧ S ≤ 3700 := by rw [hSx]; omega
      rw [← hSx] at hst hS
      have HST := Lib.hid hst; have HSS := Lib.hid hS
      have xl := hS.l
      dsimp only at xl
      have r0 : (0 : Int) ≤ (k : Int) := by omega
      have r1 : (k : Int) < (z : Int) := by omega
      have r2 : (k : Int) < (P.length : Int) := by omega
      have w3' : IntKind.i64.wrap ((k : Int) + 1) = (k : Int) + 1 := IntWalk.i64_in _ (by omega)
      have ws : IntKind.i64.wrap (S + wk) = S + wk := IntWalk.i64_in _ (by omega)
      clear e1 hst hSx hwkx hS hT hsk hwk
      have qlc := cell_blk xl
      have qlf := frz_blk xl
      go_wp2_with (fail)
      refine region_ev [] [0, 1, 2, 3, 4, 5, 6, 7] [] [8] (by kernel_rfl) (by kernel_rfl) (by intro c a d v w h; cases d <;> exact h) ?_
      simp only [picks, List.drop_succ_cons, List.drop_zero]
      repeat (refine wpQ0_step (fun K hK => ?_); go_simp; (refine hK _ ?_; clear hK K))
      refine wpQ0_nil ?_
      repeat ((with_reducible refine wpQ2_step (fun K hK => ?_)); go_simp; first | ((with_reducible refine hK _ ?_); clear hK K) | (apply Exists.intro; refine ⟨fun x => ?_, hK _ ?_⟩; (fail); clear hK K))
      refine wpQ2_nil ?_
      refine Events.none_ fun w5 hg5 => ?_
      simp only [picks, List.drop_succ_cons, List.drop_zero]
      have hS5 := HSS.out.ext hg5
      have hS6 := hS5.wide q0 q1 q2 q3 (S + wk)
      have x5 := hS5.l
      dsimp only at x5 hS6
      have HS6 := Lib.hid hS6
      clear qlc qlf xl c0 hg5 hS5 hS6
      have qlc := cell_blk x5
      have qlf := frz_blk x5
      go_wp2_with (fail)
      go_roundw
      case rel => exact ⟨k + 1, by go_num, by omega, hlt, by rw [HST.out]; exact HS6.out⟩
      case measure => simp [intOf]; omega
    · obtain rfl : k = z := by omega
      have r1 : ¬ (k : Int) < (k : Int) := by omega
      have hwd : sumW F P a (k - a) + ((k : Int) - (k : Int)) * F.space = wideL F P a k := by rw [Int.sub_self, Int.zero_mul, Int.add_zero]; rfl
      rw [hwd] at hS
      have hwr := wideL_rng' HSR.out haz hz
      have hcl : costL F R P a k = if k = P.length then 0 else (R.measure - wideL F P a k) * (R.measure - wideL F P a k) + (if ((strD P (k - 1)).size : Int) ≤ R.short then R.extra else 0) := rfl
      have hln : lineS F R P a k = ⟨a, k, wideL F P a k, costL F R P a k⟩ := rfl
      obtain ⟨C, hC⟩ : ∃ x, x = costL F R P a k := ⟨_, rfl⟩
      rw [← hC] at hcl hln
      obtain ⟨Wd, hWd⟩ : ∃ x, x = wideL F P a k := ⟨_, rfl⟩
      rw [← hWd] at hS hwr hcl hln
      have HSk := Lib.hid hS; have HLN := Lib.hid hln
      clear hlt hwd hC hWd hln HS hS
      by_cases hlast : k = P.length
      · have hC0 : C = 0 := by rw [hcl, if_pos hlast]
        have l1 : ¬ (k : Int) < (P.length : Int) := by omega
        have xl := HSk.out.l; have xx := HSk.out.x0
        dsimp only at xl
        subst hC0
        clear hcl hlast
        have qlc := cell_blk xl
        have qlf := frz_blk xl
        have qxc := cell_blk xx
        have qxf := frz_blk xx
        go_wp2_with (fail)
        refine bodyPost_ret (v := .agg #[.int .i64 (a : Int), .int .i64 (k : Int), .int .i64 Wd, .int .i64 0]) ?_ rfl ⟨by rw [HLN.out], set4_below HSk.out.bel q0x⟩
        have xz := set4 (v0 := .int .i64 (a : Int)) (v1 := .int .i64 (k : Int)) (v2 := .int .i64 Wd) (v3 := .int .i64 0) xx
        have zzc := cell_blk xz
        have zzf := frz_blk xz
        simp [results, Tryd.results58, go_sem, zzc]
      · rw [if_neg hlast] at hcl
        have l1 : (k : Int) < (P.length : Int) := by omega
        obtain ⟨D, hD⟩ : ∃ x, x = (R.measure - Wd) * (R.measure - Wd) := ⟨_, rfl⟩
        have hDr := sq_rng (d := R.measure - Wd) (by omega) (by omega)
        rw [← hD] at hcl hDr
        have d1 : IntKind.i64.wrap (R.measure - Wd) = R.measure - Wd := IntWalk.i64_in _ (by omega)
        have d2 : IntKind.i64.wrap ((R.measure - Wd) * (R.measure - Wd)) = D := by rw [← hD]; exact IntWalk.i64_in _ (by omega)
        obtain ⟨j, hj⟩ : ∃ j, k = j + 1 := ⟨k - 1, by omega⟩
        have hj1 : k - 1 = j := by omega
        rw [hj1] at hcl
        have j0 : IntKind.i64.wrap ((k : Int) - 1) = (j : Int) := by rw [IntWalk.i64_in _ (by omega)]; omega
        have j1 : (0 : Int) ≤ (j : Int) := by omega
        have j2 : (j : Int) < (P.length : Int) := by omega
        have hjn : j < P.length := by omega
        have xl := HSk.out.l; have xr := HSk.out.r
        dsimp only at xl
        have HD := Lib.hid hD
        clear hD hj hj1 hlast
        have qlc := cell_blk xl
        have qlf := frz_blk xl
        have qrc := cell_blk xr
        have qrf := frz_blk xr
        go_wp2_with (fail)
        refine wp_name ?_
        intro w6 h6
        have hS6 := HSk.out.costs q0 q1 q2 q3 D
        rw [← h6] at hS6
        dsimp only at hS6
        have HS6 := Lib.hid hS6
        obtain ⟨_, _, e1, c0⟩ := str_cell (RowS.below H1.out hS6.bel) hjn
        obtain ⟨rfl, rfl⟩ : sb = _ ∧ soff = _ := by simpa using e1
        have hpz := HTX.out.size j hjn
        obtain ⟨p, hp⟩ : ∃ p, p = strD P j := ⟨_, rfl⟩
        rw [← hp] at c0 hcl hpz
        have xr6 := hS6.r
        clear h6 hS6 e1 hp qlc qlf qrc qrf xl xr d1 d2
        have qrc := cell_blk xr6
        have qrf := frz_blk xr6
        go_wp2_with (fail)
        refine region_ev [] [0, 1, 2, 3, 4, 5, 6, 7, 8] [] [] (by kernel_rfl) (by kernel_rfl) (by intro c a d v w h; cases d <;> exact h) ?_
        simp only [picks, List.drop_succ_cons, List.drop_zero]
        repeat (refine wpQ0_step (fun K hK => ?_); go_simp; (refine hK _ ?_; clear hK K))
        refine wpQ0_nil ?_
        repeat ((with_reducible refine wpQ2_step (fun K hK => ?_)); go_simp; first | ((with_reducible refine hK _ ?_); clear hK K) | (apply Exists.intro; refine ⟨fun x => ?_, hK _ ?_⟩; (fail); clear hK K))
        refine wpQ2_nil ?_
        refine Events.none_ fun w7 hg7 => ?_
        simp only [picks, List.drop_succ_cons, List.drop_zero]
        have HS7 := Lib.hid (HS6.out.ext hg7)
        clear qrc qrf xr6 c0 hg7
        have xl := HS7.out.l; have xr := HS7.out.r; have xx := HS7.out.x0
        dsimp only at xl
        by_cases hsh : (p.size : Int) ≤ R.short
        · rw [if_pos hsh] at hcl
          have we : IntKind.i64.wrap (D + R.extra) = C := by rw [hcl]; exact IntWalk.i64_in _ (by omega)
          clear hcl
          have qlc := cell_blk xl
          have qlf := frz_blk xl
          have qrc := cell_blk xr
          have qrf := frz_blk xr
          have HS8 := Lib.hid (HS7.out.costs q0 q1 q2 q3 C)
          have qxc := cell_blk xx
          have qxf := frz_blk xx
          go_wp2_with (fail)
          refine bodyPost_ret (v := .agg #[.int .i64 (a : Int), .int .i64 (k : Int), .int .i64 Wd, .int .i64 C]) ?_ rfl ⟨by rw [HLN.out], set4_below HS8.out.bel q0x⟩
          have xz := set4 (v0 := .int .i64 (a : Int)) (v1 := .int .i64 (k : Int)) (v2 := .int .i64 Wd) (v3 := .int .i64 C) HS8.out.x0
          have zzc := cell_blk xz
          have zzf := frz_blk xz
          simp [results, Tryd.results58, go_sem, zzc]
        · rw [if_neg hsh, Int.add_zero] at hcl
          subst hcl
          clear xr
          have qlc := cell_blk xl
          have qlf := frz_blk xl
          have qxc := cell_blk xx
          have qxf := frz_blk xx
          go_wp2_with (fail)
          refine bodyPost_ret (v := .agg #[.int .i64 (a : Int), .int .i64 (k : Int), .int .i64 Wd, .int .i64 C]) ?_ rfl ⟨by rw [HLN.out], set4_below HS7.out.bel q0x⟩
          have xz := set4 (v0 := .int .i64 (a : Int)) (v1 := .int .i64 (k : Int)) (v2 := .int .i64 Wd) (v3 := .int .i64 C) xx
          have zzc := cell_blk xz
          have zzf := frz_blk xz
          simp [results, Tryd.results58, go_sem, zzc]
end Go.Proofs.YtahgbecfaihfpaaDoor
