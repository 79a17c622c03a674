/-
  ref.placed, ref.Place.
-/
import Derived.Test.YtahgbecfaihfpaaDoorTRefK
import Derived.Test.YtahgbecfaihfpaaDoorTPlacesM
namespace Go.Proofs.YtahgbecfaihfpaaDoor
open Go.RowKit D
set_option linter.unusedVariables false
set_option linter.unusedSimpArgs false
attribute [local go_sem high] run_minI run_maxI
attribute [local go_sem] upon2 cls_cell cls_frozen forall_const exists_eq_left'
attribute [local go_sem] FirstUpon
theorem elPl : Elem Tryd.prog 134 76 (.agg #[.int .i64 0, .int .i64 0, .int .i64 0]) 3 24 := ⟨by kernel_rfl, by kernel_rfl, rfl, by omega, by omega⟩
def plC (F : Font) (R : Rul) (P : List ByteArray) (i j : Nat) : Value :=
  match j with
  | 0 => .int .i64 (plS F R P i).page
  | 1 => .int .i64 (plS F R P i).line
  | _ => .int .i64 (plS F R P i).left
theorem lin_cells {w : World} {b off cap n : Nat} {T : Nat → Ln} (h : RowS w ⟨some ⟨b, off, none⟩, cap⟩ 4 n (fun i => lnV (T i))) {i : Nat} (hi : i < n) : w.cell? ⟨b, off + i * 4, none⟩ = some (.int .i64 (T i).from_) ∧ w.cell? ⟨b, off + i * 4 + 1, none⟩ = some (.int .i64 (T i).until_) ∧ w.cell? ⟨b, off + i * 4 + 2, none⟩ = some (.int .i64 (T i).wide) := by
  obtain ⟨b', off', e1, hr⟩ := h.row (by omega) (by omega)
  obtain ⟨rfl, rfl⟩ : b = b' ∧ off = off' := by simpa using e1
  have := hr.four hi
  exact ⟨this.1, this.2.1, this.2.2.1⟩
set_option maxRecDepth 100000 in
set_option maxHeartbeats 4000000 in
theorem placedR_any {F : Font} {s : FSl} {R : Rul} {P : List ByteArray} {s1 s2 : Sl} {w : World} (hk : FontOk F) (hr : RulOk F R) (ht : TextOk F R P) (h1 : StrsS w s1 P) (h2 : IntsS w s2 (widL F P)) :
    Calls Tryd.prog 71 #[.agg #[.int .i64 F.high, .int .i64 F.space, .slice s.g.a F.glyphs.length s.g.cap, .slice s.k.a F.kerns.length s.k.cap], .agg #[.int .i64 R.measure, .int .i64 R.lines, .int .i64 R.lead, .int .i64 R.short, .int .i64 R.extra, .int .i64 R.ink], .slice s1.a P.length s1.cap, .slice s2.a P.length s2.cap] w fun e w' => (∃ s' : Sl, e = .returned (.slice s'.a P.length s'.cap) ∧ RowS w' s' 3 P.length (plC F R P)) ∧ Below w.heap.size w w' := by
  have HBR : Hid (∀ W, Below w.heap.size w W → Calls Tryd.prog 69 #[.agg #[.int .i64 F.high, .int .i64 F.space, .slice s.g.a F.glyphs.length s.g.cap, .slice s.k.a F.kerns.length s.k.cap], .agg #[.int .i64 R.measure, .int .i64 R.lines, .int .i64 R.lead, .int .i64 R.short, .int .i64 R.extra, .int .i64 R.ink], .slice s1.a P.length s1.cap, .slice s2.a P.length s2.cap] W fun e w' => (∃ s' : Sl, e = .returned (.slice s'.a (nLines F R P) s'.cap) ∧ RowS w' s' 4 (nLines F R P) (fun i => lnV (linS F R P i))) ∧ Below W.heap.size W w') := Lib.hid fun W hW => breaksR_any hk hr ht (RowS.below h1 hW) (RowS.below h2 hW)
  have hn40 := ht.n40; have hn1 := ht.n1
  have hlo := lines_ok ht
  have h2c := h2.le; have h2m := h2.max
  rw [widL_len] at h2c
  obtain ⟨wb, woff, hwa, -⟩ := int_cell h2 (i := 0) (by rw [widL_len]; omega)
  obtain ⟨wa, wc⟩ := s2
  dsimp only at hwa h2c h2m
  subst hwa
  have HK := Lib.hid hk; have HR := Lib.hid hr; have HTX := Lib.hid ht; have H2 := Lib.hid h2; have HLO := Lib.hid hlo
  have h1c := h1.le; have h1m := h1.max
  clear hk hr ht h1 h2
  go_enter Tryd.func71, Tryd.ntmps71
  go_wp2_with (fail)
  (with_reducible refine (HBR.out _ ?_).mono ?_)
  · repeat' (first | exact Below.refl _ _ | assumption | refine below_drewN ?_ _ | refine Below.drew ?_ | refine Below.alloc ?_ (by first | assumption | omega | (simp <;> omega)) _ | refine Below.setCell ?_ (by first | assumption | omega | (simp <;> omega)) _ | refine Ext2.on (by assumption) ?_)
  rintro e w2 ⟨⟨sl, rfl, hrow⟩, hb2⟩
  have hB2 : Below w.heap.size w w2 := Below.trans (by repeat' (first | exact Below.refl _ _ | assumption | refine below_drewN ?_ _ | refine Below.drew ?_ | refine Below.alloc ?_ (by first | assumption | omega | (simp <;> omega)) _ | refine Below.setCell ?_ (by first | assumption | omega | (simp <;> omega)) _ | refine Ext2.on (by assumption) ?_)) (hb2.mono (by simp; omega))
  have x4 : w2.heap[w.heap.size]? = some (Obj.cells #[.int .i64 F.high, .int .i64 F.space, .slice s.g.a F.glyphs.length s.g.cap, .slice s.k.a F.kerns.length s.k.cap] 25) := below_blk hb2 (by repeat' (first | (with_reducible assumption) | (with_reducible refine blk_set_ne ?_ ?_) | (with_reducible exact blk_new _ _) | (with_reducible refine blk_new' _ _ (by first | (with_reducible rfl) | (simp; done) | (simp <;> omega))) | (with_reducible refine blk_alloc ?_ _) | (with_reducible refine blk_drew ?_) | (with_reducible refine blk_drewN ?_ _) | (with_reducible refine Ext2.blk (by assumption) ?_) | omega | (simp <;> omega) | exact blk_set (by assumption) _ _)) (by simp; omega)
  have x5 : w2.heap[w.heap.size + 1]? = some (Obj.cells #[.int .i64 R.measure, .int .i64 R.lines, .int .i64 R.lead, .int .i64 R.short, .int .i64 R.extra, .int .i64 R.ink] 34) := below_blk hb2 (by repeat' (first | (with_reducible assumption) | (with_reducible refine blk_set_ne ?_ ?_) | (with_reducible exact blk_new _ _) | (with_reducible refine blk_new' _ _ (by first | (with_reducible rfl) | (simp; done) | (simp <;> omega))) | (with_reducible refine blk_alloc ?_ _) | (with_reducible refine blk_drew ?_) | (with_reducible refine blk_drewN ?_ _) | (with_reducible refine Ext2.blk (by assumption) ?_) | omega | (simp <;> omega) | exact blk_set (by assumption) _ _)) (by simp)
  have hlc := hrow.le; have hlm := hrow.max
  obtain ⟨lb, loff, hla, -⟩ := hrow.row (by omega) (by omega)
  obtain ⟨sa, sc⟩ := sl
  dsimp only at hla hlc hlm
  subst hla
  obtain ⟨N, hN⟩ : ∃ N, N = nLines F R P := ⟨_, rfl⟩
  rw [← hN] at hlc hlo hrow ⊢
  have HB2 := Lib.hid hB2; have HX4 := Lib.hid x4; have HX5 := Lib.hid x5; have HROW := Lib.hid hrow; have HN := Lib.hid hN
  have hN40 : N ≤ 40 := by omega
  have HLO := Lib.hid hlo
  clear hb2 hB2 x4 x5 hrow hN hlo
  go_wp2_with (fail)
  go_loopw [9, 11] (fun v i wr => ∃ k : Nat, i = .int .i64 (k : Int) ∧ k ≤ N ∧ OwnR wr w2.heap.size 76 3 v (brk F R P k) (plC F R P) ∧ Ext2 w2 wr) (fun _ i _ => N - (intOf i).toNat)
  case atStart => exact ⟨0, rfl, Nat.zero_le _, own_nil _ _ _ _ _, Below.refl _ _⟩
  case round =>
    obtain ⟨k, rfl, hk, hO, hEr⟩ := hrel
    have HO := Lib.hid hO; have HEr := Lib.hid hEr
    clear hO
    by_cases hlt : k < N
    · go_light
      have hbk := brk_lt HTX.out (k := k) (by rw [← HN.out]; exact hlt)
      have hlr0 := left_rng HK.out HR.out HTX.out (k := k) (by rw [← HN.out]; exact hlt) (d := 0) (by omega)
      have hwf := brk_fits HTX.out (k := k) (by rw [← HN.out]; exact hlt)
      have hwrg := wideL_rng HK.out HR.out HTX.out (a := brk F R P k) (z := brk F R P (k + 1)) hbk.1 hbk.2.1
      have hms := HR.out.measure
      have hl00 : leftN F R P k 0 = (R.measure - (linS F R P k).wide) / 2 := rfl
      obtain ⟨c0, c1, c2⟩ := lin_cells (RowS.below HROW.out hEr) (i := k) hlt
      have hwd : (linS F R P k).wide = wideL F P (brk F R P k) (brk F R P (k + 1)) := rfl
      rw [← hwd] at hwf hwrg
      obtain ⟨Wd, hWd⟩ : ∃ x, x = (linS F R P k).wide := ⟨_, rfl⟩
      rw [← hWd] at c2 hl00 hwf hwrg
      obtain ⟨B, hB⟩ : ∃ B, B = brk F R P k := ⟨_, rfl⟩
      obtain ⟨U, hU⟩ : ∃ U, U = brk F R P (k + 1) := ⟨_, rfl⟩
      rw [show (linS F R P k).from_ = (B : Int) by rw [hB]; rfl] at c0
      rw [show (linS F R P k).until_ = (U : Int) by rw [hU]; rfl] at c1
      obtain ⟨L0, hL0⟩ : ∃ x, x = leftN F R P k 0 := ⟨_, rfl⟩
      rw [← hL0] at hl00 hlr0
      rw [← hB, ← hU] at hbk
      rw [← hB] at HO
      have HBB := Lib.hid hB; have HUU := Lib.hid hU; have HL0 := Lib.hid hL0
      have wD : IntKind.i64.wrap (R.measure - Wd) = R.measure - Wd := IntWalk.i64_in _ (by omega)
      have hDt : (R.measure - Wd).tdiv 2 = L0 := by rw [hl00]; exact Int.tdiv_eq_ediv_of_nonneg (by omega)
      have wL : IntKind.i64.wrap L0 = L0 := IntWalk.i64_in _ (by omega)
      have r0 : (0 : Int) ≤ (k : Int) := by omega
      have r1 : (k : Int) < (N : Int) := by omega
      have w3' : IntKind.i64.wrap ((k : Int) + 1) = (k : Int) + 1 := IntWalk.i64_in _ (by omega)
      have x5 := Ext2.blk hEr HX5.out
      clear hWd hwd hB hU hL0 hl00 hwf hwrg hEr
      have q5c := cell_blk x5
      have q5f := frz_blk x5
      go_wp2_with (fail)
      refine region_ev [] [0, 1, 2, 3, 4, 5, 6, 7, 8, 9] [] [] (by kernel_rfl) (by kernel_rfl) (by intro c a d v w h; cases d <;> exact h) ?_
      simp only [picks, List.drop_succ_cons, List.drop_zero]
      repeat (refine wpQ0_step (fun K hK => ?_); go_simp; (refine hK _ ?_; clear hK K))
      refine wpQ0_nil ?_
      repeat ((with_reducible refine wpQ2_step (fun K hK => ?_)); go_simp; first | ((with_reducible refine hK _ ?_); clear hK K) | (apply Exists.intro; refine ⟨fun x => ?_, hK _ ?_⟩; (fail); clear hK K))
      refine wpQ2_nil ?_
      refine Events.none_ fun w3 hg3 => ?_
      simp only [picks, List.drop_succ_cons, List.drop_zero]
      have HE3 := Lib.hid (ext_trans HEr.out hg3)
      have c0 := (Below.cell hg3 (cell_lt c0)).trans c0
      have HO3 := Lib.hid (HO.out.below hg3)
      clear q5c q5f x5 hg3 c1 c2 wD hDt wL
      go_wp2_with (fail)
      clear c0
      go_loopw [9, 12, 13] (fun v lv jv wx => ∃ j : Nat, jv = .int .i64 (j : Int) ∧ B ≤ j ∧ j ≤ U ∧ lv = .int .i64 (leftN F R P k (j - B)) ∧ OwnR wx w2.heap.size 76 3 v j (plC F R P) ∧ Ext2 w2 wx) (fun _ _ jv _ => U - (intOf jv).toNat)
      case atStart => exact ⟨B, rfl, Nat.le_refl _, by omega, by rw [Nat.sub_self, ← HL0.out], HO3.out, HE3.out⟩
      case round =>
        obtain ⟨j, rfl, hBj, hjU, rfl, hO, hEx⟩ := hrel
        have HO4 := Lib.hid hO; have HEx := Lib.hid hEx
        have hsz := hEx.size
        clear hO
        obtain ⟨d0, d1, d2⟩ := lin_cells (RowS.below HROW.out hEx) (i := k) hlt
        rw [show (linS F R P k).until_ = (U : Int) by rw [HUU.out]; rfl] at d1
        by_cases hlj : j < U
        · go_light
          have hjP : j < P.length := by omega
          have hps : plS F R P j = plN F R P k (j - B) := by
            have h1 := plS_at HTX.out (k := k) (d := j - B) (by rw [← HN.out]; exact hlt) (by rw [← HBB.out, ← HUU.out]; omega)
            rwa [← HBB.out, show B + (j - B) = j by omega] at h1
          have hlr := left_rng HK.out HR.out HTX.out (k := k) (by rw [← HN.out]; exact hlt) (d := j - B) (by rw [← HBB.out]; omega)
          have hls : leftN F R P k (j + 1 - B) = leftN F R P k (j - B) + (wW F (strD P j) + F.space) := by
            have h1 : leftN F R P k (j - B + 1) = leftN F R P k (j - B) + (wW F (strD P (brk F R P k + (j - B))) + F.space) := rfl
            rwa [← HBB.out, show B + (j - B) = j by omega, show j - B + 1 = j + 1 - B by omega] at h1
          have hwj := HTX.out.wide j hjP
          have hsp := HK.out.space
          have hln := HR.out.lines
          have hms := HR.out.measure
          obtain ⟨_, _, e5, c5⟩ := int_cell (RowS.below (RowS.below H2.out HB2.out) hEx) (i := j) (by rw [widL_len]; exact hjP)
          obtain ⟨rfl, rfl⟩ : wb = _ ∧ woff = _ := by simpa using e5
          rw [widL_at F P hjP] at c5
          obtain ⟨wj, hwjv⟩ : ∃ y, y = wW F (strD P j) := ⟨_, rfl⟩
          rw [← hwjv] at c5 hwj hls
          obtain ⟨L, hL⟩ : ∃ L, L = leftN F R P k (j - B) := ⟨_, rfl⟩
          have hpn : plN F R P k (j - B) = ⟨(k : Int) / R.lines, (k : Int) % R.lines, L⟩ := by rw [hL]; rfl
          rw [hpn] at hps
          rw [← hL] at hlr hls ⊢
          obtain ⟨pg, hpg⟩ : ∃ x, x = (k : Int) / R.lines := ⟨_, rfl⟩
          obtain ⟨ln, hlnn⟩ : ∃ x, x = (k : Int) % R.lines := ⟨_, rfl⟩
          rw [← hpg, ← hlnn] at hps
          have hq1 : (k : Int).tdiv R.lines = pg := by rw [hpg]; exact Int.tdiv_eq_ediv_of_nonneg (by omega)
          have hq2 : (k : Int).tmod R.lines = ln := by rw [hlnn]; exact Int.tmod_eq_emod_of_nonneg (by omega)
          have hpgr : 0 ≤ pg ∧ pg ≤ k := by rw [hpg]; exact ⟨Int.ediv_nonneg (by omega) (by omega), Int.ediv_le_self _ (by omega)⟩
          have hlnr : 0 ≤ ln ∧ ln < R.lines := by rw [hlnn]; exact ⟨Int.emod_nonneg _ (by omega), Int.emod_lt_of_pos _ (by omega)⟩
          have wpg : IntKind.i64.wrap pg = pg := IntWalk.i64_in _ (by omega)
          have wln : IntKind.i64.wrap ln = ln := IntWalk.i64_in _ (by omega)
          have hl0 : ¬ R.lines = 0 := by omega
          have w1' : IntKind.i64.wrap (L + wj) = L + wj := IntWalk.i64_in _ (by omega)
          have w2' : IntKind.i64.wrap (L + wj + F.space) = L + wj + F.space := IntWalk.i64_in _ (by omega)
          have wj' : IntKind.i64.wrap ((j : Int) + 1) = (j : Int) + 1 := IntWalk.i64_in _ (by omega)
          have j0 : (0 : Int) ≤ (j : Int) := by omega
          have j1 : (j : Int) < (P.length : Int) := by omega
          have j2 : (j : Int) < (U : Int) := by omega
          have HPS := Lib.hid hps; have HLS := Lib.hid hls; have HWJ := Lib.hid hwjv
          have x5 := Ext2.blk hEx HX5.out
          have x4 := Ext2.blk hEx HX4.out
          clear e5 hps hpn hL hls hwjv hpg hlnn hEx hpgr hlnr hlr hwj hsp
          have q5c := cell_blk x5
          have q5f := frz_blk x5
          have q4c := cell_blk x4
          have q4f := frz_blk x4
          go_wp2_with (fail)
          refine region_ev [] [0, 1, 2, 3, 4, 5, 6, 7, 8, 9, 10] [(11, 59, none)] [12, 13] (by kernel_rfl) (by kernel_rfl) (by intro c a d v w h; cases d <;> exact h) ?_
          simp only [picks, List.drop_succ_cons, List.drop_zero]
          repeat (refine wpQ0_step (fun K hK => ?_); go_simp; (refine hK _ ?_; clear hK K))
          refine wpQ0_nil ?_
          repeat ((with_reducible refine wpQ2_step (fun K hK => ?_)); go_simp; first | ((with_reducible refine hK _ ?_); clear hK K) | (apply Exists.intro; refine ⟨fun x => ?_, hK _ ?_⟩; (fail); clear hK K))
          refine wpQ2_nil ?_
          refine Events.lay1 (fun b => .slice (some ⟨b, 0, none⟩) 1 1) (.cells #[.int .i64 pg, .int .i64 ln, .int .i64 L] 76 (0, 0)) ⟨_, rfl, rfl, rfl, fun W => by kernel_rfl⟩ fun b59 w5 hb59 hg5 nb59 => ?_
          simp only [picks, List.drop_succ_cons, List.drop_zero]
          have HE5 := Lib.hid (ext_trans HEx.out hg5)
          have hsz5 := hg5.size
          have x4 := Ext2.blk hg5 x4
          have c5 := (Below.cell hg5 (cell_lt c5)).trans c5
          clear q4c q4f q5c q5f x5 d0 d1 d2
          go_wp2_with (at_builtin; go_loud (refine app_one [.int .i64 pg, .int .i64 ln, .int .i64 L] elPl rfl _ _ rfl w2.heap.size rfl (HO4.out.below hg5) b59 1 rfl nb59 (by simp [Value.oneCell']) (by omega) (by omega) ?_); intro v' w7 hO7 hg7)
          have hE7 : Ext2 w2 w7 := app_below (HE5.out) (HO4.out.below hg5) (Nat.le_refl _) (by omega) hg7
          have HE7 := Lib.hid hE7
          have HO7 : Hid (OwnR w7 w2.heap.size 76 3 v' (j + 1) (plC F R P)) := Lib.hid (hO7.congr fun i q hi hq => by
            by_cases hik : i = j
            · subst hik
              have hq3 : q < 3 := hq
              rw [upd_at]
              rcases (by omega : q = 0 ∨ q = 1 ∨ q = 2) with rfl | rfl | rfl <;> simp only [plC, HPS.out] <;> rfl
            · rw [upd_lt (by omega)])
          have x4 := Ext2.blk hE7 HX4.out
          obtain ⟨_, _, e5, c5⟩ := int_cell (RowS.below (RowS.below H2.out HB2.out) hE7) (i := j) (by rw [widL_len]; exact hjP)
          obtain ⟨rfl, rfl⟩ : wb = _ ∧ woff = _ := by simpa using e5
          rw [widL_at F P hjP] at c5
          rw [← HWJ.out] at c5
          clear hO7 hg7 e5 hE7
          have q4c := cell_blk x4
          have q4f := frz_blk x4
          refine region_ev [] [0, 1, 2, 3, 4, 5, 6, 7, 8, 9] [] [] (by kernel_rfl) (by kernel_rfl) (by intro c a d v w h; cases d <;> exact h) ?_
          simp only [picks, List.drop_succ_cons, List.drop_zero]
          repeat (refine wpQ0_step (fun K hK => ?_); go_simp; (refine hK _ ?_; clear hK K))
          refine wpQ0_nil ?_
          repeat ((with_reducible refine wpQ2_step (fun K hK => ?_)); go_simp; first | ((with_reducible refine hK _ ?_); clear hK K) | (apply Exists.intro; refine ⟨fun x => ?_, hK _ ?_⟩; (fail); clear hK K))
          refine wpQ2_nil ?_
          refine Events.none_ fun w8 hg8 => ?_
          simp only [picks, List.drop_succ_cons, List.drop_zero]
          have hE8 := ext_trans HE7.out hg8
          have HO8 := Lib.hid (HO7.out.below hg8)
          clear q4c q4f x4 c5 hg8
          go_wp2_with (fail)
          go_roundw
          case rel => exact ⟨j + 1, by go_num, by omega, hlj, by rw [HLS.out]; congr 1; omega, HO8.out, hE8⟩
          case measure => simp [intOf]; omega
        · obtain rfl : j = U := by omega
          have r8 : ¬ (j : Int) < (j : Int) := by omega
          clear hlj hEx d0 d2
          go_wp2_with (fail)
          go_roundw
          case rel => exact ⟨k + 1, by go_num, hlt, by rw [← HUU.out]; exact HO4.out, HEx.out⟩
          case measure => simp [intOf]; omega
    · obtain rfl : k = N := by omega
      have r1 : ¬ (k : Int) < (k : Int) := by omega
      have hO2 := HO.out
      rw [HLO.out.2.1] at hO2
      obtain ⟨⟨a', cp⟩, rfl, hro⟩ := hO2.sl
      have HR1 := Lib.hid hro
      have hBr := below_ext HB2.out hEr
      clear hlt hro hEr hO2
      go_wp2_with (fail)
      go_ret
      exact ⟨⟨⟨a', cp⟩, rfl, HR1.out⟩, hBr⟩
theorem set3 {w : World} {g : Nat} {c0 c1 c2 v0 v1 v2 : Value} {t : TypeId} (h : w.heap[g]? = some (.cells #[c0, c1, c2] t (0, 0))) : (((w.setCell ⟨g, 0, none⟩ v0).setCell ⟨g, 1, none⟩ v1).setCell ⟨g, 2, none⟩ v2).heap[g]? = some (.cells #[v0, v1, v2] t (0, 0)) := Eq.trans (blk_set (blk_set (blk_set h _ _) _ _) _ _) rfl
theorem set3_below {B g : Nat} {w0 w : World} {v0 v1 v2 : Value} (h : Below B w0 w) (hg : B ≤ g) : Below B w0 (((w.setCell ⟨g, 0, none⟩ v0).setCell ⟨g, 1, none⟩ v1).setCell ⟨g, 2, none⟩ v2) := below_set (below_set (below_set h hg) hg) hg
set_option maxRecDepth 100000 in
set_option maxHeartbeats 4000000 in
theorem placeR_any {F : Font} {s : FSl} {R : Rul} {t : ByteArray} {i : Int} {w : World} (hF : FontAt w F s) (ht : t.size ≤ maxLen) : Calls Tryd.prog 41 #[.agg #[.int .i64 F.high, .int .i64 F.space, .slice s.g.a F.glyphs.length s.g.cap, .slice s.k.a F.kerns.length s.k.cap], .agg #[.int .i64 R.measure, .int .i64 R.lines, .int .i64 R.lead, .int .i64 R.short, .int .i64 R.extra, .int .i64 R.ink], .string t, .int .i64 i] w (PlacePost w (placeV F R t i)) := by
  have HRD : Hid (∀ W, Below w.heap.size w W → Calls Tryd.prog 57 #[.agg #[.int .i64 F.high, .int .i64 F.space, .slice s.g.a F.glyphs.length s.g.cap, .slice s.k.a F.kerns.length s.k.cap], .agg #[.int .i64 R.measure, .int .i64 R.lines, .int .i64 R.lead, .int .i64 R.short, .int .i64 R.extra, .int .i64 R.ink], .string t] W (ReadPost W F R t)) := Lib.hid fun W hW => readR_any (hF.below hW) ht
  obtain ⟨x, hx⟩ : ∃ x, x = openE F R t := ⟨_, rfl⟩
  obtain ⟨V, hV⟩ : ∃ V, V = placeV F R t i := ⟨_, rfl⟩
  rw [← hV]
  have HX := Lib.hid hx; have HV := Lib.hid hV
  clear hx hF hV
  go_enter Tryd.func41, Tryd.ntmps41
  go_wp2_with (fail)
  (with_reducible refine (HRD.out _ ?_).mono ?_)
  · repeat' (first | exact Below.refl _ _ | assumption | refine below_drewN ?_ _ | refine Below.drew ?_ | refine Below.alloc ?_ (by first | assumption | omega | (simp <;> omega)) _ | refine Below.setCell ?_ (by first | assumption | omega | (simp <;> omega)) _ | refine Ext2.on (by assumption) ?_)
  rintro e w1 ⟨⟨v1, v2, rfl, hv⟩, hb1⟩
  rw [← HX.out] at hv ⊢
  have hB1 : Below w.heap.size w w1 := Below.trans (by repeat' (first | exact Below.refl _ _ | assumption | refine below_drewN ?_ _ | refine Below.drew ?_ | refine Below.alloc ?_ (by first | assumption | omega | (simp <;> omega)) _ | refine Below.setCell ?_ (by first | assumption | omega | (simp <;> omega)) _ | refine Ext2.on (by assumption) ?_)) (hb1.mono (by simp; omega))
  have x4 : w1.heap[w.heap.size]? = some (Obj.cells #[.int .i64 F.high, .int .i64 F.space, .slice s.g.a F.glyphs.length s.g.cap, .slice s.k.a F.kerns.length s.k.cap] 25) := below_blk hb1 (by repeat' (first | (with_reducible assumption) | (with_reducible refine blk_set_ne ?_ ?_) | (with_reducible exact blk_new _ _) | (with_reducible refine blk_new' _ _ (by first | (with_reducible rfl) | (simp; done) | (simp <;> omega))) | (with_reducible refine blk_alloc ?_ _) | (with_reducible refine blk_drew ?_) | (with_reducible refine blk_drewN ?_ _) | (with_reducible refine Ext2.blk (by assumption) ?_) | omega | (simp <;> omega) | exact blk_set (by assumption) _ _)) (by simp; omega)
  have x5 : w1.heap[w.heap.size + 1]? = some (Obj.cells #[.int .i64 R.measure, .int .i64 R.lines, .int .i64 R.lead, .int .i64 R.short, .int .i64 R.extra, .int .i64 R.ink] 34) := below_blk hb1 (by repeat' (first | (with_reducible assumption) | (with_reducible refine blk_set_ne ?_ ?_) | (with_reducible exact blk_new _ _) | (with_reducible refine blk_new' _ _ (by first | (with_reducible rfl) | (simp; done) | (simp <;> omega))) | (with_reducible refine blk_alloc ?_ _) | (with_reducible refine blk_drew ?_) | (with_reducible refine blk_drewN ?_ _) | (with_reducible refine Ext2.blk (by assumption) ?_) | omega | (simp <;> omega) | exact blk_set (by assumption) _ _)) (by first | (simp; done) | (simp; omega))
  have x8 : w1.heap[w.heap.size + 1 + 1]? = some (Obj.cells #[.int .i64 0, .int .i64 0, .int .i64 0] 76) := below_blk hb1 (by repeat' (first | (with_reducible assumption) | (with_reducible refine blk_set_ne ?_ ?_) | (with_reducible exact blk_new _ _) | (with_reducible refine blk_new' _ _ (by first | (with_reducible rfl) | (simp; done) | (simp <;> omega))) | (with_reducible refine blk_alloc ?_ _) | (with_reducible refine blk_drew ?_) | (with_reducible refine blk_drewN ?_ _) | (with_reducible refine Ext2.blk (by assumption) ?_) | omega | (simp <;> omega) | exact blk_set (by assumption) _ _)) (by first | (simp; done) | (simp; omega))
  have HB1 := Lib.hid hB1
  clear hb1 hB1
  obtain ⟨rb, hrb⟩ : ∃ b, b = w.heap.size + 1 + 1 := ⟨_, rfl⟩
  have lrb : w.heap.size ≤ rb := by omega
  rw [← hrb] at x8
  rw [← hrb]
  clear hrb
  by_cases h0 : x = 0
  case neg =>
    rw [if_neg h0] at hv
    obtain ⟨rfl, rfl⟩ := hv
    have e2 : (x != 0) = true := by simp [h0]
    have e3 : (x == 0) = false := beq_eq_false_iff_ne.2 h0
    have hVx : V = (⟨0, 0, 0⟩, x) := by rw [HV.out]; unfold placeV; rw [if_pos (by rw [← HX.out]; exact h0), ← HX.out]
    subst hVx
    clear h0
    have q8c := cell_blk x8
    have q8f := frz_blk x8
    go_wp2_with (fail)
    have xz := set3 (v0 := .int .i64 0) (v1 := .int .i64 0) (v2 := .int .i64 0) x8
    refine bodyPost_ret (v := .tuple #[.agg #[.int .i64 0, .int .i64 0, .int .i64 0], .int .i64 x]) ?_ rfl ⟨rfl, set3_below HB1.out lrb⟩
    have zzc := cell_blk xz
    have zzf := frz_blk xz
    simp [results, Tryd.results41, go_sem, zzc]
  case pos =>
    rw [if_pos h0] at hv
    subst h0
    obtain ⟨hk, hr, htx⟩ := open_ok HX.out.symm
    obtain ⟨P, hP⟩ : ∃ P, P = partsS t := ⟨_, rfl⟩
    rw [← hP] at hv htx
    obtain ⟨⟨s1, rfl, hs1⟩, ⟨s2, rfl, hs2⟩⟩ := hv
    have HPD := Lib.hid (placedR_any (s := s) hk hr htx hs1 hs2)
    have h1c := hs1.le; have h1m := hs1.max; have h2c := hs2.le; have h2m := hs2.max
    rw [widL_len] at h2c
    have hn40 := htx.n40; have hn1 := htx.n1
    have hVx : V = if inB i 0 ((P.length : Int) - 1) = false then (⟨0, 0, 0⟩, 4) else (plS F R P i.toNat, 0) := by
      rw [HV.out]; unfold placeV; rw [if_neg (by rw [← HX.out]; exact not_not_intro rfl), ← hP]
    obtain ⟨v, hvv⟩ : ∃ v, v = inB i 0 ((P.length : Int) - 1) := ⟨_, rfl⟩
    rw [← hvv] at hVx
    have HVV := Lib.hid hvv; have HVX := Lib.hid hVx
    have HIN : Hid (∀ W, Calls Tryd.prog 59 #[.int .i64 i, .int .i64 0, .int .i64 ((P.length : Int) - 1)] W fun e w' => e = .returned (.bool v) ∧ W = w') := Lib.hid fun W => by rw [hvv]; exact in_any _ _ _ W
    have wl : IntKind.i64.wrap ((P.length : Int) - 1) = (P.length : Int) - 1 := IntWalk.i64_in _ (by omega)
    clear hk hr htx hs1 hs2 hP hVx hvv
    cases v
    case false =>
      have hVx := HVX.out
      rw [if_pos rfl] at hVx
      subst hVx
      have q8c := cell_blk x8
      have q8f := frz_blk x8
      go_wp2_with (go_at_call 59; (with_reducible refine (HIN.out _).mono ?_); rintro e w' ⟨rfl, rfl⟩)
      have xz := set3 (v0 := .int .i64 0) (v1 := .int .i64 0) (v2 := .int .i64 0) x8
      refine bodyPost_ret (v := .tuple #[.agg #[.int .i64 0, .int .i64 0, .int .i64 0], .int .i64 4]) ?_ rfl ⟨rfl, set3_below HB1.out lrb⟩
      have zzc := cell_blk xz
      have zzf := frz_blk xz
      simp [results, Tryd.results41, go_sem, zzc]
    case true =>
      have hVx := HVX.out
      rw [if_neg (by simp)] at hVx
      have hir : 0 ≤ i ∧ i ≤ (P.length : Int) - 1 := of_decide_eq_true HVV.out.symm
      obtain ⟨k, rfl⟩ : ∃ k : Nat, i = (k : Int) := ⟨i.toNat, by omega⟩
      rw [Int.toNat_natCast] at hVx
      have hkP : k < P.length := by omega
      have k0 : (0 : Int) ≤ (k : Int) := by omega
      have k1 : (k : Int) < (P.length : Int) := by omega
      subst hVx
      have q4c := cell_blk x4
      have q4f := frz_blk x4
      have q5c := cell_blk x5
      have q5f := frz_blk x5
      go_wp2_with (go_at_call 59; (with_reducible refine (HIN.out _).mono ?_); rintro e w' ⟨rfl, rfl⟩)
      refine HPD.out.mono ?_
      rintro e w3 ⟨⟨sp, rfl, hrow⟩, hb3⟩
      have hpc := hrow.le; have hpm := hrow.max
      obtain ⟨pb, poff, hpa, hrc⟩ := hrow.row (by omega) (by omega)
      obtain ⟨pa, pc⟩ := sp
      dsimp only at hpa hpc hpm
      subst hpa
      obtain ⟨c0, c1, c2⟩ := hrc.three hkP
      simp only [plC] at c0 c1 c2
      obtain ⟨⟨pg, ln, lf⟩, hpl⟩ : ∃ p, p = plS F R P k := ⟨_, rfl⟩
      rw [← hpl] at c0 c1 c2
      dsimp only at c0 c1 c2
      have HB3 := Lib.hid (below_ext HB1.out hb3)
      have x8 := Ext2.blk hb3 x8
      have HPL := Lib.hid hpl
      clear hpl hrow hrc hb3 q4c q4f q5c q5f x4 x5
      have q8c := cell_blk x8
      have q8f := frz_blk x8
      go_wp2_with (fail)
      have xz := set3 (v0 := .int .i64 pg) (v1 := .int .i64 ln) (v2 := .int .i64 lf) x8
      refine bodyPost_ret (v := .tuple #[.agg #[.int .i64 pg, .int .i64 ln, .int .i64 lf], .int .i64 0]) ?_ rfl ⟨by rw [← HPL.out]; rfl, set3_below HB3.out lrb⟩
      have zzc := cell_blk xz
      have zzf := frz_blk xz
      simp [results, Tryd.results41, go_sem, zzc]
end Go.Proofs.YtahgbecfaihfpaaDoor
