/-
  The law TitleLeast, walked.
-/
import Derived.Test.YtahgbecfaihfpaaDoorTAwM
import Derived.Test.YtahgbecfaihfpaaDoorTPlLeast
import Derived.Test.YtahgbecfaihfpaaDoorTSameL
namespace Go.Proofs.YtahgbecfaihfpaaDoor
open Go.RowKit D
set_option linter.unusedVariables false
set_option linter.unusedSimpArgs false
attribute [local go_sem high] run_minI run_maxI
attribute [local go_sem] upon2 cls_cell cls_frozen forall_const exists_eq_left'
attribute [local go_sem] FirstUpon
theorem openE_ok {F : Font} {R : Rul} {t : ByteArray} (h : openE F R t = 0) : FontOk F ∧ RulOk F R ∧ TextOk F R (partsS t) := open_ok h
set_option maxRecDepth 100000 in
set_option maxHeartbeats 2000000 in
theorem lawLeast_any {F : Font} {s : FSl} {R : Rul} {t : ByteArray} {es : Sl} {E : List Int} {w : World} (hF : FontAt w F s) (ht : t.size ≤ maxLen) (hE : IntsS w es E) (hm : MaxAt w) : Calls Tryd.prog 10 #[.agg #[.int .i64 F.high, .int .i64 F.space, .slice s.g.a F.glyphs.length s.g.cap, .slice s.k.a F.kerns.length s.k.cap, .int .i64 R.measure, .int .i64 R.lines, .int .i64 R.lead, .int .i64 R.short, .int .i64 R.extra, .int .i64 R.ink, .string t], .slice es.a E.length es.cap] w fun e w' => e = .returned (.bool true) ∧ Below w.heap.size w w' := by
  have HBK : Hid (∀ W, Below w.heap.size w W → Calls Tryd.prog 33 #[.agg #[.int .i64 F.high, .int .i64 F.space, .slice s.g.a F.glyphs.length s.g.cap, .slice s.k.a F.kerns.length s.k.cap], .agg #[.int .i64 R.measure, .int .i64 R.lines, .int .i64 R.lead, .int .i64 R.short, .int .i64 R.extra, .int .i64 R.ink], .string t] W (BreakPost W F R t)) := Lib.hid fun W hW => break_any (hF.below hW) (hm.below hW)
  have HRE : Hid (∀ W, Below w.heap.size w W → Calls Tryd.prog 25 #[.agg #[.int .i64 F.high, .int .i64 F.space, .slice s.g.a F.glyphs.length s.g.cap, .slice s.k.a F.kerns.length s.k.cap], .agg #[.int .i64 R.measure, .int .i64 R.lines, .int .i64 R.lead, .int .i64 R.short, .int .i64 R.extra, .int .i64 R.ink], .string t] W (RestPost W F R t)) := Lib.hid fun W hW => rest_any (hF.below hW) (hm.below hW)
  have HJ1 : Hid (∀ W (es' : Sl) (E' : List Int), Below w.heap.size w W → IntsS W es' E' → Calls Tryd.prog 21 #[.agg #[.int .i64 F.high, .int .i64 F.space, .slice s.g.a F.glyphs.length s.g.cap, .slice s.k.a F.kerns.length s.k.cap], .agg #[.int .i64 R.measure, .int .i64 R.lines, .int .i64 R.lead, .int .i64 R.short, .int .i64 R.extra, .int .i64 R.ink], .string t, .slice es'.a E'.length es'.cap] W (JudgePost W (judgeV F R t E'))) := Lib.hid fun W es' E' hW h => judge_any (hF.below hW) (hm.below hW) h
  have H5 : Hid (∀ W, Below w.heap.size w W → Calls Tryd.prog 20 #[] W fun e w' => e = .returned (.bool true) ∧ Below W.heap.size W w') := Lib.hid fun W hW => awake_any (hm.below hW)
  have HE := Lib.hid hE
  have hec := hE.le; have hem := hE.max
  obtain ⟨x, hx⟩ : ∃ x, x = openE F R t := ⟨_, rfl⟩
  have HX := Lib.hid hx
  clear hF hm hE hx
  go_enter Tryd.func10, Tryd.ntmps10
  go_wp2_with (fail)
  (with_reducible refine (HBK.out _ ?_).mono ?_)
  · repeat' (first | exact Below.refl _ _ | assumption | refine below_drewN ?_ _ | refine Below.drew ?_ | refine Below.alloc ?_ (by first | assumption | omega | (simp <;> omega)) _ | refine Below.setCell ?_ (by first | assumption | omega | (simp <;> omega)) _ | refine Ext2.on (by assumption) ?_)
  rintro e w1 ⟨⟨v1, rfl, hv1⟩, hb1⟩
  rw [← HX.out] at hv1 ⊢
  have hB1 : Below w.heap.size w w1 := Below.trans (by repeat' (first | exact Below.refl _ _ | assumption | refine below_drewN ?_ _ | refine Below.drew ?_ | refine Below.alloc ?_ (by first | assumption | omega | (simp <;> omega)) _ | refine Below.setCell ?_ (by first | assumption | omega | (simp <;> omega)) _ | refine Ext2.on (by assumption) ?_)) (hb1.mono (by simp))
  have b0 : w1.heap[w.heap.size]? = some (Obj.cells #[.int .i64 F.high, .int .i64 F.space, .slice s.g.a F.glyphs.length s.g.cap, .slice s.k.a F.kerns.length s.k.cap, .int .i64 R.measure, .int .i64 R.lines, .int .i64 R.lead, .int .i64 R.short, .int .i64 R.extra, .int .i64 R.ink, .string t] 36) := below_blk hb1 (by repeat' (first | (with_reducible assumption) | (with_reducible refine blk_set_ne ?_ ?_) | (with_reducible exact blk_new _ _) | (with_reducible refine blk_new' _ _ (by first | (with_reducible rfl) | (simp; done) | (simp <;> omega))) | (with_reducible refine blk_alloc ?_ _) | (with_reducible refine blk_drew ?_) | (with_reducible refine blk_drewN ?_ _) | (with_reducible refine Ext2.blk (by assumption) ?_) | omega | (simp <;> omega) | exact blk_set (by assumption) _ _)) (by simp)
  have HV1 := Lib.hid hv1
  clear hb1 hv1
  have q0c := cell_blk b0
  have q0f := frz_blk b0
  go_wp2_with (fail)
  (with_reducible refine (HRE.out _ hB1).mono ?_)
  rintro e w2 ⟨⟨v2, rfl, hv2⟩, hb2⟩
  rw [← HX.out] at hv2 ⊢
  have hB2 := below_ext hB1 hb2
  have b0 := Ext2.blk hb2 b0
  have hv1 := HV1.out
  have HB0 := Lib.hid b0; have HB2 := Lib.hid hB2; have HE12 := Lib.hid (show Ext2 w1 w2 from hb2)
  clear q0c q0f hb2 hB1 b0 hB2
  by_cases h0 : x = 0
  case neg =>
    rw [if_neg h0] at hv1 hv2
    subst hv1 hv2
    have e1 : (x != 0) = true := by simp [h0]
    have H0 := Lib.hid h0
    clear h0
    go_wp2_with (fail)
    (with_reducible refine (H5.out _ HB2.out).mono ?_)
    rintro e w3 ⟨rfl, hb3⟩
    have hB3 := below_ext HB2.out hb3
    clear hb3
    go_wp2_with (fail)
    go_ret
    exact ⟨rfl, hB3⟩
  case pos =>
    rw [if_pos h0] at hv1 hv2
    subst h0
    obtain ⟨hk, hr, htx⟩ := open_ok HX.out.symm
    obtain ⟨P, hP⟩ : ∃ P, P = partsS t := ⟨_, rfl⟩
    rw [← hP] at hv1 hv2 htx
    obtain ⟨sl, rfl, hl⟩ := hv1
    obtain ⟨sr, rfl, hrs⟩ := hv2
    have hl := hl.below HE12.out
    have hlc := hl.le; have hlm := hl.max
    have hrc := hrs.1.le; have hrm := hrs.1.max
    rw [breaks_len] at hl hlc
    rw [rest_len] at hrc
    have HL := Lib.hid hl; have HR := Lib.hid hrs; have HK := Lib.hid hk; have HTX := Lib.hid htx; have HP := Lib.hid hP; have HRO := Lib.hid hr
    have hln := lines_ok htx
    have hn40 := htx.n40
    have hrl : (restL F R P).length = P.length + 1 := rest_len F R P
    rw [breaks_len, hrl]
    obtain ⟨N, hN⟩ : ∃ N, N = nLines F R P := ⟨_, rfl⟩
    rw [← hN] at hl hlc hln ⊢
    have HN := Lib.hid hN
    have hN40 : N ≤ 40 := by omega
    clear hk hr htx hl hrs hP hN hrl
    obtain ⟨lb0, loff0, hla, -⟩ := HL.out.row (by rw [← HN.out]; omega) (by omega)
    obtain ⟨sa, sc⟩ := sl
    dsimp only at hla hlc hlm
    subst hla
    obtain ⟨rb, roff, hra, -⟩ := int_cell HR.out.1 (i := 0) (by rw [rest_len]; omega)
    obtain ⟨ra, rc⟩ := sr
    dsimp only at hra hrc hrm
    subst hra
    dsimp only
    have HSZ := Lib.hid (Nat.le_refl w2.heap.size)
    go_wp2_with (fail)
    go_loopw [9, 10, 11] (fun v c i wr => ∃ k : Nat, i = .int .i64 (k : Int) ∧ k ≤ N ∧ c = .int .i64 (sumE F R P (ownE F R P) k) ∧ OwnR wr w2.heap.size 3 1 v k (fun i _ => .int .i64 (intD (ownE F R P) i)) ∧ Ext2 w2 wr) (fun _ _ i _ => N - (intOf i).toNat)
    case atStart => exact ⟨0, rfl, Nat.zero_le _, rfl, own_nil _ _ _ _ _, Below.refl _ _⟩
    case round =>
      obtain ⟨k, rfl, hk, rfl, hO, hEr⟩ := hrel
      have HO := Lib.hid hO; have HEr := Lib.hid hEr
      have hsz := hEr.size
      clear hO
      by_cases hlt : k < N
      · go_light
        obtain ⟨b, off, ha, c0, c1, c2, c3⟩ := line_cells4 (l := breaksL F R P) (s := ⟨some ⟨lb0, loff0, none⟩, sc⟩) (i := k) (by rw [breaks_len]; exact HL.out.below hEr) (by rw [breaks_len, ← HN.out]; exact hlt)
        rw [breaks_at F R P (by rw [← HN.out]; exact hlt)] at c0 c1 c2 c3
        obtain ⟨hst1, hst2⟩ := own_step HTX.out (k := k) (by rw [← HN.out]; exact hlt)
        have hrg := own_rng HK.out HRO.out HTX.out (k := k) (by rw [← HN.out]; omega)
        have hrg2 := own_rng HK.out HRO.out HTX.out (k := k + 1) (by rw [← HN.out]; omega)
        rw [hst2] at hrg2
        obtain ⟨U, hU⟩ : ∃ x, x = (linS F R P k).until_ := ⟨_, rfl⟩
        obtain ⟨C, hC⟩ : ∃ x, x = (linS F R P k).cost := ⟨_, rfl⟩
        obtain ⟨S, hS⟩ : ∃ x, x = sumE F R P (ownE F R P) k := ⟨_, rfl⟩
        rw [← hU] at c1 hst1
        rw [← hC] at c3 hst2 hrg2
        rw [← hS] at hst2 hrg hrg2 ⊢
        obtain ⟨rfl, rfl⟩ : lb0 = b ∧ loff0 = off := by simpa using ha
        have r0 : (0 : Int) ≤ (k : Int) := by omega
        have r1 : (k : Int) < (N : Int) := by omega
        have w3' : IntKind.i64.wrap ((k : Int) + 1) = (k : Int) + 1 := IntWalk.i64_in _ (by omega)
        have ws : IntKind.i64.wrap (S + C) = S + C := IntWalk.i64_in _ (by omega)
        have HS1 := Lib.hid hst1; have HS2 := Lib.hid hst2; have HCC := Lib.hid hC
        have lb := cell_lt c1
        dsimp only at lb
        have lb2 : ¬ lb0 = wr.heap.size := by omega
        clear hst1 hst2 hU hC hS hEr c0 c2
        go_wp2_with (at_builtin; refine app_one [.int .i64 U] elInt rfl _ _ rfl w2.heap.size rfl (HO.out.below (below_alloc' _ _)) wr.heap.size 1 rfl (blk_new _ _) (by simp [Value.oneCell']) (by omega) (by simp; omega) ?_; intro v' w7 hO7 hg7; have hE7 : Ext2 w2 w7 := app_below (HEr.out.alloc (by omega) _) (HO.out.below (below_alloc' _ _)) (Nat.le_refl _) (by simp; omega) hg7; obtain ⟨a0, o0, hx0, -, -, -, c3⟩ := line_cells4 (l := breaksL F R P) (s := ⟨some ⟨lb0, loff0, none⟩, sc⟩) (i := k) (by rw [breaks_len]; exact HL.out.below hE7) (by rw [breaks_len, ← HN.out]; exact hlt); obtain ⟨rfl, rfl⟩ : lb0 = a0 ∧ loff0 = o0 := (by simpa using hx0); rw [breaks_at F R P (by rw [← HN.out]; exact hlt), ← HCC.out] at c3; clear hx0)
        have hO7' : OwnR w7 w2.heap.size 3 1 v' (k + 1) (fun i _ => .int .i64 (intD (ownE F R P) i)) := hO7.congr fun i j hi hj => by
          by_cases hik : i = k
          · subst hik
            obtain rfl : j = 0 := by have : j < 1 := hj; omega
            rw [upd_at, HS1.out]; rfl
          · rw [upd_lt (by omega)]
        have HO7 := Lib.hid hO7'
        clear hO7 hg7 hO7'
        go_roundw
        case rel => exact ⟨k + 1, by go_num, hlt, by rw [HS2.out], HO7.out, hE7⟩
        case measure => simp [intOf]; omega
      · obtain rfl : k = N := by omega
        have r8 : ¬ (k : Int) < (k : Int) := by omega
        obtain ⟨⟨a', cp⟩, rfl, hro⟩ := HO.out.sl
        have hsum := own_sum HTX.out k (by rw [← HN.out]; exact Nat.le_refl _)
        rw [hln.2.1, restS_end] at hsum
        have hown := own_judge HK.out HTX.out
        obtain ⟨C, hC⟩ : ∃ x, x = (restS F R P 0).cost := ⟨_, rfl⟩
        have hsc : sumE F R P (ownE F R P) k = C := by have := hsum.1; simp at this; rw [hC]; exact this
        rw [hsc]
        have hEI : IntsS wr ⟨a', cp⟩ (ownE F R P) := by
          unfold IntsS
          rw [own_len, ← HN.out]
          refine ⟨hro.le, hro.max, fun i j hi hj => ?_⟩
          obtain ⟨b, off, h1, h2⟩ := hro.cell i j hi hj
          exact ⟨b, off, h1, h2.trans (by simp [intC])⟩
        have hBr := below_ext HB2.out hEr
        have HC1 := HJ1.out wr ⟨a', cp⟩ (ownE F R P) hBr hEI
        rw [own_len, ← HN.out] at HC1
        have hjv : judgeV F R t (ownE F R P) = (C, 0) := by unfold judgeV; rw [if_neg (by rw [← HX.out]; exact not_not_intro rfl), ← HP.out, hown.1, hC]
        rw [hjv] at HC1
        have HJC := Lib.hid HC1
        have HCC := Lib.hid hC
        obtain ⟨⟨d, f⟩, hdf⟩ : ∃ y, y = judgeV F R t E := ⟨_, rfl⟩
        have hmin : f = 0 → C < d ∨ (C = d ∧ (k : Int) ≤ (E.length : Int)) := fun hf0 => by
          have h1 : judgeV F R t E = judgeS F R P E := by unfold judgeV; rw [if_neg (by rw [← HX.out]; exact not_not_intro rfl), ← HP.out]
          rw [h1] at hdf
          have h2 : (judgeS F R P E).2 = 0 := by rw [← hdf]; exact hf0
          have h3 := judge_min HK.out HTX.out h2 E.length 0 (by omega)
          have h4 := (judge_ok h2).2.2.2
          have e0 : prevE E 0 = 0 := rfl
          have e1 : sumE F R P E 0 = 0 := rfl
          rw [e0, e1, Int.toNat_zero, ← hC, hown.2, ← HN.out] at h3
          have h5 : sumE F R P E E.length = d := by rw [← h4, ← hdf]
          rw [h5] at h3
          unfold leR at h3; omega
        have HMIN := Lib.hid hmin
        have HJ2 := Lib.hid (show ∀ W, Ext2 wr W → Calls Tryd.prog 21 #[.agg #[.int .i64 F.high, .int .i64 F.space, .slice s.g.a F.glyphs.length s.g.cap, .slice s.k.a F.kerns.length s.k.cap], .agg #[.int .i64 R.measure, .int .i64 R.lines, .int .i64 R.lead, .int .i64 R.short, .int .i64 R.extra, .int .i64 R.ink], .string t, .slice es.a E.length es.cap] W (JudgePost W (d, f)) from fun W hW => by
          have h := HJ1.out W es E (below_ext hBr hW) (RowS.below HE.out (below_ext hBr hW))
          rw [← hdf] at h; exact h)
        have b0 := Ext2.blk hEr HB0.out
        have HRr := Lib.hid (RowS.below HR.out.1 hEr)
        have HBr := Lib.hid hBr
        clear hsum hown hsc hEI HC1 hjv hdf hmin hro hBr hEr hlt hk hC
        have q0c := cell_blk b0
        have q0f := frz_blk b0
        go_wp2_with (fail)
        refine HJC.out.mono ?_
        rintro e w8 ⟨rfl, hb8⟩
        have b0 := Ext2.blk hb8 b0
        clear q0c q0f
        have q0c := cell_blk b0
        have q0f := frz_blk b0
        go_wp2_with (fail)
        refine (HJ2.out _ hb8).mono ?_
        rintro e w9 ⟨rfl, hb9⟩
        have hE9 := ext_trans hb8 hb9
        have hrr := RowS.below HRr.out hE9
        obtain ⟨rb', roff', hra, c0⟩ := int_cell hrr (i := 0) (by rw [rest_len]; omega)
        obtain ⟨rfl, rfl⟩ : rb = rb' ∧ roff = roff' := by simpa using hra
        rw [restL_at F R P (by omega), ← HCC.out, Nat.add_zero] at c0
        have HB9 := Lib.hid (below_ext HBr.out hE9)
        have p0 : (0 : Int) < (P.length : Int) + 1 := by omega
        clear q0c q0f b0 hrr hb8 hb9 hE9 hra
        by_cases hf : f = 0
        · have hmn := HMIN.out hf
          subst hf
          rcases hmn with h1 | ⟨h1, h2⟩
          · have e1 : decide (C < d) = true := decide_eq_true h1
            go_wp2_with (fail)
            (with_reducible refine (H5.out _ HB9.out).mono ?_)
            rintro e w10 ⟨rfl, hb10⟩
            have hB10 := below_ext HB9.out hb10
            clear hb10
            go_wp2_with (fail)
            go_ret
            exact ⟨rfl, hB10⟩
          · subst h1
            have e1 : decide (C < C) = false := decide_eq_false (by omega)
            have e2 : decide ((k : Int) ≤ (E.length : Int)) = true := decide_eq_true h2
            go_wp2_with (fail)
            (with_reducible refine (H5.out _ HB9.out).mono ?_)
            rintro e w10 ⟨rfl, hb10⟩
            have hB10 := below_ext HB9.out hb10
            clear hb10
            go_wp2_with (fail)
            go_ret
            exact ⟨rfl, hB10⟩
        · have e1 : (f != 0) = true := by simp [hf]
          go_wp2_with (fail)
          (with_reducible refine (H5.out _ HB9.out).mono ?_)
          rintro e w10 ⟨rfl, hb10⟩
          have hB10 := below_ext HB9.out hb10
          clear hb10
          go_wp2_with (fail)
          go_ret
          exact ⟨rfl, hB10⟩
end Go.Proofs.YtahgbecfaihfpaaDoor
