/-
  The law TitlePlaced, walked.
-/
import Derived.Test.YtahgbecfaihfpaaDoorTPlPlc
import Derived.Test.YtahgbecfaihfpaaDoorTLawOn
import Derived.Test.YtahgbecfaihfpaaDoorTRefB
namespace Go.Proofs.YtahgbecfaihfpaaDoor
open Go.RowKit D
set_option linter.unusedVariables false
set_option linter.unusedSimpArgs false
attribute [local go_sem high] run_minI run_maxI
attribute [local go_sem] upon2 cls_cell cls_frozen forall_const exists_eq_left'
attribute [local go_sem] FirstUpon
/-- The right end of the word before. -/
def D.endP (F : Font) (R : Rul) (P : List ByteArray) (k i : Nat) : Int := if i = brk F R P k then 0 else leftN F R P k (i - 1 - brk F R P k) + wW F (strD P (i - 1))
theorem pgs_len {w w' : World} {F : Font} {R : Rul} {t : ByteArray} {e : Ending} (h : PagesPost w F R t e w') (h0 : openE F R t = 0) : ∃ sl : Sl, e = .returned (.tuple #[.slice sl.a (npg F R (partsS t) (partsS t).length) sl.cap, .int .i64 0]) ∧ npg F R (partsS t) (partsS t).length ≤ sl.cap ∧ sl.cap ≤ 9223372036854775807 ∧ Below w.heap.size w w' := by
  obtain ⟨⟨v, rfl, hv⟩, hb⟩ := h
  rw [if_pos h0] at hv
  obtain ⟨sl, pb, rfl, hr, -⟩ := hv
  exact ⟨sl, by rw [h0], hr.le, hr.max, hb⟩
set_option maxRecDepth 100000 in
set_option maxHeartbeats 8000000 in
theorem lawPlaced_any {F : Font} {s : FSl} {R : Rul} {t : ByteArray} {w : World} (hF : FontAt w F s) (ht : t.size ≤ maxLen) (hm : MaxAt w) : Calls Tryd.prog 16 #[.agg #[.int .i64 F.high, .int .i64 F.space, .slice s.g.a F.glyphs.length s.g.cap, .slice s.k.a F.kerns.length s.k.cap, .int .i64 R.measure, .int .i64 R.lines, .int .i64 R.lead, .int .i64 R.short, .int .i64 R.extra, .int .i64 R.ink, .string t]] w fun e w' => e = .returned (.bool true) ∧ Below w.heap.size w w' := by
  have HBK : Hid (∀ W, Below w.heap.size w W → Calls Tryd.prog 33 #[.agg #[.int .i64 F.high, .int .i64 F.space, .slice s.g.a F.glyphs.length s.g.cap, .slice s.k.a F.kerns.length s.k.cap], .agg #[.int .i64 R.measure, .int .i64 R.lines, .int .i64 R.lead, .int .i64 R.short, .int .i64 R.extra, .int .i64 R.ink], .string t] W (BreakPost W F R t)) := Lib.hid fun W hW => break_any (hF.below hW) (hm.below hW)
  have HPG : Hid (∀ W, Below w.heap.size w W → Calls Tryd.prog 28 #[.agg #[.int .i64 F.high, .int .i64 F.space, .slice s.g.a F.glyphs.length s.g.cap, .slice s.k.a F.kerns.length s.k.cap], .agg #[.int .i64 R.measure, .int .i64 R.lines, .int .i64 R.lead, .int .i64 R.short, .int .i64 R.extra, .int .i64 R.ink], .string t] W (PagesPost W F R t)) := Lib.hid fun W hW => pages_any (hF.below hW) (hm.below hW)
  have HPC : Hid (∀ W (i : Nat), i ≤ 1000 → Below w.heap.size w W → Calls Tryd.prog 40 #[.agg #[.int .i64 F.high, .int .i64 F.space, .slice s.g.a F.glyphs.length s.g.cap, .slice s.k.a F.kerns.length s.k.cap], .agg #[.int .i64 R.measure, .int .i64 R.lines, .int .i64 R.lead, .int .i64 R.short, .int .i64 R.extra, .int .i64 R.ink], .string t, .int .i64 (i : Int)] W (PlacePost W (placeV F R t (i : Int)))) := Lib.hid fun W i hi hW => place_any (hF.below hW) (hm.below hW) (IntWalk.i64_in _ (by omega))
  have H5 : Hid (∀ W, Below w.heap.size w W → Calls Tryd.prog 20 #[] W fun e w' => e = .returned (.bool true) ∧ Below W.heap.size W w') := Lib.hid fun W hW => awake_any (hm.below hW)
  have HF := Lib.hid hF
  obtain ⟨x, hx⟩ : ∃ x, x = openE F R t := ⟨_, rfl⟩
  have HX := Lib.hid hx
  clear hF hm hx
  go_enter Tryd.func16, Tryd.ntmps16
  go_wp2_with (fail)
  (with_reducible refine (HBK.out _ ?_).mono ?_)
  · repeat' (first | exact Below.refl _ _ | assumption | refine below_drewN ?_ _ | refine Below.drew ?_ | refine Below.alloc ?_ (by first | assumption | omega | (simp <;> omega)) _ | refine Below.setCell ?_ (by first | assumption | omega | (simp <;> omega)) _ | refine Ext2.on (by assumption) ?_)
  rintro e w1 ⟨⟨v1, rfl, hv1⟩, hb1⟩
  rw [← HX.out] at hv1 ⊢
  have hB1 : Below w.heap.size w w1 := Below.trans (by repeat' (first | exact Below.refl _ _ | assumption | refine below_drewN ?_ _ | refine Below.drew ?_ | refine Below.alloc ?_ (by first | assumption | omega | (simp <;> omega)) _ | refine Below.setCell ?_ (by first | assumption | omega | (simp <;> omega)) _ | refine Ext2.on (by assumption) ?_)) (hb1.mono (by simp))
  have b0 : w1.heap[w.heap.size]? = some (Obj.cells #[.int .i64 F.high, .int .i64 F.space, .slice s.g.a F.glyphs.length s.g.cap, .slice s.k.a F.kerns.length s.k.cap, .int .i64 R.measure, .int .i64 R.lines, .int .i64 R.lead, .int .i64 R.short, .int .i64 R.extra, .int .i64 R.ink, .string t] 36) := below_blk hb1 (by repeat' (first | (with_reducible assumption) | (with_reducible refine blk_set_ne ?_ ?_) | (with_reducible exact blk_new _ _) | (with_reducible refine blk_new' _ _ (by first | (with_reducible rfl) | (simp; done) | (simp <;> omega))) | (with_reducible refine blk_alloc ?_ _) | (with_reducible refine blk_drew ?_) | (with_reducible refine blk_drewN ?_ _) | (with_reducible refine Ext2.blk (by assumption) ?_) | omega | (simp <;> omega) | exact blk_set (by assumption) _ _)) (by simp)
  have HB1 := Lib.hid hB1
  clear hb1 hB1
  by_cases h0 : x = 0
  case neg =>
    rw [if_neg h0] at hv1
    subst hv1
    have e1 : (x != 0) = true := by simp [h0]
    clear h0 b0
    go_wp2_with (fail)
    (with_reducible refine (H5.out _ HB1.out).mono ?_)
    rintro e w3 ⟨rfl, hb3⟩
    have hB3 := below_ext HB1.out hb3
    clear hb3
    go_wp2_with (fail)
    go_ret
    exact ⟨rfl, hB3⟩
  case pos =>
    rw [if_pos h0] at hv1
    subst h0
    have hx0 := HX.out.symm
    obtain ⟨hk, hr, htx⟩ := open_ok hx0
    have hsm := text_small hx0
    have hset : ∀ i, i < (partsS t).length → setE F (strD (partsS t) i) = 0 := fun i hi => setE_ok hx0 hi
    have hpl : ∀ i : Nat, i < (partsS t).length → placeV F R t (i : Int) = (plS F R (partsS t) i, 0) := fun i hi => by
      unfold placeV
      rw [if_neg (not_not_intro hx0), if_neg (by unfold inB; simp; omega), Int.toNat_natCast]
    have hpg : ∀ {W W' : World} {e : Ending}, PagesPost W F R t e W' → ∃ sl : Sl, e = .returned (.tuple #[.slice sl.a (npg F R (partsS t) (partsS t).length) sl.cap, .int .i64 0]) ∧ npg F R (partsS t) (partsS t).length ≤ sl.cap ∧ sl.cap ≤ 9223372036854775807 ∧ Below W.heap.size W W' := fun h => pgs_len h hx0
    obtain ⟨P, hP⟩ : ∃ P, P = partsS t := ⟨_, rfl⟩
    have HWO : Hid (∀ W, Calls Tryd.prog 26 #[.string t] W fun e w' => (∃ s' : Sl, e = .returned (.slice s'.a P.length s'.cap) ∧ StrsS w' s' P) ∧ Below W.heap.size W w') := Lib.hid fun W => by rw [hP]; exact wordsL_any hsm
    rw [← hP] at hv1 htx hset hpl hpg
    obtain ⟨sl, rfl, hl⟩ := hv1
    have hlc := hl.le; have hlm := hl.max
    have hln := lines_ok htx
    have hn40 := htx.n40; have hn1 := htx.n1
    have hcl := npg_ceil hr htx
    have hrl := hr.lines
    rw [breaks_len] at hlc
    obtain ⟨lb0, loff0, hla, -⟩ := hl.row (by rw [breaks_len]; omega) (by omega)
    obtain ⟨sa, sc⟩ := sl
    dsimp only at hla hlc hlm
    subst hla
    have hcA := fun W (hW : Ext2 w1 W) (i : Nat) (hi : i < nLines F R P) => line_cells4 (l := breaksL F R P) (s := ⟨some ⟨lb0, loff0, none⟩, sc⟩) (w := W) (i := i) (by exact hl.below hW) (by rw [breaks_len]; exact hi)
    rw [breaks_len]
    obtain ⟨N, hN⟩ : ∃ N, N = nLines F R P := ⟨_, rfl⟩
    rw [← hN] at hlc hln hcl ⊢
    obtain ⟨pn, hpn⟩ : ∃ pn, pn = npg F R P P.length := ⟨_, rfl⟩
    rw [← hpn] at hcl
    have hpn40 : pn ≤ 1000 := by have := npg_le htx P.length (Nat.le_refl _); omega
    have HCA := Lib.hid hcA; have HN := Lib.hid hN; have HTX := Lib.hid htx; have HK := Lib.hid hk; have HR := Lib.hid hr; have HLN := Lib.hid hln; have HSE := Lib.hid hset; have HPL := Lib.hid hpl; have HPN := Lib.hid hpn
    have HGP : Hid (∀ {W W' : World} {e : Ending}, PagesPost W F R t e W' → ∃ sl : Sl, e = .returned (.tuple #[.slice sl.a pn sl.cap, .int .i64 0]) ∧ pn ≤ sl.cap ∧ sl.cap ≤ 9223372036854775807 ∧ Below W.heap.size W W') := Lib.hid (by rw [hpn]; exact hpg)
    have wNL : IntKind.i64.wrap ((N : Int) + R.lines) = (N : Int) + R.lines := IntWalk.i64_in _ (by omega)
    obtain ⟨A, hA⟩ : ∃ A, A = (N : Int) + R.lines - 1 := ⟨_, rfl⟩
    have wA : IntKind.i64.wrap ((N : Int) + R.lines - 1) = A := by rw [hA]; exact IntWalk.i64_in _ (by omega)
    have hmax : max (1 : Int) R.lines = R.lines := by omega
    have hq : A.tdiv R.lines = (pn : Int) := by rw [hcl, hA]; exact Int.tdiv_eq_ediv_of_nonneg (by omega)
    have wpn : IntKind.i64.wrap (pn : Int) = (pn : Int) := IntWalk.i64_in _ (by omega)
    have hl0 : ¬ R.lines = 0 := by omega
    clear hk hr htx hln hl hset hpl hpg hN hcA hP hsm hcl hA hpn hx0
    have q0c := cell_blk b0
    have q0f := frz_blk b0
    go_wp2_with (fail)
    (with_reducible refine (HPG.out _ HB1.out).mono ?_)
    intro e w2 hp2
    obtain ⟨sp, rfl, hspc, hspm, hb2⟩ := HGP.out hp2
    have HB2 := Lib.hid (below_ext HB1.out hb2)
    have HE2 := Lib.hid (show Ext2 w1 w2 from hb2)
    have b0 := Ext2.blk hb2 b0
    clear hp2 hb2 q0c q0f
    have q0c := cell_blk b0
    have q0f := frz_blk b0
    go_wp2_with (fail)
    refine (HWO.out _).mono ?_
    rintro e w3 ⟨⟨s2, rfl, hs2⟩, hb3⟩
    have HB3 := Lib.hid (below_ext HB2.out hb3)
    have HE3 := Lib.hid (ext_trans HE2.out hb3)
    have b0 := Ext2.blk hb3 b0
    have h2c := hs2.le; have h2m := hs2.max
    have HWI := Lib.hid (widthsL_any (HF.out.below HB3.out) HSE.out hs2 (by omega))
    clear hb3 q0c q0f hs2
    have q0c := cell_blk b0
    have q0f := frz_blk b0
    go_wp2_with (fail)
    refine HWI.out.mono ?_
    rintro e w4 ⟨⟨s3, rfl, hs3⟩, hb4⟩
    have HB4 := Lib.hid (below_ext HB3.out hb4)
    have HE4 := Lib.hid (ext_trans HE3.out hb4)
    have b0 := Ext2.blk hb4 b0
    have h3c := hs3.le; have h3m := hs3.max
    rw [widL_len] at h3c
    obtain ⟨wb, woff, hwa, -⟩ := int_cell hs3 (i := 0) (by rw [widL_len]; omega)
    obtain ⟨wa, wc⟩ := s3
    dsimp only at hwa h3c h3m
    subst hwa
    have HW4 := Lib.hid hs3; have HB04 := Lib.hid b0
    clear hb4 q0c q0f hs3
    have q0c := cell_blk b0
    have q0f := frz_blk b0
    go_wp2_with (fail)
    have HB04' := Lib.hid b0
    clear q0c q0f b0
    go_loopw [9, 10] (fun a n wr => ∃ k : Nat, n = .int .i64 (k : Int) ∧ k ≤ N ∧ a = .int .i64 (brk F R P k : Int) ∧ Ext2 w4 wr) (fun _ n _ => N - (intOf n).toNat)
    case atStart => exact ⟨0, rfl, Nat.zero_le _, rfl, Below.refl _ _⟩
    case round =>
      obtain ⟨k, rfl, hk, rfl, hEr⟩ := hrel
      have HEr := Lib.hid hEr
      have HBr := Lib.hid (below_ext HB4.out hEr)
      by_cases hlt : k < N
      · go_light
        have hbk := brk_lt HTX.out (k := k) (by rw [← HN.out]; exact hlt)
        have hba := breaks_at F R P (i := k) (by rw [← HN.out]; exact hlt)
        obtain ⟨_, _, h3, a0, a1, a2, -⟩ := HCA.out wr (ext_trans HE4.out hEr) k (by rw [← HN.out]; exact hlt)
        obtain ⟨rfl, rfl⟩ : lb0 = _ ∧ loff0 = _ := by simpa using h3
        rw [hba] at a0 a1 a2
        obtain ⟨B, hB⟩ : ∃ B, B = brk F R P k := ⟨_, rfl⟩
        obtain ⟨U, hU⟩ : ∃ U, U = brk F R P (k + 1) := ⟨_, rfl⟩
        rw [show (linS F R P k).from_ = (B : Int) by rw [hB]; rfl] at a0
        rw [show (linS F R P k).until_ = (U : Int) by rw [hU]; rfl] at a1
        have HBB := Lib.hid hB; have HUU := Lib.hid hU
        rw [← hB, ← hU] at hbk
        rw [← hB]
        have r0 : (0 : Int) ≤ (k : Int) := by omega
        have r1 : (k : Int) < (N : Int) := by omega
        have w3' : IntKind.i64.wrap ((k : Int) + 1) = (k : Int) + 1 := IntWalk.i64_in _ (by omega)
        have u0 : ¬ (U : Int) ≤ (B : Int) := by omega
        have u1 : ¬ (U : Int) > (P.length : Int) := by omega
        have u2 : ¬ (P.length : Int) < (U : Int) := by omega
        clear h3 hba hB hU hEr
        go_wp2_with (fail)
        go_loopw [11, 12] (fun en iv wx => ∃ i : Nat, iv = .int .i64 (i : Int) ∧ B ≤ i ∧ i ≤ U ∧ en = .int .i64 (endP F R P k i) ∧ Ext2 w4 wx) (fun _ iv _ => U - (intOf iv).toNat)
        case atStart => exact ⟨B, rfl, Nat.le_refl _, by omega, by unfold endP; rw [if_pos HBB.out], HEr.out⟩
        case round =>
          obtain ⟨i, rfl, hBi, hiU, rfl, hEx⟩ := hrel
          have HEx := Lib.hid hEx
          have HBx := Lib.hid (below_ext HB4.out hEx)
          clear a0 a1 a2
          obtain ⟨_, _, h3, a0, a1, a2, -⟩ := HCA.out wr (ext_trans HE4.out hEx) k (by rw [← HN.out]; exact hlt)
          obtain ⟨rfl, rfl⟩ : lb0 = _ ∧ loff0 = _ := by simpa using h3
          rw [breaks_at F R P (by rw [← HN.out]; exact hlt)] at a0 a1 a2
          rw [show (linS F R P k).from_ = (B : Int) by rw [HBB.out]; rfl] at a0
          rw [show (linS F R P k).until_ = (U : Int) by rw [HUU.out]; rfl] at a1
          have b0 := Ext2.blk hEx HB04'.out
          clear h3
          by_cases hli : i < U
          · go_light
            have hiP : i < P.length := by omega
            have hps : plS F R P i = plN F R P k (i - B) := by
              have h1 := plS_at HTX.out (k := k) (d := i - B) (by rw [← HN.out]; exact hlt) (by rw [← HBB.out, ← HUU.out]; omega)
              rwa [← HBB.out, show B + (i - B) = i by omega] at h1
            have hpc := HPC.out wr i (by omega) HBx.out
            rw [HPL.out i hiP, hps] at hpc
            have hpli := pl_line (F := F) (P := P) HR.out k (i - B)
            have hlr := left_rng HK.out HR.out HTX.out (k := k) (by rw [← HN.out]; exact hlt) (d := i - B) (by rw [← HBB.out]; omega)
            have hl00 : leftN F R P k 0 = (R.measure - (linS F R P k).wide) / 2 := rfl
            have hend : endP F R P k i = if i = B then 0 else leftN F R P k (i - 1 - B) + wW F (strD P (i - 1)) := by unfold endP; rw [← HBB.out]
            have hen1 : endP F R P k (i + 1) = leftN F R P k (i - B) + wW F (strD P i) := by unfold endP; rw [← HBB.out, if_neg (by omega), show i + 1 - 1 = i by omega]
            have hstep : B < i → leftN F R P k (i - B) = leftN F R P k (i - 1 - B) + (wW F (strD P (i - 1)) + F.space) := fun h => by
              have h1 : leftN F R P k (i - 1 - B + 1) = leftN F R P k (i - 1 - B) + (wW F (strD P (brk F R P k + (i - 1 - B))) + F.space) := rfl
              rw [← HBB.out, show i - 1 - B + 1 = i - B by omega, show B + (i - 1 - B) = i - 1 by omega] at h1
              exact h1
            have hwf := brk_fits HTX.out (k := k) (by rw [← HN.out]; exact hlt)
            have hwrg := wideL_rng HK.out HR.out HTX.out (a := brk F R P k) (z := brk F R P (k + 1)) (by rw [← HBB.out, ← HUU.out]; omega) (by rw [← HUU.out]; omega)
            have hms := HR.out.measure
            have hsp := HK.out.space
            have hwi := HTX.out.wide i hiP
            have hwi1 := HTX.out.wide (i - 1) (by omega)
            have hlr1 := left_rng HK.out HR.out HTX.out (k := k) (by rw [← HN.out]; exact hlt) (d := i - 1 - B) (by rw [← HBB.out]; omega)
            obtain ⟨⟨pg, ln, lf⟩, hp⟩ : ∃ p, p = plN F R P k (i - B) := ⟨_, rfl⟩
            have hlf : leftN F R P k (i - B) = lf := by have := congrArg Pl.left hp; exact this.symm
            rw [← hp] at hpc hpli
            dsimp only at hpli
            rw [hlf] at hlr hstep hen1
            have hwd : (linS F R P k).wide = wideL F P (brk F R P k) (brk F R P (k + 1)) := rfl
            rw [← hwd] at hwf hwrg
            obtain ⟨Wd, hWd⟩ : ∃ Wd, Wd = (linS F R P k).wide := ⟨_, rfl⟩
            rw [← hWd] at a2 hl00 hwf hwrg
            obtain ⟨E, hE⟩ : ∃ E, E = endP F R P k i := ⟨_, rfl⟩
            rw [← hE] at hend ⊢
            have hN40 : N ≤ 40 := by have := HLN.out.1; omega
            have hpgr : -12 ≤ pg * R.lines ∧ pg * R.lines ≤ 40 := by omega
            obtain ⟨pgl, hpgl⟩ : ∃ y, y = pg * R.lines := ⟨_, rfl⟩
            have wm : IntKind.i64.wrap (pg * R.lines) = pgl := by rw [hpgl]; exact IntWalk.i64_in _ (by omega)
            rw [← hpgl] at hpli
            have wpl : IntKind.i64.wrap (pgl + ln) = (k : Int) := by rw [IntWalk.i64_in _ (by omega)]; exact hpli.1
            have l0 : ¬ ln < 0 := by omega
            have l1 : ¬ ln ≥ R.lines := by omega
            have l2 : ¬ R.lines ≤ ln := by omega
            have l3 : ¬ lf < 0 := by omega
            have l3' : decide (lf < 0) = false := decide_eq_false l3
            have i0 : (0 : Int) ≤ (i : Int) := by omega
            have i1 : (i : Int) < (P.length : Int) := by omega
            have i2 : (i : Int) < (U : Int) := by omega
            have wi' : IntKind.i64.wrap ((i : Int) + 1) = (i : Int) + 1 := IntWalk.i64_in _ (by omega)
            have HPC2 : Hid (Calls Tryd.prog 40 #[.agg #[.int .i64 F.high, .int .i64 F.space, .slice s.g.a F.glyphs.length s.g.cap, .slice s.k.a F.kerns.length s.k.cap], .agg #[.int .i64 R.measure, .int .i64 R.lines, .int .i64 R.lead, .int .i64 R.short, .int .i64 R.extra, .int .i64 R.ink], .string t, .int .i64 (i : Int)] wr fun e w' => e = .returned (.tuple #[.agg #[.int .i64 pg, .int .i64 ln, .int .i64 lf], .int .i64 0]) ∧ Below wr.heap.size wr w') := Lib.hid hpc
            have HEN := Lib.hid hend; have HEN1 := Lib.hid hen1; have HST := Lib.hid hstep; have HL00 := Lib.hid hl00; have HLF := Lib.hid hlf
            obtain ⟨_, _, h5, c5⟩ := int_cell (RowS.below HW4.out hEx) (i := i) (by rw [widL_len]; exact hiP)
            obtain ⟨rfl, rfl⟩ : wb = _ ∧ woff = _ := by simpa using h5
            rw [widL_at F P hiP] at c5
            obtain ⟨wi, hwiv⟩ : ∃ y, y = wW F (strD P i) := ⟨_, rfl⟩
            rw [← hwiv] at c5 hwi
            have HWI2 := Lib.hid hwiv
            have hEr2 : B < i → IntKind.i64.wrap (E + F.space) = lf := fun h => by
              have h1 := hstep h
              rw [if_neg (by omega)] at hend
              rw [IntWalk.i64_in _ (by omega)]; omega
            have wlw : IntKind.i64.wrap (lf + wi) = lf + wi := IntWalk.i64_in _ (by omega)
            have hD0 : IntKind.i64.wrap (R.measure - Wd) = R.measure - Wd := IntWalk.i64_in _ (by omega)
            have hD1 : i = B → (R.measure - Wd).tdiv 2 = lf := fun h => by
              rw [Int.tdiv_eq_ediv_of_nonneg (by omega), ← hl00, ← hlf, h, Nat.sub_self]
            have wlf : IntKind.i64.wrap lf = lf := IntWalk.i64_in _ (by omega)
            have HD1 := Lib.hid hD1; have HEr2 := Lib.hid hEr2
            clear hpc hps hpli hp hlf hWd hE hend hen1 hstep hl00 hwd hwf hwrg hpgl hpgr h5 hwiv hEr2 hD1 hwi1 hlr1 hEx hms hsp
            have q0c := cell_blk b0
            have q0f := frz_blk b0
            go_wp2_with (fail)
            refine HPC2.out.mono ?_
            rintro e w5 ⟨rfl, hb5⟩
            have b0 := Ext2.blk hb5 b0
            have a0 := (Below.cell hb5 (cell_lt a0)).trans a0
            have a1 := (Below.cell hb5 (cell_lt a1)).trans a1
            have a2 := (Below.cell hb5 (cell_lt a2)).trans a2
            have c5 := (Below.cell hb5 (cell_lt c5)).trans c5
            have lb0' := blk_lt b0
            have lbn : ¬ w.heap.size = w5.heap.size := by omega
            have HE5 := Lib.hid (ext_trans HEx.out hb5)
            clear q0c q0f hb5
            have q0c := cell_blk b0
            have q0f := frz_blk b0
            go_wp2_with (fail)
            refine wp_name ?_
            intro w6 h6
            obtain ⟨pb, hpb⟩ : ∃ b, b = w5.heap.size := ⟨_, rfl⟩
            have hE56 : Ext2 w5 w6 := by rw [h6]; exact below_alloc' _ _
            have p0 : w6.heap[pb]? = some (Obj.cells #[.int .i64 pg, .int .i64 ln, .int .i64 lf] 76) := by rw [h6, hpb]; exact blk_new _ _
            have b0 := Ext2.blk hE56 b0
            have a0 := (Below.cell hE56 (cell_lt a0)).trans a0
            have a2 := (Below.cell hE56 (cell_lt a2)).trans a2
            have c5 := (Below.cell hE56 (cell_lt c5)).trans c5
            have HE6 := Lib.hid (ext_trans HE5.out hE56)
            rw [← hpb]
            clear h6 hpb hE56 q0c q0f lb0' lbn wm wpl
            have q0c := cell_blk b0
            have q0f := frz_blk b0
            have qpc := cell_blk p0
            have qpf := frz_blk p0
            by_cases hiB : i = B
            · have hib : ((i : Int) == (B : Int)) = true := by rw [hiB]; simp
              have hgt : decide ((i : Int) > (B : Int)) = false := decide_eq_false (by omega)
              have hgt2 : decide ((B : Int) < (i : Int)) = false := decide_eq_false (by omega)
              have hD2 := HD1.out hiB
              have hgtN : ¬ B < i := by omega
              clear hiB
              refine region_st [⟨[], [0, 1, 2, 3, 4, 5, 6, 7, 8, 9, 10, 11, 12, 13, 14, 15, 16, 17, 18, 19, 20, 21, 22, 23, 24, 25, 26, 27, 28, 29, 30, 31, 32, 33, 34, 35, 36, 37, 38, 39, 40, 41, 42, 43, 44, 45], []⟩] (by kernel_rfl) (by kernel_rfl) (by intro c a d v w h; cases d <;> exact h) ?_
              refine wpSt_cons ?_
              simp only [picks, List.drop_succ_cons, List.drop_zero]
              repeat ((with_reducible refine wpQ0_step (fun K hK => ?_)); go_simp; ((with_reducible refine hK _ ?_); clear hK K))
              refine wpQ0_nil ?_
              repeat ((with_reducible refine wpQ2_step (fun K hK => ?_)); go_simp; first | ((with_reducible refine hK _ ?_); clear hK K) | (refine ite_undef (fun h => (by have h_ : (none : Option Bool) = some _ := h; cases h_)) ?_; (with_reducible refine hK _ ?_); clear hK K) | (apply Exists.intro; refine ⟨fun x => ?_, hK _ ?_⟩; (fail); clear hK K))
              (with_reducible refine wpQ2_nil ?_)
              intro w8 hw8
              refine wpTl_nil ?_
              refine wpSt_nil ?_
              have HE8 := Lib.hid (ext_trans HE6.out hw8)
              have p0 := Ext2.blk hw8 p0
              have c5 := (Below.cell hw8 (cell_lt c5)).trans c5
              clear q0c q0f qpc qpf hw8 b0 a0 a1 a2
              have qpc := cell_blk p0
              have qpf := frz_blk p0
              go_wp2_with (fail)
              refine region_ev [] [0, 1, 2, 3, 4, 5, 6, 7] [] [] (by kernel_rfl) (by kernel_rfl) (by intro c a d v w h; cases d <;> exact h) ?_
              simp only [picks, List.drop_succ_cons, List.drop_zero]
              repeat (refine wpQ0_step (fun K hK => ?_); go_simp; (refine hK _ ?_; clear hK K))
              refine wpQ0_nil ?_
              repeat ((with_reducible refine wpQ2_step (fun K hK => ?_)); go_simp; first | ((with_reducible refine hK _ ?_); clear hK K) | (apply Exists.intro; refine ⟨fun x => ?_, hK _ ?_⟩; (fail); clear hK K))
              refine wpQ2_nil ?_
              refine Events.none_ fun w9 hg9 => ?_
              simp only [picks, List.drop_succ_cons, List.drop_zero]
              have hE9 := ext_trans HE8.out hg9
              clear qpc qpf p0 c5 hg9
              go_wp2_with (fail)
              go_roundw
              case rel => exact ⟨i + 1, by go_num, by omega, by omega, by rw [HEN1.out, HWI2.out], hE9⟩
              case measure => simp [intOf]; omega
            · have hib : ((i : Int) == (B : Int)) = false := beq_eq_false_iff_ne.2 (by omega)
              have hgt : decide ((i : Int) > (B : Int)) = true := decide_eq_true (by omega)
              have hgt2 : decide ((B : Int) < (i : Int)) = true := decide_eq_true (by omega)
              have hE2 := HEr2.out (by omega)
              have hgtN : B < i := by omega
              clear hiB
              refine region_st [⟨[], [0, 1, 2, 3, 4, 5, 6, 7, 8, 9, 10, 11, 12, 13, 14, 15, 16, 17, 18, 19, 20, 21, 22, 23, 24, 25, 26, 27, 28, 29, 30, 31, 32, 33, 34, 35, 36, 37, 38, 39, 40, 41, 42, 43, 44, 45], []⟩] (by kernel_rfl) (by kernel_rfl) (by intro c a d v w h; cases d <;> exact h) ?_
              refine wpSt_cons ?_
              simp only [picks, List.drop_succ_cons, List.drop_zero]
              repeat ((with_reducible refine wpQ0_step (fun K hK => ?_)); go_simp; ((with_reducible refine hK _ ?_); clear hK K))
              refine wpQ0_nil ?_
              repeat ((with_reducible refine wpQ2_step (fun K hK => ?_)); go_simp; first | ((with_reducible refine hK _ ?_); clear hK K) | (refine ite_undef (fun h => (by have h_ : (none : Option Bool) = some _ := h; cases h_)) ?_; (with_reducible refine hK _ ?_); clear hK K) | (apply Exists.intro; refine ⟨fun x => ?_, hK _ ?_⟩; (fail); clear hK K))
              (with_reducible refine wpQ2_nil ?_)
              intro w8 hw8
              refine wpTl_nil ?_
              refine wpSt_nil ?_
              have HE8 := Lib.hid (ext_trans HE6.out hw8)
              have p0 := Ext2.blk hw8 p0
              have c5 := (Below.cell hw8 (cell_lt c5)).trans c5
              clear q0c q0f qpc qpf hw8 b0 a0 a1 a2
              have qpc := cell_blk p0
              have qpf := frz_blk p0
              go_wp2_with (fail)
              refine region_ev [] [0, 1, 2, 3, 4, 5, 6, 7] [] [] (by kernel_rfl) (by kernel_rfl) (by intro c a d v w h; cases d <;> exact h) ?_
              simp only [picks, List.drop_succ_cons, List.drop_zero]
              repeat (refine wpQ0_step (fun K hK => ?_); go_simp; (refine hK _ ?_; clear hK K))
              refine wpQ0_nil ?_
              repeat ((with_reducible refine wpQ2_step (fun K hK => ?_)); go_simp; first | ((with_reducible refine hK _ ?_); clear hK K) | (apply Exists.intro; refine ⟨fun x => ?_, hK _ ?_⟩; (fail); clear hK K))
              refine wpQ2_nil ?_
              refine Events.none_ fun w9 hg9 => ?_
              simp only [picks, List.drop_succ_cons, List.drop_zero]
              have hE9 := ext_trans HE8.out hg9
              clear qpc qpf p0 c5 hg9
              go_wp2_with (fail)
              go_roundw
              case rel => exact ⟨i + 1, by go_num, by omega, by omega, by rw [HEN1.out, HWI2.out], hE9⟩
              case measure => simp [intOf]; omega
          · obtain rfl : i = U := by omega
            have r8 : ¬ (i : Int) < (i : Int) := by omega
            have hfit : ¬ endP F R P k i > R.measure := by
              have h1 : endP F R P k i = leftN F R P k (i - 1 - B) + wW F (strD P (i - 1)) := by unfold endP; rw [← HBB.out, if_neg (by omega)]
              have h2 := left_fit HK.out HR.out HTX.out (k := k) (d := i - 1 - B) (by rw [← HN.out]; exact hlt) (by rw [← HBB.out, ← HUU.out]; omega)
              rw [← HBB.out, show B + (i - 1 - B) = i - 1 by omega] at h2
              omega
            have hfit2 : ¬ R.measure < endP F R P k i := hfit
            have HEx2 := Lib.hid hEx
            clear hli hEx
            have q0c := cell_blk b0
            have q0f := frz_blk b0
            go_wp2_with (fail)
            go_roundw
            case rel => exact ⟨k + 1, by go_num, hlt, by rw [HUU.out], HEx2.out⟩
            case measure => simp [intOf]; omega
      · obtain rfl : k = N := by omega
        have r1 : ¬ (k : Int) < (k : Int) := by omega
        rw [HLN.out.2.1]
        clear hlt hEr
        go_wp2_with (fail)
        (with_reducible refine (H5.out _ HBr.out).mono ?_)
        rintro e w10 ⟨rfl, hb10⟩
        have hB10 := below_ext HBr.out hb10
        clear hb10
        go_wp2_with (fail)
        go_ret
        exact ⟨rfl, hB10⟩
end Go.Proofs.YtahgbecfaihfpaaDoor
