/-
  The law TitleInk, walked.
-/
import Derived.Test.YtahgbecfaihfpaaDoorTInk
import Derived.Test.YtahgbecfaihfpaaDoorTLawAl
namespace Go.Proofs.YtahgbecfaihfpaaDoor
open Go.RowKit D
set_option linter.unusedVariables false
set_option linter.unusedSimpArgs false
attribute [local go_sem high] run_minI run_maxI
attribute [local go_sem] upon2 cls_cell cls_frozen forall_const exists_eq_left'
attribute [local go_sem] FirstUpon
def plainB (F : Font) : Nat → Bool
  | 0 => true
  | k + 1 => plainB F k && decide (0 ≤ (knD F.kerns k).by_)
theorem plain_all {F : Font} : ∀ n, plainB F n = true → ∀ i, i < n → 0 ≤ (knD F.kerns i).by_
  | 0, _, i, hi => absurd hi (Nat.not_lt_zero i)
  | n + 1, h, i, hi => by
    rw [plainB, Bool.and_eq_true] at h
    rcases Nat.lt_or_ge i n with h1 | h1
    · exact plain_all n h.1 i h1
    · obtain rfl : i = n := by omega
      exact of_decide_eq_true h.2
theorem cntN_le (L : List Nat) : ∀ n, cntN L n ≤ n
  | 0 => Nat.le_refl _
  | n + 1 => by have := cntN_le L n; rw [cntN]; split <;> omega
section
variable {F : Font} {R : Rul} {P : List ByteArray}
theorem darkP_le (hk : FontOk F) (hr : RulOk F R) : ∀ p, darkP F R P p ≤ 2304 * p
  | 0 => Nat.le_refl _
  | p + 1 => by
    have h1 := darkP_le hk hr p
    have h2 := cntN_le (ptsK F R P p P.length) (pixN F R)
    have h3 := (pix_ok hk hr).2.1
    rw [darkP]; omega
theorem inkG_le (hk : FontOk F) {g : Nat} (hg : g < F.glyphs.length) : inkG (glD F.glyphs g) ≤ 192 ∧ (glD F.glyphs g).rows.length ≤ 16 ∧ 0 < (glD F.glyphs g).rows.length := by
  have h1 := inkR_le (glD F.glyphs g) (glD F.glyphs g).rows.length
  have h2 := (glE_wide (hk.gl g hg)).1.2.2.1
  have h3 := hk.high
  unfold inkG
  omega
theorem inkL_le (hk : FontOk F) {l : List Nat} (hm : ∀ x ∈ l, x < F.glyphs.length) : ∀ n, n ≤ l.length → inkL F l n ≤ 192 * n
  | 0, _ => Nat.le_refl _
  | n + 1, h => by
    have h1 := inkL_le hk hm n (by omega)
    have h2 := (inkG_le hk (getD_mem hm (show n < l.length by omega))).1
    rw [inkL]; unfold glN; omega
theorem inkP_le (hk : FontOk F) (h : TextOk F R P) : ∀ k, k ≤ P.length → inkP F P k ≤ 4608 * k
  | 0, _ => Nat.le_refl _
  | k + 1, hk' => by
    have h1 := inkP_le hk h k (by omega)
    have h2 := gL_len (F := F) (h.size k (by omega))
    have h3 := inkL_le hk (gL_mem (F := F) (p := strD P k)) _ (Nat.le_refl _)
    rw [inkP]; omega
theorem gL_pos (h : TextOk F R P) {k : Nat} (hk : k < P.length) : 0 < (gL F (strD P k)).length := by
  have h1 := h.odd k hk
  have h2 := h.set k hk
  unfold oddS at h1
  rw [Bool.or_eq_false_iff] at h1
  have h3 := of_decide_eq_false h1.2
  have h4 : (strD P k).data.toList.length = (strD P k).size := Array.length_toList
  unfold gL
  cases hs : setS F (strD P k).data.toList with
  | none => rw [hs] at h2; cases h2
  | some l => exact List.length_pos_iff.2 (setS_ne (fun h5 => by rw [h5] at h4; simp at h4; omega) hs)
end
set_option maxRecDepth 100000 in
set_option maxHeartbeats 8000000 in
theorem lawInk_any {F : Font} {s : FSl} {R : Rul} {t : ByteArray} {w : World} (hF : FontAt w F s) (ht : t.size ≤ maxLen) (hm : MaxAt w) : Calls Tryd.prog 7 #[.agg #[.int .i64 F.high, .int .i64 F.space, .slice s.g.a F.glyphs.length s.g.cap, .slice s.k.a F.kerns.length s.k.cap, .int .i64 R.measure, .int .i64 R.lines, .int .i64 R.lead, .int .i64 R.short, .int .i64 R.extra, .int .i64 R.ink, .string t]] w fun e w' => e = .returned (.bool true) ∧ Below w.heap.size w w' := by
  have HPG : Hid (∀ W u, Below w.heap.size w W → Calls Tryd.prog 28 #[.agg #[.int .i64 F.high, .int .i64 F.space, .slice s.g.a F.glyphs.length s.g.cap, .slice s.k.a F.kerns.length s.k.cap], .agg #[.int .i64 R.measure, .int .i64 R.lines, .int .i64 R.lead, .int .i64 R.short, .int .i64 R.extra, .int .i64 R.ink], .string u] W (PagesPost W F R u)) := Lib.hid fun W u hW => pages_any (hF.below hW) (hm.below hW)
  have HST : Hid (∀ W u, Below w.heap.size w W → Calls Tryd.prog 17 #[.agg #[.int .i64 F.high, .int .i64 F.space, .slice s.g.a F.glyphs.length s.g.cap, .slice s.k.a F.kerns.length s.k.cap], .string u] W (SetPost W F u)) := Lib.hid fun W u hW => setApi_any (hF.below hW)
  have H5 : Hid (∀ W, Below w.heap.size w W → Calls Tryd.prog 20 #[] W fun e w' => e = .returned (.bool true) ∧ Below W.heap.size W w') := Lib.hid fun W hW => awake_any (hm.below hW)
  have HF := Lib.hid hF
  obtain ⟨x, hx⟩ : ∃ x, x = openE F R t := ⟨_, rfl⟩
  have HX := Lib.hid hx
  have hkc := hF.kn.le; have hkm := hF.kn.max
  have hgc := hF.gls.gl.le; have hgm := hF.gls.gl.max
  clear hF hm hx
  go_enter Tryd.func7, Tryd.ntmps7
  go_wp2_with (fail)
  (with_reducible refine (HPG.out _ _ ?_).mono ?_)
  · repeat' (first | exact Below.refl _ _ | assumption | refine below_drewN ?_ _ | refine Below.drew ?_ | refine Below.alloc ?_ (by first | assumption | omega | (simp <;> omega)) _ | refine Below.setCell ?_ (by first | assumption | omega | (simp <;> omega)) _ | refine Ext2.on (by assumption) ?_)
  intro e w1 hp1
  by_cases h0 : x = 0
  case neg =>
    obtain ⟨⟨v1, rfl, hv1⟩, hb1⟩ := hp1
    rw [← HX.out] at hv1 ⊢
    rw [if_neg h0] at hv1
    subst hv1
    have hB1 : Below w.heap.size w w1 := Below.trans (by repeat' (first | exact Below.refl _ _ | assumption | refine below_drewN ?_ _ | refine Below.drew ?_ | refine Below.alloc ?_ (by first | assumption | omega | (simp <;> omega)) _ | refine Below.setCell ?_ (by first | assumption | omega | (simp <;> omega)) _ | refine Ext2.on (by assumption) ?_)) (hb1.mono (by simp))
    have e1 : (x != 0) = true := by simp [h0]
    have HB1 := Lib.hid hB1
    clear h0 hb1 hB1
    go_wp2_with (fail)
    (with_reducible refine (H5.out _ HB1.out).mono ?_)
    rintro e w3 ⟨rfl, hb3⟩
    have hB3 := below_ext HB1.out hb3
    clear hb3
    go_wp2_with (fail)
    go_ret
    exact ⟨rfl, hB3⟩
  case pos =>
    subst h0
    have hx0 := HX.out.symm
    obtain ⟨hk, hr, htx⟩ := open_ok hx0
    have hsm := text_small hx0
    obtain ⟨sl, pb, rfl, hrow, hpix, hb1⟩ := pages_val hp1 hx0
    have hset : ∀ i, i < (partsS t).length → setE F (strD (partsS t) i) = 0 := fun i hi => setE_ok hx0 hi
    obtain ⟨P, hP⟩ : ∃ P, P = partsS t := ⟨_, rfl⟩
    have HWO : Hid (∀ W, Calls Tryd.prog 26 #[.string t] W fun e w' => (∃ s' : Sl, e = .returned (.slice s'.a P.length s'.cap) ∧ StrsS w' s' P) ∧ Below W.heap.size W w') := Lib.hid fun W => by rw [hP]; exact wordsL_any hsm
    rw [← hP] at htx hset hrow hpix ⊢
    have hB1 : Below w.heap.size w w1 := Below.trans (by repeat' (first | exact Below.refl _ _ | assumption | refine below_drewN ?_ _ | refine Below.drew ?_ | refine Below.alloc ?_ (by first | assumption | omega | (simp <;> omega)) _ | refine Below.setCell ?_ (by first | assumption | omega | (simp <;> omega)) _ | refine Ext2.on (by assumption) ?_)) (hb1.mono (by simp))
    have b0 : w1.heap[w.heap.size]? = some (Obj.cells #[.int .i64 F.high, .int .i64 F.space, .slice s.g.a F.glyphs.length s.g.cap, .slice s.k.a F.kerns.length s.k.cap, .int .i64 R.measure, .int .i64 R.lines, .int .i64 R.lead, .int .i64 R.short, .int .i64 R.extra, .int .i64 R.ink, .string t] 36) := below_blk hb1 (by repeat' (first | (with_reducible assumption) | (with_reducible refine blk_set_ne ?_ ?_) | (with_reducible exact blk_new _ _) | (with_reducible refine blk_new' _ _ (by first | (with_reducible rfl) | (simp; done) | (simp <;> omega))) | (with_reducible refine blk_alloc ?_ _) | (with_reducible refine blk_drew ?_) | (with_reducible refine blk_drewN ?_ _) | (with_reducible refine Ext2.blk (by assumption) ?_) | omega | (simp <;> omega) | exact blk_set (by assumption) _ _)) (by simp)
    have hn40 := htx.n40; have hn1 := htx.n1
    have hnp := npg_le htx P.length (Nat.le_refl _)
    have hnp1 := page_lt htx (i := 0) (by omega)
    obtain ⟨lb, loff, hla, -⟩ := hrow.row (by omega) (by omega)
    have hlc := hrow.le; have hlm := hrow.max
    obtain ⟨sa, sc⟩ := sl
    dsimp only at hla hlc hlm
    subst hla
    obtain ⟨gb, goff, hga, -⟩ := gl_cells (HF.out.gls.gl) (i := 0) (by have := hk.ng; omega)
    obtain ⟨NP, hNP⟩ : ∃ n, n = npg F R P P.length := ⟨_, rfl⟩
    rw [← hNP] at hrow hpix hlc hnp ⊢
    have hpx := pix_ok hk hr
    have hrw := rows_pos hk hr
    have hrl := hr.lines; have hld := hr.lead; have hhg := hk.high; have hms := hr.measure; have hik := hr.ink
    have hA : R.lines * F.high + (R.lines - 1) * R.lead = rowsV F R := by rw [hrw.2.2, Int.sub_mul, Int.one_mul, Int.mul_add]; omega
    have hb2 : 0 ≤ R.lines * F.high ∧ R.lines * F.high ≤ 12 * 16 := ⟨Int.mul_nonneg (by omega) (by omega), Int.mul_le_mul (by omega) (by omega) (by omega) (by omega)⟩
    have hb3 : 0 ≤ (R.lines - 1) * R.lead ∧ (R.lines - 1) * R.lead ≤ 12 * 10 := ⟨Int.mul_nonneg (by omega) (by omega), Int.mul_le_mul (by omega) (by omega) (by omega) (by omega)⟩
    obtain ⟨q1, hq1⟩ : ∃ q, q = R.lines * F.high := ⟨_, rfl⟩
    obtain ⟨q2, hq2⟩ : ∃ q, q = (R.lines - 1) * R.lead := ⟨_, rfl⟩
    rw [← hq1, ← hq2] at hA
    rw [← hq1] at hb2
    rw [← hq2] at hb3
    have v1 : IntKind.i64.wrap (R.lines * F.high) = q1 := by rw [← hq1]; exact IntWalk.i64_in _ (by omega)
    have v2 : IntKind.i64.wrap (R.lines - 1) = R.lines - 1 := IntWalk.i64_in _ (by omega)
    have v3 : IntKind.i64.wrap ((R.lines - 1) * R.lead) = q2 := by rw [← hq2]; exact IntWalk.i64_in _ (by omega)
    have v4 : IntKind.i64.wrap (q1 + q2) = rowsV F R := by rw [hA]; exact IntWalk.i64_in _ (by omega)
    have v5 : IntKind.i64.wrap (R.measure * rowsV F R) = (pixN F R : Int) := by rw [hpx.1]; exact IntWalk.i64_in _ (by have := hpx.1; omega)
    have V1 := Lib.hid v1; have V2 := Lib.hid v2; have V3 := Lib.hid v3; have V4 := Lib.hid v4; have V5 := Lib.hid v5
    have HK := Lib.hid hk; have HR := Lib.hid hr; have HTX := Lib.hid htx; have HROW := Lib.hid hrow; have HPIX := Lib.hid hpix; have HSE := Lib.hid hset; have HB1 := Lib.hid hB1; have HGA := Lib.hid hga; have HNP := Lib.hid hNP; have HB0 := Lib.hid b0; have HPX := Lib.hid hpx
    have hpxn : pixN F R ≤ 2304 := hpx.2.1
    clear hk hr htx hrow hpix hset hB1 hp1 hb1 hP hsm hNP hx0 hga hpx hrw hA hb2 hb3 hq1 hq2 b0 v1 v2 v3 v4 v5 hrl hld hhg hms hnp1
    go_wp2_with (fail)
    go_loopw [5, 7] (fun dv iv wr => ∃ p : Nat, iv = .int .i64 (p : Int) ∧ p ≤ NP ∧ dv = .int .i64 ((darkP F R P p : Nat) : Int) ∧ Ext2 w1 wr) (fun _ iv _ => NP - (intOf iv).toNat)
    case atStart => exact ⟨0, rfl, Nat.zero_le _, rfl, Below.refl _ _⟩
    case round =>
      obtain ⟨p, rfl, hp, rfl, hEr⟩ := hrel
      have HEr := Lib.hid hEr
      have hdl := darkP_le (P := P) HK.out HR.out p
      by_cases hlt : p < NP
      · go_light
        obtain ⟨f0, f1, f2⟩ := fr_cells (RowS.below HROW.out hEr) (i := p) hlt
        have b0 := Ext2.blk hEr HB0.out
        have hds : darkP F R P (p + 1) = darkP F R P p + cntN (ptsK F R P p P.length) (pixN F R) := rfl
        obtain ⟨Dk, hDk⟩ : ∃ d, d = darkP F R P p := ⟨_, rfl⟩
        rw [← hDk] at hds hdl ⊢
        have HDS := Lib.hid hds
        have r0 : (0 : Int) ≤ (p : Int) := by omega
        have r1 : (p : Int) < (NP : Int) := by omega
        have w3' : IntKind.i64.wrap ((p : Int) + 1) = (p : Int) + 1 := IntWalk.i64_in _ (by omega)
        have v1 := V1.out; have v2 := V2.out; have v3 := V3.out; have v4 := V4.out; have v5 := V5.out
        clear hDk hds hEr
        have q0c := cell_blk b0
        have q0f := frz_blk b0
        go_wp2_with (fail)
        refine region_st [⟨[], [0, 1, 2, 3, 4, 5, 6, 7, 8, 9, 10, 11, 12, 13, 14, 15, 16, 17, 18, 19, 20, 21, 22, 23, 24, 25, 26, 27, 28, 29, 30, 31, 32, 33, 34, 35, 36, 37, 38, 39, 40, 41, 42, 43, 44, 45, 46, 47, 48, 49, 50, 51, 52], []⟩] (by kernel_rfl) (by kernel_rfl) (by intro c a d v w h; cases d <;> exact h) ?_
        refine wpSt_cons ?_
        simp only [picks, List.drop_succ_cons, List.drop_zero]
        repeat ((with_reducible refine wpQ0_step (fun K hK => ?_)); go_simp; ((with_reducible refine hK _ ?_); clear hK K))
        refine wpQ0_nil ?_
        repeat ((with_reducible refine wpQ2_step (fun K hK => ?_)); go_simp; first | ((with_reducible refine hK _ ?_); clear hK K) | (refine ite_undef (fun h => (by have h_ : (none : Option Bool) = some _ := h; cases h_)) ?_; (with_reducible refine hK _ ?_); clear hK K) | (apply Exists.intro; refine ⟨fun x => ?_, hK _ ?_⟩; (fail); clear hK K))
        (with_reducible refine wpQ2_nil ?_)
        intro w2 hw2
        refine wpTl_nil ?_
        refine wpSt_nil ?_
        have HE2 := Lib.hid (ext_trans HEr.out hw2)
        clear q0c q0f b0 f0 f1 f2 v1 v2 v3 v4 v5 hw2
        go_wp2_with (fail)
        go_loopw [5, 8] (fun dv kv wx => ∃ k : Nat, kv = .int .i64 (k : Int) ∧ k ≤ pixN F R ∧ dv = .int .i64 ((Dk + cntN (ptsK F R P p P.length) k : Nat) : Int) ∧ Ext2 w1 wx) (fun _ kv _ => pixN F R - (intOf kv).toNat)
        case atStart => exact ⟨0, rfl, Nat.zero_le _, rfl, HE2.out⟩
        case round =>
          obtain ⟨k, rfl, hk, rfl, hEx⟩ := hrel
          have HEx := Lib.hid hEx
          obtain ⟨-, -, f2⟩ := fr_cells (RowS.below HROW.out hEx) (i := p) hlt
          have b0 := Ext2.blk hEx HB0.out
          have hcl := cntN_le (ptsK F R P p P.length) k
          by_cases hlk : k < pixN F R
          · go_light
            have f3 := PixAt.at (PixAt.ext (HPIX.out p hlt) hEx) hlk
            have hcs : cntN (ptsK F R P p P.length) (k + 1) = cntN (ptsK F R P p P.length) k + (if k ∈ ptsK F R P p P.length then 1 else 0) := rfl
            obtain ⟨C, hC⟩ : ∃ c, c = Dk + cntN (ptsK F R P p P.length) k := ⟨_, rfl⟩
            rw [← hC]
            have k0 : (0 : Int) ≤ (k : Int) := by omega
            have k1 : (k : Int) < (pixN F R : Int) := by omega
            have wk : IntKind.i64.wrap ((k : Int) + 1) = (k : Int) + 1 := IntWalk.i64_in _ (by omega)
            by_cases hmem : k ∈ ptsK F R P p P.length
            · rw [if_pos hmem] at f3 hcs
              have HCS : Hid (Dk + cntN (ptsK F R P p P.length) (k + 1) = C + 1) := Lib.hid (by rw [hcs, hC]; omega)
              have wi : IntKind.i64.wrap R.ink = R.ink := IntWalk.i64_in _ (by omega)
              have i0 : (R.ink != 0) = true := by simp; omega
              have wC : IntKind.i64.wrap ((C : Int) + 1) = (C : Int) + 1 := IntWalk.i64_in _ (by omega)
              clear hcs hC hmem hEx
              have q0c := cell_blk b0
              have q0f := frz_blk b0
              go_wp2_with (fail)
              go_roundw
              case rel => exact ⟨k + 1, by go_num, hlk, by rw [HCS.out]; simp, HEx.out⟩
              case measure => simp [intOf]; omega
            · rw [if_neg hmem] at f3 hcs
              have HCS : Hid (Dk + cntN (ptsK F R P p P.length) (k + 1) = C) := Lib.hid (by rw [hcs, hC]; omega)
              have wi : IntKind.i64.wrap 0 = 0 := IntWalk.i64_in _ (by omega)
              clear hcs hC hmem hEx
              have q0c := cell_blk b0
              have q0f := frz_blk b0
              go_wp2_with (fail)
              go_roundw
              case rel => exact ⟨k + 1, by go_num, hlk, by rw [HCS.out], HEx.out⟩
              case measure => simp [intOf]; omega
          · have hkN : k = pixN F R := by omega
            have r8 : ¬ (k : Int) < (pixN F R : Int) := by omega
            have r9 : ¬ k < pixN F R := hlk
            have HKN := Lib.hid hkN
            clear hlk hEx hkN
            go_wp2_with (fail)
            go_roundw
            case rel => exact ⟨p + 1, by go_num, hlt, by rw [HDS.out, HKN.out], HEx.out⟩
            case measure => simp [intOf]; omega
      · obtain rfl : p = NP := by omega
        have r1 : ¬ (p : Int) < (p : Int) := by omega
        have b0 := Ext2.blk hEr HB0.out
        clear hlt hEr
        have q0c := cell_blk b0
        have q0f := frz_blk b0
        go_wp2_with (fail)
        have HBr := Lib.hid (below_ext HB1.out HEr.out)
        have HDK : Hid (darkP F R P p ≤ inkP F P P.length ∧ (plainB F F.kerns.length = true → darkP F R P p = inkP F P P.length)) := Lib.hid (by
          have h := ink_ok HK.out HR.out HTX.out
          rw [← HNP.out] at h
          exact ⟨h.1, fun hp => h.2 (plain_all _ hp)⟩)
        obtain ⟨Dk, hDk⟩ : ∃ d, d = darkP F R P p := ⟨_, rfl⟩
        rw [← hDk] at HDK hdl ⊢
        clear hDk
        refine (HWO.out _).mono ?_
        rintro e w2 ⟨⟨s2, rfl, hs2⟩, hb2⟩
        have HE2 := Lib.hid (ext_trans HEr.out hb2)
        have h2c := hs2.le; have h2m := hs2.max
        obtain ⟨tb, toff, hta, -⟩ := str_cell hs2 (i := 0) (by omega)
        obtain ⟨ta, tc⟩ := s2
        dsimp only at hta h2c h2m
        subst hta
        have HS2 := Lib.hid hs2
        have HB02 := Lib.hid (Ext2.blk HE2.out HB0.out)
        have HB2 := Lib.hid (below_ext HB1.out HE2.out)
        clear hb2 hs2 q0c q0f b0
        go_wp2_with (fail)
        go_loopw [6, 11] (fun mv iv wx => ∃ i : Nat, iv = .int .i64 (i : Int) ∧ i ≤ P.length ∧ mv = .int .i64 ((inkP F P i : Nat) : Int) ∧ Ext2 w2 wx) (fun _ iv _ => P.length - (intOf iv).toNat)
        case atStart => exact ⟨0, rfl, Nat.zero_le _, rfl, Below.refl _ _⟩
        case round =>
          obtain ⟨i, rfl, hi, rfl, hEx⟩ := hrel
          have HEx := Lib.hid hEx
          have hil := inkP_le HK.out HTX.out i hi
          by_cases hli : i < P.length
          · go_light
            obtain ⟨_, _, e5, c5⟩ := str_cell (RowS.below HS2.out hEx) hli
            obtain ⟨rfl, rfl⟩ : tb = _ ∧ toff = _ := by simpa using e5
            have b0 := Ext2.blk hEx HB02.out
            have hse := HSE.out i hli
            have hlp := gL_pos HTX.out hli
            have hl24 := gL_len (F := F) (HTX.out.size i hli)
            have hmem := gL_mem (F := F) (p := strD P i)
            have hstep : inkP F P (i + 1) = inkP F P i + inkL F (gL F (strD P i)) (gL F (strD P i)).length := rfl
            obtain ⟨pk, hpk⟩ : ∃ q, q = strD P i := ⟨_, rfl⟩
            rw [← hpk] at c5 hse hlp hl24 hmem hstep
            obtain ⟨I, hI⟩ : ∃ q, q = inkP F P i := ⟨_, rfl⟩
            rw [← hI] at hstep hil ⊢
            have HSP := Lib.hid hstep; have HSET := Lib.hid hse; have HMEM := Lib.hid hmem
            have hIb : I ≤ 184320 := by omega
            have i0 : (0 : Int) ≤ (i : Int) := by omega
            have i1 : (i : Int) < (P.length : Int) := by omega
            have w3' : IntKind.i64.wrap ((i : Int) + 1) = (i : Int) + 1 := IntWalk.i64_in _ (by omega)
            clear e5 hse hstep hpk hI hEx hmem hil
            have q0c := cell_blk b0
            have q0f := frz_blk b0
            go_wp2_with (fail)
            refine region_st [⟨[], [0, 1, 2, 3, 4, 5], [6]⟩, ⟨[], [7, 8, 9, 10, 11, 12, 13], []⟩] (by kernel_rfl) (by kernel_rfl) (by intro c a d v w h; cases d <;> exact h) ?_
            refine wpSt_cons ?_
            simp only [picks, List.drop_succ_cons, List.drop_zero]
            repeat ((with_reducible refine wpQ0_step (fun K hK => ?_)); go_simp; ((with_reducible refine hK _ ?_); clear hK K))
            refine wpQ0_nil ?_
            repeat ((with_reducible refine wpQ2_step (fun K hK => ?_)); go_simp; first | ((with_reducible refine hK _ ?_); clear hK K) | (apply Exists.intro; refine ⟨fun x => ?_, hK _ ?_⟩; (fail); clear hK K))
            refine wpQ2_nil ?_
            intro w5 hw5
            refine wpTl_cons ?_
            go_wp2_with (fail)
            refine (HST.out _ pk (below_ext HB2.out (ext_trans HEx.out hw5))).mono ?_
            rintro e w6 ⟨⟨gv, wd6, rfl, hv6⟩, hb6⟩
            obtain ⟨gs6, rfl, hgi6, -⟩ := setVal_list hv6
            rw [HSET.out] at hgi6 ⊢
            have hgi : IntsS w6 gs6 ((gL F pk).map Int.ofNat) := by rw [if_pos rfl] at hgi6; exact hgi6
            have hgl : (if (0 : Int) = 0 then ((setS F pk.data.toList).getD []).map Int.ofNat else []).length = (gL F pk).length := by simp [gL]
            rw [hgl]
            have g6c := hgi.le; have g6m := hgi.max
            rw [ints_len] at g6c
            obtain ⟨ob, ooff, hoa, -⟩ := int_cell hgi (i := 0) (by rw [ints_len]; exact hlp)
            obtain ⟨oa, oc⟩ := gs6
            dsimp only at hoa g6c g6m
            subst hoa
            have HGI := Lib.hid hgi
            have HE6 := Lib.hid (ext_trans hw5 hb6)
            clear hw5 hb6 hv6 hgi6 hgi hgl
            go_wp2_with (fail)
            refine wpTl_nil ?_
            refine wpSt_name ?_
            intro w7 hw7
            refine wpSt_cons ?_
            simp only [picks, List.drop_succ_cons, List.drop_zero]
            repeat ((with_reducible refine wpQ0_step (fun K hK => ?_)); go_simp; ((with_reducible refine hK _ ?_); clear hK K))
            refine wpQ0_nil ?_
            repeat ((with_reducible refine wpQ2_step (fun K hK => ?_)); go_simp; first | ((with_reducible refine hK _ ?_); clear hK K) | (apply Exists.intro; refine ⟨fun x => ?_, hK _ ?_⟩; (fail); clear hK K))
            refine wpQ2_nil ?_
            intro w8 hw8
            refine wpTl_nil ?_
            refine wpSt_nil ?_
            subst hw7
            have HGI8 := Lib.hid (RowS.below HGI.out hw8)
            have HE8 := Lib.hid (ext_trans HEx.out (ext_trans HE6.out hw8))
            clear q0c q0f b0 c5 hw8
            obtain ⟨l, hll⟩ : ∃ l, l = gL F pk := ⟨_, rfl⟩
            rw [← hll] at HGI8 HSP HMEM hlp hl24 g6c ⊢
            clear HGI hll
            go_wp2_with (fail)
            go_loopw [6, 15] (fun mv kv wy => ∃ k : Nat, kv = .int .i64 (k : Int) ∧ k ≤ l.length ∧ mv = .int .i64 ((I + inkL F l k : Nat) : Int) ∧ Ext2 w8 wy) (fun _ kv _ => l.length - (intOf kv).toNat)
            case atStart => exact ⟨0, rfl, Nat.zero_le _, rfl, Below.refl _ _⟩
            case round =>
              obtain ⟨k, rfl, hk, rfl, hEy⟩ := hrel
              have HEy := Lib.hid hEy
              have hkl := inkL_le HK.out HMEM.out k hk
              by_cases hlk : k < l.length
              · go_light
                obtain ⟨_, _, e6, ck⟩ := int_cell (RowS.below HGI8.out hEy) (i := k) (by rw [ints_len]; exact hlk)
                obtain ⟨rfl, rfl⟩ : ob = _ ∧ ooff = _ := by simpa using e6
                rw [show intD (l.map Int.ofNat) k = ((l.getD k 0 : Nat) : Int) by simp [intD, List.getD_eq_getElem?_getD, hlk]] at ck
                have hgF := getD_mem HMEM.out hlk
                have hE2y := ext_trans HE8.out hEy
                have hFy := HF.out.below (below_ext HB2.out hE2y)
                obtain ⟨_, _, e7, g0, g1, g2⟩ := gl_cells hFy.gls.gl hgF
                rw [HGA.out] at e7
                obtain ⟨rfl, rfl⟩ : gb = _ ∧ goff = _ := by simpa using e7
                have b0 := Ext2.blk hE2y HB02.out
                rw [HGA.out] at b0
                have hig := inkG_le HK.out hgF
                have hinkst : inkL F l (k + 1) = inkL F l k + inkG (glN F l k) := rfl
                have HNK : Hid (∀ W, Ext2 wr W → Calls Tryd.prog 29 #[.agg #[.string (glD F.glyphs (l.getD k 0)).text, .int .i64 (glD F.glyphs (l.getD k 0)).wide, .slice (s.rs (l.getD k 0)).a (glD F.glyphs (l.getD k 0)).rows.length (s.rs (l.getD k 0)).cap]] W fun e w' => e = .returned (.int .i64 ((inkG (glD F.glyphs (l.getD k 0)) : Nat) : Int)) ∧ Below W.heap.size W w') := Lib.hid fun W hW => inkL_any ((hFy.below hW).gls.rows _ hgF) (fun y hy => row_rng HK.out hgF hy) hig.2.2 hig.2.1
                have hgN : inkG (glN F l k) = inkG (glD F.glyphs (l.getD k 0)) := rfl
                rw [hgN] at hinkst
                obtain ⟨g, hg⟩ : ∃ g, g = l.getD k 0 := ⟨_, rfl⟩
                rw [← hg] at ck g0 g1 g2 HNK hgF hig hinkst
                obtain ⟨X, hX⟩ : ∃ X, X = inkG (glD F.glyphs g) := ⟨_, rfl⟩
                rw [← hX] at HNK hig hinkst
                obtain ⟨J, hJ⟩ : ∃ J, J = I + inkL F l k := ⟨_, rfl⟩
                rw [← hJ]
                have HJS : Hid (I + inkL F l (k + 1) = J + X) := Lib.hid (by rw [hinkst, hJ]; omega)
                have wJ : IntKind.i64.wrap ((J : Int) + (X : Int)) = (J : Int) + (X : Int) := IntWalk.i64_in _ (by omega)
                have k0 : (0 : Int) ≤ (k : Int) := by omega
                have k1 : (k : Int) < (l.length : Int) := by omega
                have wk : IntKind.i64.wrap ((k : Int) + 1) = (k : Int) + 1 := IntWalk.i64_in _ (by omega)
                have g3 : (g : Int) < (F.glyphs.length : Int) := by omega
                have g4 : (0 : Int) ≤ (g : Int) := by omega
                have d1 : decide ((g : Int) < 0) = false := decide_eq_false (by omega)
                have d2 : ¬ F.glyphs.length ≤ g := by omega
                have d3 : decide ((F.glyphs.length : Int) ≤ (g : Int)) = false := decide_eq_false (by omega)
                have d4 : decide (F.glyphs.length ≤ g) = false := decide_eq_false d2
                clear e6 e7 hg hX hJ hinkst hgN hig hFy hE2y hEy hkl
                have q0c := cell_blk b0
                have q0f := frz_blk b0
                go_wp2_with (fail)
                refine region_st [⟨[], [0, 1, 2, 3, 4, 5, 6, 7, 8, 9, 10, 11, 12, 13, 14, 15], []⟩] (by kernel_rfl) (by kernel_rfl) (by intro c a d v w h; cases d <;> exact h) ?_
                refine wpSt_cons ?_
                simp only [picks, List.drop_succ_cons, List.drop_zero]
                repeat ((with_reducible refine wpQ0_step (fun K hK => ?_)); go_simp; ((with_reducible refine hK _ ?_); clear hK K))
                refine wpQ0_nil ?_
                repeat ((with_reducible refine wpQ2_step (fun K hK => ?_)); go_simp; first | ((with_reducible refine hK _ ?_); clear hK K) | (refine ite_undef (fun h => (by have h_ : (none : Option Bool) = some _ := h; cases h_)) ?_; (with_reducible refine hK _ ?_); clear hK K) | (apply Exists.intro; refine ⟨fun x => ?_, hK _ ?_⟩; (fail); clear hK K))
                (with_reducible refine wpQ2_nil ?_)
                intro w9 hw9
                refine wpTl_nil ?_
                refine wpSt_nil ?_
                have HE9 := Lib.hid (ext_trans HEy.out hw9)
                have b0 := Ext2.blk hw9 b0
                have ck := (Below.cell hw9 (cell_lt ck)).trans ck
                have g0 := (Below.cell hw9 (cell_lt g0)).trans g0
                have g1 := (Below.cell hw9 (cell_lt g1)).trans g1
                have g2 := (Below.cell hw9 (cell_lt g2)).trans g2
                have HNK9 : Hid (∀ W, Ext2 w9 W → Calls Tryd.prog 29 #[.agg #[.string (glD F.glyphs g).text, .int .i64 (glD F.glyphs g).wide, .slice (s.rs g).a (glD F.glyphs g).rows.length (s.rs g).cap]] W fun e w' => e = .returned (.int .i64 (X : Int)) ∧ Below W.heap.size W w') := Lib.hid fun W hW => HNK.out W (ext_trans hw9 hW)
                clear q0c q0f hw9
                have q0c := cell_blk b0
                have q0f := frz_blk b0
                go_wp2_with (fail)
                refine region_ev [] [0, 1, 2, 3, 4, 5, 6, 7, 8, 9, 10, 11, 12] [] [] (by kernel_rfl) (by kernel_rfl) (by intro c a d v w h; cases d <;> exact h) ?_
                simp only [picks, List.drop_succ_cons, List.drop_zero]
                repeat (refine wpQ0_step (fun K hK => ?_); go_simp; (refine hK _ ?_; clear hK K))
                refine wpQ0_nil ?_
                repeat ((with_reducible refine wpQ2_step (fun K hK => ?_)); go_simp; first | ((with_reducible refine hK _ ?_); clear hK K) | (apply Exists.intro; refine ⟨fun x => ?_, hK _ ?_⟩; ((with_reducible exact HNK9.out x.1 x.2)); clear hK K))
                refine wpQ2_nil ?_
                refine Events.none_ fun w10 hg10 => ?_
                simp only [picks, List.drop_succ_cons, List.drop_zero]
                have hE10 := ext_trans HE9.out hg10
                clear q0c q0f b0 ck g0 g1 g2 hg10
                go_wp2_with (fail)
                go_roundw
                case rel => exact ⟨k + 1, by go_num, hlk, by rw [HJS.out]; simp, hE10⟩
                case measure => simp [intOf]; omega
              · have hkN : k = l.length := by omega
                have HKN := Lib.hid hkN
                have r8 : ¬ (k : Int) < (l.length : Int) := by omega
                have r9 : ¬ k < l.length := hlk
                clear hlk hkN hEy
                go_wp2_with (fail)
                go_roundw
                case rel => exact ⟨i + 1, by go_num, hli, by rw [HSP.out, HKN.out], ext_trans HE8.out HEy.out⟩
                case measure => simp [intOf]; omega
          · obtain rfl : i = P.length := by omega
            have r8 : ¬ (P.length : Int) < (P.length : Int) := by omega
            obtain ⟨I, hI⟩ : ∃ q, q = inkP F P P.length := ⟨_, rfl⟩
            rw [← hI] at HDK hil ⊢
            clear hli hI hEx
            go_wp2_with (fail)
            go_loopw [16, 17] (fun pv kv wx => ∃ k : Nat, kv = .int .i64 (k : Int) ∧ k ≤ F.kerns.length ∧ pv = .bool (plainB F k) ∧ Ext2 w2 wx) (fun _ kv _ => F.kerns.length - (intOf kv).toNat)
            case atStart => exact ⟨0, rfl, Nat.zero_le _, rfl, HEx.out⟩
            case round =>
              obtain ⟨k, rfl, hk, rfl, hEy⟩ := hrel
              have HEy := Lib.hid hEy
              have b0 := Ext2.blk hEy HB02.out
              have hn60 := HK.out.nk
              by_cases hlk : k < F.kerns.length
              · go_light
                obtain ⟨kb, koff, hka, -, -, c2⟩ := kn_cells (HF.out.below (below_ext HB2.out hEy)).kn hlk
                rw [hka] at b0
                have hps : plainB F (k + 1) = (plainB F k && decide (0 ≤ (knD F.kerns k).by_)) := rfl
                obtain ⟨y, hy⟩ : ∃ y, y = (knD F.kerns k).by_ := ⟨_, rfl⟩
                obtain ⟨bq, hbq⟩ : ∃ b, b = plainB F k := ⟨_, rfl⟩
                rw [← hy] at c2 hps
                rw [← hbq] at hps ⊢
                have HPS := Lib.hid hps
                have k0 : (0 : Int) ≤ (k : Int) := by omega
                have k1 : (k : Int) < (F.kerns.length : Int) := by omega
                have wk : IntKind.i64.wrap ((k : Int) + 1) = (k : Int) + 1 := IntWalk.i64_in _ (by omega)
                clear hps hy hbq hka hEy hn60
                have q0c := cell_blk b0
                have q0f := frz_blk b0
                cases bq
                case false =>
                  go_wp2_with (fail)
                  go_roundw
                  case rel => exact ⟨k + 1, by go_num, hlk, by rw [HPS.out]; rfl, HEy.out⟩
                  case measure => simp [intOf]; omega
                case true =>
                  go_wp2_with (fail)
                  go_roundw
                  case rel => exact ⟨k + 1, by go_num, hlk, by rw [HPS.out]; simp, HEy.out⟩
                  case measure => simp [intOf]; omega
              · have hkN : k = F.kerns.length := by omega
                have HBy := Lib.hid (below_ext HB2.out hEy)
                have HDK2 : Hid (Dk ≤ I ∧ (plainB F k = true → Dk = I)) := Lib.hid (by rw [hkN]; exact HDK.out)
                have r9 : ¬ (k : Int) < (F.kerns.length : Int) := by omega
                have r10 : ¬ k < F.kerns.length := hlk
                obtain ⟨bq, hbq⟩ : ∃ b, b = plainB F k := ⟨_, rfl⟩
                rw [← hbq] at HDK2 ⊢
                have hd1 : (Dk : Int) ≤ (I : Int) := by have := HDK2.out.1; omega
                have hd2 : Dk ≤ I := HDK2.out.1
                clear hbq hkN hlk hEy hn60
                have q0c := cell_blk b0
                have q0f := frz_blk b0
                cases bq
                case false =>
                  go_wp2_with (fail)
                  (with_reducible refine (H5.out _ HBy.out).mono ?_)
                  rintro e w11 ⟨rfl, hb11⟩
                  have hB11 := below_ext HBy.out hb11
                  clear hb11
                  go_wp2_with (fail)
                  go_ret
                  exact ⟨rfl, hB11⟩
                case true =>
                  have hde := HDK2.out.2 rfl
                  subst hde
                  go_wp2_with (fail)
                  (with_reducible refine (H5.out _ HBy.out).mono ?_)
                  rintro e w11 ⟨rfl, hb11⟩
                  have hB11 := below_ext HBy.out hb11
                  clear hb11
                  go_wp2_with (fail)
                  go_ret
                  exact ⟨rfl, hB11⟩
end Go.Proofs.YtahgbecfaihfpaaDoor
