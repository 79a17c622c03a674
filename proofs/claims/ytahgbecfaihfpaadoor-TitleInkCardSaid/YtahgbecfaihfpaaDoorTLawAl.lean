/-
  The law TitleAlone, walked.
-/
import Derived.Test.YtahgbecfaihfpaaDoorTPlAlo
import Derived.Test.YtahgbecfaihfpaaDoorTLawPd
import Derived.Test.YtahgbecfaihfpaaDoorTLawSe
namespace Go.Proofs.YtahgbecfaihfpaaDoor
open Go.RowKit D
set_option linter.unusedVariables false
set_option linter.unusedSimpArgs false
attribute [local go_sem high] run_minI run_maxI
attribute [local go_sem] upon2 cls_cell cls_frozen forall_const exists_eq_left'
attribute [local go_sem] FirstUpon
theorem PixAt.ext {W W' : World} {b N : Nat} {ink : Int} {L : List Nat} (h : PixAt W b N ink L) (hg : Ext2 W W') : PixAt W' b N ink L := by
  obtain ⟨c, h1, h2, h3⟩ := h
  exact ⟨c, Ext2.blk hg h1, h2, h3⟩
theorem PixAt.at {W : World} {b N : Nat} {ink : Int} {L : List Nat} (h : PixAt W b N ink L) {j : Nat} (hj : j < N) : W.cell? ⟨b, j, none⟩ = some (.int .u8 (if j ∈ L then ink else 0)) := by
  obtain ⟨c, h1, h2, h3⟩ := h
  rw [cell_blk h1]; exact h3 j hj
theorem run_neq_pl (w : World) (x0 x1 x2 : Int) : (binOp .neq 76 (.agg #[.int .i64 x0, .int .i64 x1, .int .i64 x2]) (.agg #[.int .i64 x0, .int .i64 x1, .int .i64 x2])).run Tryd.prog w = .ok (.bool false) w := by
  go_simp
theorem pages_val {w w' : World} {F : Font} {R : Rul} {t : ByteArray} {e : Ending} (h : PagesPost w F R t e w') (h0 : openE F R t = 0) : ∃ (sl : Sl) (pb : Nat → Nat), e = .returned (.tuple #[.slice sl.a (npg F R (partsS t) (partsS t).length) sl.cap, .int .i64 0]) ∧ RowS w' sl 3 (npg F R (partsS t) (partsS t).length) (frC F R pb) ∧ (∀ p, p < npg F R (partsS t) (partsS t).length → PixAt w' (pb p) (pixN F R) R.ink (ptsK F R (partsS t) p (partsS t).length)) ∧ Below w.heap.size w w' := by
  obtain ⟨⟨v, rfl, hv⟩, hb⟩ := h
  rw [if_pos h0] at hv
  obtain ⟨sl, pb, rfl, hr, hp⟩ := hv
  exact ⟨sl, pb, by rw [h0], hr, hp, hb⟩
theorem fr_cells {w : World} {b cap n : Nat} {off : Nat} {F : Font} {R : Rul} {pb : Nat → Nat} (h : RowS w ⟨some ⟨b, off, none⟩, cap⟩ 3 n (frC F R pb)) {i : Nat} (hi : i < n) : w.cell? ⟨b, off + i * 3, none⟩ = some (.int .i64 R.measure) ∧ w.cell? ⟨b, off + i * 3 + 1, none⟩ = some (.int .i64 (rowsV F R)) ∧ w.cell? ⟨b, off + i * 3 + 2, none⟩ = some (.slice (some ⟨pb i, 0, none⟩) (pixN F R) (pixN F R)) := by
  obtain ⟨b', off', e1, hr⟩ := h.row (by omega) (by omega)
  obtain ⟨rfl, rfl⟩ : b = b' ∧ off = off' := by simpa using e1
  have := hr.three hi
  simpa [frC] using this
theorem word_fit {F : Font} {R : Rul} {P : List ByteArray} (hk : FontOk F) (hr : RulOk F R) (h : TextOk F R P) {k : Nat} (hkl : k < P.length) : 0 ≤ (plS F R P k).left ∧ (plS F R P k).left + wW F (strD P k) ≤ R.measure := by
  have hlo := lineOf_ok h hkl
  have hb := brk_lt h hlo.1
  have h2 := left_rng hk hr h hlo.1 (d := k - brk F R P (lineOf F R P k)) (by omega)
  have h3 := left_fit hk hr h hlo.1 (d := k - brk F R P (lineOf F R P k)) (by omega)
  rw [show brk F R P (lineOf F R P k) + (k - brk F R P (lineOf F R P k)) = k by omega] at h3
  exact ⟨h2.2.2.1, h3⟩
set_option maxRecDepth 100000 in
set_option maxHeartbeats 8000000 in
theorem lawAlone_any {F : Font} {s : FSl} {R : Rul} {t : ByteArray} {many : Int} {w : World} (hF : FontAt w F s) (ht : t.size ≤ maxLen) (hy : 0 ≤ many ∧ many ≤ 255) (hm : MaxAt w) : Calls Tryd.prog 14 #[.agg #[.int .i64 F.high, .int .i64 F.space, .slice s.g.a F.glyphs.length s.g.cap, .slice s.k.a F.kerns.length s.k.cap, .int .i64 R.measure, .int .i64 R.lines, .int .i64 R.lead, .int .i64 R.short, .int .i64 R.extra, .int .i64 R.ink, .string t], .int .u8 many] w fun e w' => e = .returned (.bool true) ∧ Below w.heap.size w w' := by
  have HPG : Hid (∀ W u, Below w.heap.size w W → Calls Tryd.prog 28 #[.agg #[.int .i64 F.high, .int .i64 F.space, .slice s.g.a F.glyphs.length s.g.cap, .slice s.k.a F.kerns.length s.k.cap], .agg #[.int .i64 R.measure, .int .i64 R.lines, .int .i64 R.lead, .int .i64 R.short, .int .i64 R.extra, .int .i64 R.ink], .string u] W (PagesPost W F R u)) := Lib.hid fun W u hW => pages_any (hF.below hW) (hm.below hW)
  have HPC : Hid (∀ W u (i : Nat), i ≤ 1000 → Below w.heap.size w W → Calls Tryd.prog 40 #[.agg #[.int .i64 F.high, .int .i64 F.space, .slice s.g.a F.glyphs.length s.g.cap, .slice s.k.a F.kerns.length s.k.cap], .agg #[.int .i64 R.measure, .int .i64 R.lines, .int .i64 R.lead, .int .i64 R.short, .int .i64 R.extra, .int .i64 R.ink], .string u, .int .i64 (i : Int)] W (PlacePost W (placeV F R u (i : Int)))) := Lib.hid fun W u i hi hW => place_any (hF.below hW) (hm.below hW) (IntWalk.i64_in _ (by omega))
  have HST : Hid (∀ W u, Below w.heap.size w W → Calls Tryd.prog 17 #[.agg #[.int .i64 F.high, .int .i64 F.space, .slice s.g.a F.glyphs.length s.g.cap, .slice s.k.a F.kerns.length s.k.cap], .string u] W (SetPost W F u)) := Lib.hid fun W u hW => setApi_any (hF.below hW)
  have H5 : Hid (∀ W, Below w.heap.size w W → Calls Tryd.prog 20 #[] W fun e w' => e = .returned (.bool true) ∧ Below W.heap.size W w') := Lib.hid fun W hW => awake_any (hm.below hW)
  obtain ⟨x, hx⟩ : ∃ x, x = openE F R t := ⟨_, rfl⟩
  have HX := Lib.hid hx
  obtain ⟨mn, rfl⟩ : ∃ mn : Nat, many = (mn : Int) := ⟨many.toNat, by omega⟩
  have hy2 : mn ≤ 255 := by omega
  clear hF hm hx hy
  go_enter Tryd.func14, Tryd.ntmps14
  go_wp2_with (fail)
  (with_reducible refine (HPG.out _ _ ?_).mono ?_)
  · repeat' (first | exact Below.refl _ _ | assumption | refine below_drewN ?_ _ | refine Below.drew ?_ | refine Below.alloc ?_ (by first | assumption | omega | (simp <;> omega)) _ | refine Below.setCell ?_ (by first | assumption | omega | (simp <;> omega)) _ | refine Ext2.on (by assumption) ?_)
  intro e w1 hp1
  by_cases h0 : x = 0
  case neg =>
    obtain ⟨⟨v1, rfl, hv1⟩, hb1⟩ := hp1
    rw [← HX.out] at hv1 ⊢
    rw [if_neg h0] at hv1
    subst hv1
    have hB1 : Below w.heap.size w w1 := Below.trans (by repeat' (first | exact Below.refl _ _ | assumption | refine below_drewN ?_ _ | refine Below.drew ?_ | refine Below.alloc ?_ (by first | assumption | omega | (simp <;> omega)) _ | refine Below.setCell ?_ (by first | assumption | omega | (simp <;> omega)) _ | refine Ext2.on (by assumption) ?_)) (hb1.mono (by simp))
    have e1 : (x != 0) = true := by simp [h0]
    have HB1 := Lib.hid hB1
    clear h0 hb1 hB1
    go_wp2_with (fail)
    (with_reducible refine (H5.out _ HB1.out).mono ?_)
    rintro e w3 ⟨rfl, hb3⟩
    have hB3 := below_ext HB1.out hb3
    clear hb3
    go_wp2_with (fail)
    go_ret
    exact ⟨rfl, hB3⟩
  case pos =>
    subst h0
    have hx0 := HX.out.symm
    obtain ⟨hk, hr, htx⟩ := open_ok hx0
    have hsm := text_small hx0
    obtain ⟨sl, pb, rfl, hrow, hpix, hb1⟩ := pages_val hp1 hx0
    have hset : ∀ i, i < (partsS t).length → setE F (strD (partsS t) i) = 0 := fun i hi => setE_ok hx0 hi
    have hpl : ∀ i : Nat, i < (partsS t).length → placeV F R t (i : Int) = (plS F R (partsS t) i, 0) := fun i hi => by
      unfold placeV
      rw [if_neg (not_not_intro hx0), if_neg (by unfold inB; simp; omega), Int.toNat_natCast]
    have hone := fun i (hi : i < (partsS t).length) => one_open hx0 hi
    obtain ⟨P, hP⟩ : ∃ P, P = partsS t := ⟨_, rfl⟩
    have HWO : Hid (∀ W, Calls Tryd.prog 26 #[.string t] W fun e w' => (∃ s' : Sl, e = .returned (.slice s'.a P.length s'.cap) ∧ StrsS w' s' P) ∧ Below W.heap.size W w') := Lib.hid fun W => by rw [hP]; exact wordsL_any hsm
    rw [← hP] at htx hset hpl hrow hpix hone ⊢
    have hB1 : Below w.heap.size w w1 := Below.trans (by repeat' (first | exact Below.refl _ _ | assumption | refine below_drewN ?_ _ | refine Below.drew ?_ | refine Below.alloc ?_ (by first | assumption | omega | (simp <;> omega)) _ | refine Below.setCell ?_ (by first | assumption | omega | (simp <;> omega)) _ | refine Ext2.on (by assumption) ?_)) (hb1.mono (by simp))
    have b0 : w1.heap[w.heap.size]? = some (Obj.cells #[.int .i64 F.high, .int .i64 F.space, .slice s.g.a F.glyphs.length s.g.cap, .slice s.k.a F.kerns.length s.k.cap, .int .i64 R.measure, .int .i64 R.lines, .int .i64 R.lead, .int .i64 R.short, .int .i64 R.extra, .int .i64 R.ink, .string t] 36) := below_blk hb1 (by repeat' (first | (with_reducible assumption) | (with_reducible refine blk_set_ne ?_ ?_) | (with_reducible exact blk_new _ _) | (with_reducible refine blk_new' _ _ (by first | (with_reducible rfl) | (simp; done) | (simp <;> omega))) | (with_reducible refine blk_alloc ?_ _) | (with_reducible refine blk_drew ?_) | (with_reducible refine blk_drewN ?_ _) | (with_reducible refine Ext2.blk (by assumption) ?_) | omega | (simp <;> omega) | exact blk_set (by assumption) _ _)) (by simp)
    have hn40 := htx.n40; have hn1 := htx.n1
    obtain ⟨k, hkx⟩ : ∃ k, k = mn % P.length := ⟨_, rfl⟩
    have hkP : k < P.length := by rw [hkx]; exact Nat.mod_lt _ (by omega)
    have hpgk := (plS_page (P := P) hr k).1
    have hpglt := page_lt htx hkP
    have hpl := hpl k hkP
    have hset := hset k hkP
    have hone := hone k hkP
    have hopk := one_parts (htx.odd k hkP)
    have hok1 := one_ok htx hkP
    have hnpg1 := one_npg hr hok1
    have hpl1 := one_pl hr hok1
    have hplline := plS_line (P := P) hr k
    have hww := htx.wide k hkP
    have hsame := fun {y0 c0 j n : Nat} => alone_same hk hr htx (k := k) (y0 := y0) (c0 := c0) (pg := pageN F R P k) (j := j) (n := n) hkP hpgk
    obtain ⟨lb, loff, hla, -⟩ := hrow.row (by omega) (by omega)
    have hlc := hrow.le; have hlm := hrow.max
    obtain ⟨sa, sc⟩ := sl
    dsimp only at hla hlc hlm
    subst hla
    have hq2 : (mn : Int).tmod (P.length : Int) = (k : Int) := by rw [Int.tmod_eq_emod_of_nonneg (by omega), hkx]; exact (Int.natCast_emod _ _).symm
    obtain ⟨pk, hpk⟩ : ∃ p, p = strD P k := ⟨_, rfl⟩
    obtain ⟨pg, hpg⟩ : ∃ p, p = pageN F R P k := ⟨_, rfl⟩
    obtain ⟨NP, hNP⟩ : ∃ n, n = npg F R P P.length := ⟨_, rfl⟩
    rw [← hpk] at hset hone hopk hok1 hnpg1 hpl1 hww
    rw [← hpg] at hpgk hpglt
    rw [← hNP] at hpglt hrow hpix hlc ⊢
    obtain ⟨⟨pp, ln, lf⟩, hpp⟩ : ∃ p, p = plS F R P k := ⟨_, rfl⟩
    have hpp1 : pp = (pg : Int) := by rw [← hpgk, ← hpp]
    subst hpp1
    have HHK := Lib.hid hk; have HHR := Lib.hid hr; have HTX := Lib.hid htx; have HROW := Lib.hid hrow; have HPIX := Lib.hid hpix; have HOPK := Lib.hid hopk; have HONE := Lib.hid hone; have HSET := Lib.hid hset; have HN1 := Lib.hid hnpg1; have HPL1 := Lib.hid hpl1; have HPK := Lib.hid hpk; have HPP := Lib.hid hpp; have HB1 := Lib.hid hB1; have HPG2 := Lib.hid hpg; have HOK1 := Lib.hid hok1
    have HSAME : Hid (∀ (y0 c0 j n : Nat), (y0 : Int) < F.high → (c0 : Int) < wW F pk → (j : Int) = (ln * (F.high + R.lead) + y0) * R.measure + (lf + c0) → (n : Int) = (y0 : Int) * R.measure + ((R.measure - wW F pk) / 2 + c0) → (j ∈ ptsK F R P pg P.length ↔ n ∈ ptsK F R [pk] 0 1)) := Lib.hid (by
      intro y0 c0 j n e1 e2 e3 e4
      have h := @hsame y0 c0 j n
      rw [← hpp, ← hpk, ← hpg] at h
      exact h e1 e2 e3 e4)
    have HPLK : Hid (∀ W, Below w.heap.size w W → Calls Tryd.prog 40 #[.agg #[.int .i64 F.high, .int .i64 F.space, .slice s.g.a F.glyphs.length s.g.cap, .slice s.k.a F.kerns.length s.k.cap], .agg #[.int .i64 R.measure, .int .i64 R.lines, .int .i64 R.lead, .int .i64 R.short, .int .i64 R.extra, .int .i64 R.ink], .string t, .int .i64 (k : Int)] W fun e w' => e = .returned (.tuple #[.agg #[.int .i64 (pg : Int), .int .i64 ln, .int .i64 lf], .int .i64 0]) ∧ Below W.heap.size W w') := Lib.hid fun W hW => by
      have h := HPC.out W t k (by omega) hW
      rw [hpl, ← hpp] at h; exact h
    have hfit := word_fit HHK.out HHR.out HTX.out hkP
    rw [← HPP.out, ← HPK.out] at hfit
    dsimp only at hfit
    have hal : ln = (plS F R P k).line ∧ lf = (plS F R P k).left := by rw [← hpp]; exact ⟨rfl, rfl⟩
    have hlnr : 0 ≤ ln ∧ ln < R.lines := by rw [hal.1]; exact hplline
    have wk : IntKind.i64.wrap (k : Int) = (k : Int) := IntWalk.i64_in _ (by omega)
    have wmn : IntKind.i64.wrap (mn : Int) = (mn : Int) := IntWalk.i64_in _ (by omega)
    have e2 : ¬ (P.length : Int) = 0 := by omega
    have k0 : (0 : Int) ≤ (k : Int) := by omega
    have k1 : (k : Int) < (P.length : Int) := by omega
    have p0 : ¬ (pg : Int) < 0 := by omega
    have p1 : ¬ (pg : Int) ≥ (NP : Int) := by omega
    have p2 : ¬ (NP : Int) ≤ (pg : Int) := by omega
    have p3 : (pg : Int) < (NP : Int) := by omega
    have p4 : (0 : Int) ≤ (pg : Int) := by omega
    have p5 : decide ((NP : Int) ≤ (pg : Int)) = false := decide_eq_false (by omega)
    have p6 : decide (NP ≤ pg) = false := decide_eq_false (by omega)
    have p7 : decide ((pg : Int) < 0) = false := decide_eq_false (by omega)
    have p8 : ¬ NP ≤ pg := by omega
    clear hk hr htx hrow hpix hopk hone hset hnpg1 hpl1 hpk hpp hB1 hpg hok1 hsame hpl hplline hal hp1 hb1 hkx hP hsm hNP hpgk hx0
    have q0c := cell_blk b0
    have q0f := frz_blk b0
    go_wp2_with (fail)
    refine (HWO.out _).mono ?_
    rintro e w2 ⟨⟨s2, rfl, hs2⟩, hb2⟩
    have HE2 := Lib.hid (show Ext2 w1 w2 from hb2)
    have b0 := Ext2.blk hb2 b0
    have h2c := hs2.le; have h2m := hs2.max
    obtain ⟨tb, toff, hta, -⟩ := str_cell hs2 (i := 0) (by omega)
    obtain ⟨ta, tc⟩ := s2
    dsimp only at hta h2c h2m
    subst hta
    have HS2 := Lib.hid hs2
    clear hb2 hs2 q0c q0f
    have q0c := cell_blk b0
    have q0f := frz_blk b0
    go_wp2_with (fail)
    (with_reducible refine (HPLK.out _ (below_ext HB1.out HE2.out)).mono ?_)
    rintro e w3 ⟨rfl, hb3⟩
    have HE3 := Lib.hid (ext_trans HE2.out hb3)
    have HE23 := Lib.hid (show Ext2 w2 w3 from hb3)
    have b0 := Ext2.blk hb3 b0
    clear hb3 q0c q0f
    have q0c := cell_blk b0
    have q0f := frz_blk b0
    go_wp2_with (fail)
    refine wp_name ?_
    intro w4 h4
    obtain ⟨pb1, hpb1⟩ : ∃ b, b = w3.heap.size := ⟨_, rfl⟩
    have hE34 : Ext2 w3 w4 := by rw [h4]; exact below_alloc' _ _
    have x9 : w4.heap[pb1]? = some (Obj.cells #[.int .i64 (pg : Int), .int .i64 ln, .int .i64 lf] 76) := by rw [h4, hpb1]; exact blk_new _ _
    have b0 := Ext2.blk hE34 b0
    have HE4 := Lib.hid (ext_trans HE3.out hE34)
    have HE24 := Lib.hid (ext_trans HE23.out hE34)
    rw [← hpb1]
    clear h4 hpb1 hE34 q0c q0f
    obtain ⟨_, _, h5, c5⟩ := str_cell (RowS.below HS2.out HE24.out) hkP
    obtain ⟨rfl, rfl⟩ : tb = _ ∧ toff = _ := by simpa using h5
    rw [← HPK.out] at c5
    clear h5
    have q0c := cell_blk b0
    have q0f := frz_blk b0
    refine region_st [⟨[], [0, 1, 2, 3, 4, 5], [6]⟩, ⟨[], [7, 8, 9, 10, 11, 12, 13], []⟩] (by kernel_rfl) (by kernel_rfl) (by intro c a d v w h; cases d <;> exact h) ?_
    refine wpSt_cons ?_
    simp only [picks, List.drop_succ_cons, List.drop_zero]
    repeat ((with_reducible refine wpQ0_step (fun K hK => ?_)); go_simp; ((with_reducible refine hK _ ?_); clear hK K))
    refine wpQ0_nil ?_
    repeat ((with_reducible refine wpQ2_step (fun K hK => ?_)); go_simp; first | ((with_reducible refine hK _ ?_); clear hK K) | (apply Exists.intro; refine ⟨fun x => ?_, hK _ ?_⟩; (fail); clear hK K))
    refine wpQ2_nil ?_
    intro w5 hw5
    refine wpTl_cons ?_
    go_wp2_with (fail)
    refine (HST.out _ pk (below_ext HB1.out (ext_trans HE4.out hw5))).mono ?_
    rintro e w6 ⟨⟨gv, wd6, rfl, hv6⟩, hb6⟩
    rw [HSET.out]
    obtain ⟨gs6, rfl, -, hwd6⟩ := setVal_list hv6
    rw [HSET.out] at hwd6 ⊢
    simp only [if_true] at hwd6 ⊢
    have hwd7 : wd6 = wW F pk := hwd6
    obtain ⟨wn, hwn⟩ : ∃ wn : Nat, wW F pk = (wn : Int) := ⟨(wW F pk).toNat, by omega⟩
    rw [hwn] at hwd7
    subst hwd7
    have HWN := Lib.hid hwn
    have hwn48 : wn ≤ 48 := by have := HHR.out.measure; omega
    have HE6 := Lib.hid (ext_trans hw5 hb6)
    clear hw5 hb6 hv6 hwd6 hwn hww
    go_wp2_with (fail)
    refine wpTl_nil ?_
    refine wpSt_name ?_
    intro w7 hw7
    refine wpSt_cons ?_
    simp only [picks, List.drop_succ_cons, List.drop_zero]
    repeat ((with_reducible refine wpQ0_step (fun K hK => ?_)); go_simp; ((with_reducible refine hK _ ?_); clear hK K))
    refine wpQ0_nil ?_
    repeat ((with_reducible refine wpQ2_step (fun K hK => ?_)); go_simp; first | ((with_reducible refine hK _ ?_); clear hK K) | (apply Exists.intro; refine ⟨fun x => ?_, hK _ ?_⟩; (fail); clear hK K))
    refine wpQ2_nil ?_
    intro w8 hw8
    refine wpTl_nil ?_
    refine wpSt_nil ?_
    subst hw7
    have HE8 := Lib.hid (ext_trans HE4.out (ext_trans HE6.out hw8))
    have b0 := Ext2.blk (ext_trans HE6.out hw8) b0
    have x9 := Ext2.blk (ext_trans HE6.out hw8) x9
    have c5 := (Below.cell (ext_trans HE6.out hw8) (cell_lt c5)).trans c5
    clear q0c q0f hw8
    have q0c := cell_blk b0
    have q0f := frz_blk b0
    go_wp2_with (fail)
    have HB8 := Lib.hid (below_ext HB1.out HE8.out)
    refine region_st [⟨[], [0, 1, 2, 3, 4, 5, 6, 7], [8]⟩, ⟨[], [9, 10, 11, 12, 13], []⟩] (by kernel_rfl) (by kernel_rfl) (by intro c a d v w h; cases d <;> exact h) ?_
    refine wpSt_cons ?_
    simp only [picks, List.drop_succ_cons, List.drop_zero]
    repeat ((with_reducible refine wpQ0_step (fun K hK => ?_)); go_simp; ((with_reducible refine hK _ ?_); clear hK K))
    refine wpQ0_nil ?_
    repeat ((with_reducible refine wpQ2_step (fun K hK => ?_)); go_simp; first | ((with_reducible refine hK _ ?_); clear hK K) | (apply Exists.intro; refine ⟨fun x => ?_, hK _ ?_⟩; (fail); clear hK K))
    refine wpQ2_nil ?_
    intro w9 hw9
    refine wpTl_cons ?_
    go_wp2_with (fail)
    refine (HPG.out _ pk (below_ext HB8.out hw9)).mono ?_
    intro e w10 hp10
    obtain ⟨sl2, pb2, rfl, hrow2, hpix2, hb10⟩ := pages_val hp10 HONE.out
    rw [HOPK.out, HN1.out] at hrow2 hpix2 ⊢
    have HE10 := Lib.hid (ext_trans hw9 hb10)
    obtain ⟨ab, aoff, haa, -⟩ := hrow2.row (by omega) (by omega)
    have h2lc := hrow2.le; have h2lm := hrow2.max
    obtain ⟨sa2, sc2⟩ := sl2
    dsimp only at haa h2lc h2lm
    subst haa
    have HR2 := Lib.hid hrow2; have HPX2 := Lib.hid (hpix2 0 (by omega))
    clear hw9 hb10 hrow2 hpix2 hp10
    go_wp2_with (fail)
    refine wpTl_nil ?_
    refine wpSt_name ?_
    intro w11 hw11
    refine wpSt_cons ?_
    simp only [picks, List.drop_succ_cons, List.drop_zero]
    repeat ((with_reducible refine wpQ0_step (fun K hK => ?_)); go_simp; ((with_reducible refine hK _ ?_); clear hK K))
    refine wpQ0_nil ?_
    repeat ((with_reducible refine wpQ2_step (fun K hK => ?_)); go_simp; first | ((with_reducible refine hK _ ?_); clear hK K) | (apply Exists.intro; refine ⟨fun x => ?_, hK _ ?_⟩; (fail); clear hK K))
    refine wpQ2_nil ?_
    intro w12 hw12
    refine wpTl_nil ?_
    refine wpSt_nil ?_
    subst hw11
    have HE812 := Lib.hid (ext_trans HE10.out hw12)
    have HE12 := Lib.hid (ext_trans HE8.out HE812.out)
    have b0 := Ext2.blk HE812.out b0
    have x9 := Ext2.blk HE812.out x9
    have c5 := (Below.cell HE812.out (cell_lt c5)).trans c5
    have HR12 := Lib.hid (RowS.below HR2.out hw12)
    have HPX12 := Lib.hid (PixAt.ext HPX2.out hw12)
    clear q0c q0f hw12
    have q0c := cell_blk b0
    have q0f := frz_blk b0
    obtain ⟨D, hD⟩ : ∃ D, D = (R.measure - (wn : Int)) / 2 := ⟨_, rfl⟩
    have HPL0 : Hid (∀ W, Ext2 w12 W → Calls Tryd.prog 40 #[.agg #[.int .i64 F.high, .int .i64 F.space, .slice s.g.a F.glyphs.length s.g.cap, .slice s.k.a F.kerns.length s.k.cap], .agg #[.int .i64 R.measure, .int .i64 R.lines, .int .i64 R.lead, .int .i64 R.short, .int .i64 R.extra, .int .i64 R.ink], .string pk, .int .i64 0] W fun e w' => e = .returned (.tuple #[.agg #[.int .i64 0, .int .i64 0, .int .i64 D], .int .i64 0]) ∧ Below W.heap.size W w') := Lib.hid fun W hW => by
      have h := HPC.out W pk 0 (by omega) (below_ext (below_ext HB1.out HE12.out) hW)
      have hv : placeV F R pk ((0 : Nat) : Int) = (⟨0, 0, D⟩, 0) := by
        unfold placeV
        rw [if_neg (not_not_intro HONE.out), HOPK.out, if_neg (by unfold inB; simp)]
        show (plS F R [pk] 0, (0 : Int)) = _
        rw [HPL1.out, HWN.out, hD]
      rw [hv] at h; exact h
    have hDr : 0 ≤ D ∧ D + wn ≤ R.measure := by have h1 := hfit; have h2 := HWN.out; omega
    have wMn : IntKind.i64.wrap (R.measure - (wn : Int)) = R.measure - (wn : Int) := IntWalk.i64_in _ (by have := HHR.out.measure; omega)
    have hDt : (R.measure - (wn : Int)).tdiv 2 = D := by rw [hD]; exact Int.tdiv_eq_ediv_of_nonneg (by have h1 := hfit; have h2 := HWN.out; omega)
    have wD : IntKind.i64.wrap D = D := IntWalk.i64_in _ (by have := HHR.out.measure; omega)
    have HDD := Lib.hid hD
    have hfw : lf + (wn : Int) ≤ R.measure ∧ 0 ≤ lf := by have h1 := HWN.out; rw [h1] at hfit; exact ⟨hfit.2, hfit.1⟩
    clear hD hfit
    go_wp2_with (fail)
    refine region_ev [] [0, 1, 2, 3, 4, 5, 6, 7, 8, 9, 10, 11] [(12, 15, some 13)] [14] (by kernel_rfl) (by kernel_rfl) (by intro c a d v w h; cases d <;> exact h) ?_
    simp only [picks, List.drop_succ_cons, List.drop_zero]
    repeat (refine wpQ0_step (fun K hK => ?_); go_simp; (refine hK _ ?_; clear hK K))
    refine wpQ0_nil ?_
    repeat ((with_reducible refine wpQ2_step (fun K hK => ?_)); go_simp; first | ((with_reducible refine hK _ ?_); clear hK K) | (apply Exists.intro; refine ⟨fun x => ?_, hK _ ?_⟩; ((with_reducible exact HPL0.out x.1 x.2)); clear hK K))
    refine wpQ2_nil ?_
    refine Events.fill1 (fun b => .pointer (some ⟨b, 0, none⟩)) (Obj.cells #[.int .i64 0, .int .i64 0, .int .i64 0] 76) (Obj.cells #[.int .i64 0, .int .i64 0, .int .i64 D] 76) ⟨_, rfl, rfl, rfl, fun W => by kernel_rfl⟩ ⟨_, rfl, rfl, rfl, fun b W hb => ?_⟩ fun b15 w13 hb15 hg13 nb15 => ?_
    · have hbc := cell_blk hb; have hbf := frz_blk hb; go_simp; exact turn_three hb _ _ _
    simp only [picks, List.drop_succ_cons, List.drop_zero]
    have HE13 := Lib.hid (ext_trans HE12.out hg13)
    have b0 := Ext2.blk hg13 b0
    have x9 := Ext2.blk hg13 x9
    have y9 := nb15
    have HR13 := Lib.hid (RowS.below HR12.out hg13)
    have HPX13 := Lib.hid (PixAt.ext HPX12.out hg13)
    have HNE : ∀ W : World, (binOp .neq 76 (.agg #[.int .i64 0, .int .i64 0, .int .i64 D]) (.agg #[.int .i64 0, .int .i64 0, .int .i64 D])).run Tryd.prog W = .ok (.bool false) W := fun W => run_neq_pl W 0 0 D
    obtain ⟨hn, hhn⟩ : ∃ hn : Nat, F.high = (hn : Int) := ⟨F.high.toNat, by have := HHK.out.high; omega⟩
    have hn16 : hn ≤ 16 := by have := HHK.out.high; omega
    have hhr := HHK.out.high; have hld := HHR.out.lead; have hms := HHR.out.measure
    have hidx : ∀ y c : Nat, y < hn → c < wn → 0 ≤ ln * (F.high + R.lead) ∧ ln * (F.high + R.lead) ≤ 312 ∧ 0 ≤ (ln * (F.high + R.lead) + y) * R.measure ∧ (ln * (F.high + R.lead) + y) * R.measure ≤ 20000 ∧ ∃ j : Nat, (j : Int) = (ln * (F.high + R.lead) + y) * R.measure + lf + c ∧ j < pixN F R := fun y c h1 h2 => by
      have h := idx_ok HHK.out HHR.out (p := ⟨pg, ln, lf⟩) hlnr (a := 0) (y := y) (x := c) (by omega) (by show 0 ≤ lf + 0; omega) (by show lf + 0 + (c : Int) < R.measure; omega)
      refine ⟨h.1, h.2.1, h.2.2.1, h.2.2.2.1, _, h.2.2.2.2.1.trans ?_, h.2.2.2.2.2⟩
      dsimp only; omega
    have hidx2 : ∀ y c : Nat, y < hn → c < wn → 0 ≤ (y : Int) * R.measure ∧ (y : Int) * R.measure ≤ 20000 ∧ ∃ n : Nat, (n : Int) = (y : Int) * R.measure + D + c ∧ n < pixN F R := fun y c h1 h2 => by
      have h := idx_ok HHK.out HHR.out (p := ⟨0, 0, D⟩) (by have := HHR.out.lines; exact ⟨Int.le_refl _, by show (0 : Int) < R.lines; omega⟩) (a := 0) (y := y) (x := c) (by omega) (by show 0 ≤ D + 0; omega) (by show D + 0 + (c : Int) < R.measure; omega)
      have e : (0 * (F.high + R.lead) + (y : Int)) * R.measure = (y : Int) * R.measure := by rw [Int.zero_mul, Int.zero_add]
      have h3 := h.2.2.1; have h4 := h.2.2.2.1; have h5 := h.2.2.2.2.1
      dsimp only at h3 h4 h5
      rw [e] at h3 h4 h5
      refine ⟨h3, h4, _, h5.trans ?_, h.2.2.2.2.2⟩
      omega
    have htop : 0 ≤ ln * (F.high + R.lead) ∧ ln * (F.high + R.lead) ≤ 312 := by
      have h := idx_ok HHK.out HHR.out (p := ⟨pg, ln, 0⟩) hlnr (a := 0) (y := 0) (x := 0) (by omega) (by show (0 : Int) ≤ 0 + 0; omega) (by show (0 : Int) + 0 + ((0 : Nat) : Int) < R.measure; omega)
      exact ⟨h.1, h.2.1⟩
    obtain ⟨HL, hHL⟩ : ∃ HL, HL = F.high + R.lead := ⟨_, rfl⟩
    have wHL : IntKind.i64.wrap (F.high + R.lead) = HL := by rw [hHL]; exact IntWalk.i64_in _ (by omega)
    obtain ⟨tp, htp⟩ : ∃ tp, tp = ln * HL := ⟨_, rfl⟩
    rw [← hHL, ← htp] at htop
    have wtp : IntKind.i64.wrap (ln * HL) = tp := by rw [← htp]; exact IntWalk.i64_in _ (by omega)
    have HIX := Lib.hid hidx; have HIX2 := Lib.hid hidx2; have HHL := Lib.hid hHL; have HTP := Lib.hid htp; have HHN := Lib.hid hhn
    have HB013 := Lib.hid b0; have HX913 := Lib.hid x9; have HY913 := Lib.hid y9
    clear q0c q0f c5 hg13 hidx hidx2 hHL htp nb15 hhn hhr hld
    have q0c := cell_blk b0
    have q0f := frz_blk b0
    have q9c := cell_blk x9
    have q9f := frz_blk x9
    have qyc := cell_blk y9
    have qyf := frz_blk y9
    go_wp2_with (fail)
    clear q0c q0f q9c q9f qyc qyf HNE wMn hDt wD wHL wtp
    go_loopw [18] (fun yv wr => ∃ y : Nat, yv = .int .i64 (y : Int) ∧ y ≤ hn ∧ Ext2 w13 wr) (fun yv _ => hn - (intOf yv).toNat)
    case atStart => exact ⟨0, rfl, Nat.zero_le _, Below.refl _ _⟩
    case round =>
      obtain ⟨y, rfl, hyh, hEr⟩ := hrel
      have HEr := Lib.hid hEr
      have b0 := Ext2.blk hEr HB013.out
      by_cases hlt : y < hn
      · go_light
        have y1 : (y : Int) < F.high := by rw [HHN.out]; omega
        have wy : IntKind.i64.wrap ((y : Int) + 1) = (y : Int) + 1 := IntWalk.i64_in _ (by omega)
        clear hEr
        have q0c := cell_blk b0
        have q0f := frz_blk b0
        go_wp2_with (fail)
        clear q0c q0f b0
        go_loopw [19] (fun cv wx => ∃ c : Nat, cv = .int .i64 (c : Int) ∧ c ≤ wn ∧ Ext2 w13 wx) (fun cv _ => wn - (intOf cv).toNat)
        case atStart => exact ⟨0, rfl, Nat.zero_le _, HEr.out⟩
        case round =>
          obtain ⟨c, rfl, hcn, hEx⟩ := hrel
          have HEx := Lib.hid hEx
          by_cases hlc2 : c < wn
          · go_light
            obtain ⟨-, -, i1, i2, j, hj, hjN⟩ := HIX.out y c hlt hlc2
            obtain ⟨i3, i4, n, hnn, hnN⟩ := HIX2.out y c hlt hlc2
            have hsm := HSAME.out y c j n (by rw [HHN.out]; omega) (by rw [HWN.out]; omega) (by rw [hj]; omega) (by rw [hnn, HDD.out, HWN.out]; omega)
            rw [← HHL.out, ← HTP.out] at i1 i2 hj
            obtain ⟨ty, hty⟩ : ∃ v, v = tp + (y : Int) := ⟨_, rfl⟩
            obtain ⟨a1, ha1⟩ : ∃ v, v = ty * R.measure := ⟨_, rfl⟩
            obtain ⟨b1, hb1⟩ : ∃ v, v = (y : Int) * R.measure := ⟨_, rfl⟩
            rw [← hty, ← ha1] at i1 i2 hj
            rw [← hb1] at i3 i4 hnn
            have v1 : IntKind.i64.wrap (tp + (y : Int)) = ty := by rw [hty]; exact IntWalk.i64_in _ (by omega)
            have v2 : IntKind.i64.wrap (ty * R.measure) = a1 := by rw [← ha1]; exact IntWalk.i64_in _ (by omega)
            have v3 : IntKind.i64.wrap (a1 + lf) = a1 + lf := IntWalk.i64_in _ (by omega)
            have v4 : IntKind.i64.wrap (a1 + lf + (c : Int)) = (j : Int) := by rw [← hj]; exact IntWalk.i64_in _ (by omega)
            have v5 : IntKind.i64.wrap ((y : Int) * R.measure) = b1 := by rw [← hb1]; exact IntWalk.i64_in _ (by omega)
            have v6 : IntKind.i64.wrap (b1 + D) = b1 + D := IntWalk.i64_in _ (by omega)
            have v7 : IntKind.i64.wrap (b1 + D + (c : Int)) = (n : Int) := by rw [← hnn]; exact IntWalk.i64_in _ (by omega)
            have c1 : (c : Int) < (wn : Int) := by omega
            have wc : IntKind.i64.wrap ((c : Int) + 1) = (c : Int) + 1 := IntWalk.i64_in _ (by omega)
            have j0 : ¬ (j : Int) < 0 := by omega
            have n0 : ¬ (n : Int) < 0 := by omega
            have j0' : (0 : Int) ≤ (j : Int) := by omega
            have n0' : (0 : Int) ≤ (n : Int) := by omega
            have j1 : (j : Int) < (pixN F R : Int) := by omega
            have n1 : (n : Int) < (pixN F R : Int) := by omega
            have j2 : ¬ pixN F R ≤ j := by omega
            have n2 : ¬ pixN F R ≤ n := by omega
            have j3 : decide ((pixN F R : Int) ≤ (j : Int)) = false := decide_eq_false (by omega)
            have n3 : decide ((pixN F R : Int) ≤ (n : Int)) = false := decide_eq_false (by omega)
            have hE1x := ext_trans HE13.out hEx
            obtain ⟨-, -, f2⟩ := fr_cells (RowS.below HROW.out hE1x) (i := pg) (by omega)
            have f3 := PixAt.at (PixAt.ext (HPIX.out pg (by omega)) hE1x) hjN
            obtain ⟨-, -, g2⟩ := fr_cells (RowS.below HR13.out hEx) (i := 0) (by omega)
            have g3 := PixAt.at (PixAt.ext HPX13.out hEx) hnN
            rw [Nat.zero_mul, Nat.add_zero] at g2
            have hv : (if j ∈ ptsK F R P pg P.length then R.ink else 0) = (if n ∈ ptsK F R [pk] 0 1 then R.ink else 0) := by simp only [hsm]
            rw [hv] at f3
            have g3 : wr.cell? ⟨pb2 0, n, none⟩ = some (.int .u8 (if n ∈ ptsK F R [pk] 0 1 then R.ink else 0)) := g3
            obtain ⟨v, hvv⟩ : ∃ v, v = (if n ∈ ptsK F R [pk] 0 1 then R.ink else 0) := ⟨_, rfl⟩
            rw [← hvv] at f3 g3
            have b0 := Ext2.blk hEx HB013.out
            have x9 := Ext2.blk hEx HX913.out
            have y9 := Ext2.blk hEx HY913.out
            clear hv hvv hsm hj hnn hty ha1 hb1 i1 i2 i3 i4 hE1x hEx hjN hnN
            have q0c := cell_blk b0
            have q0f := frz_blk b0
            have q9c := cell_blk x9
            have q9f := frz_blk x9
            have qyc := cell_blk y9
            have qyf := frz_blk y9
            go_wp2_with (fail)
            refine region_ev [] [0, 1, 2, 3, 4, 5, 6, 7, 8, 9, 10, 11, 12, 13, 14, 15, 16, 17, 18, 19, 20, 21, 22, 23] [] [] (by kernel_rfl) (by kernel_rfl) (by intro c a d v w h; cases d <;> exact h) ?_
            simp only [picks, List.drop_succ_cons, List.drop_zero]
            repeat (refine wpQ0_step (fun K hK => ?_); go_simp; (refine hK _ ?_; clear hK K))
            refine wpQ0_nil ?_
            repeat ((with_reducible refine wpQ2_step (fun K hK => ?_)); go_simp; first | ((with_reducible refine hK _ ?_); clear hK K) | (apply Exists.intro; refine ⟨fun x => ?_, hK _ ?_⟩; (fail); clear hK K))
            refine wpQ2_nil ?_
            refine Events.none_ fun w14 hg14 => ?_
            simp only [picks, List.drop_succ_cons, List.drop_zero]
            have HE14 := Lib.hid (ext_trans HEx.out hg14)
            have x9 := Ext2.blk hg14 x9
            have f2 := (Below.cell hg14 (cell_lt f2)).trans f2
            have f3 := (Below.cell hg14 (cell_lt f3)).trans f3
            have g2 := (Below.cell hg14 (cell_lt g2)).trans g2
            have g3 := (Below.cell hg14 (cell_lt g3)).trans g3
            clear q0c q0f q9c q9f qyc qyf b0 y9 hg14 v1 v2 v3 v4 v5 v6 v7
            have q9c := cell_blk x9
            have q9f := frz_blk x9
            go_wp2_with (fail)
            refine region_st [⟨[], [0, 1, 2, 3, 4, 5, 6, 7, 8, 9, 10, 11, 12, 13, 14, 15, 16, 17, 18, 19, 20, 21, 22, 23, 24, 25, 26, 27, 28, 29, 30, 31, 32, 33, 34, 35, 36, 37, 38, 39, 40, 41, 42, 43, 44], []⟩] (by kernel_rfl) (by kernel_rfl) (by intro c a d v w h; cases d <;> exact h) ?_
            refine wpSt_cons ?_
            simp only [picks, List.drop_succ_cons, List.drop_zero]
            repeat ((with_reducible refine wpQ0_step (fun K hK => ?_)); go_simp; ((with_reducible refine hK _ ?_); clear hK K))
            refine wpQ0_nil ?_
            repeat ((with_reducible refine wpQ2_step (fun K hK => ?_)); go_simp; first | ((with_reducible refine hK _ ?_); clear hK K) | (refine ite_undef (fun h => (by have h_ : (none : Option Bool) = some _ := h; cases h_)) ?_; (with_reducible refine hK _ ?_); clear hK K) | (apply Exists.intro; refine ⟨fun x => ?_, hK _ ?_⟩; (fail); clear hK K))
            (with_reducible refine wpQ2_nil ?_)
            intro w15 hw15
            refine wpTl_nil ?_
            refine wpSt_nil ?_
            have hE15 := ext_trans HE14.out hw15
            clear q9c q9f x9 f2 f3 g2 g3 hw15
            go_wp2_with (fail)
            go_roundw
            case rel => exact ⟨c + 1, by go_num, hlc2, hE15⟩
            case measure => simp [intOf]; omega
          · obtain rfl : c = wn := by omega
            have r8 : ¬ (c : Int) < (c : Int) := by omega
            clear hlc2 hEx
            go_wp2_with (fail)
            go_roundw
            case rel => exact ⟨y + 1, by go_num, hlt, HEx.out⟩
            case measure => simp [intOf]; omega
      · obtain rfl : y = hn := by omega
        have y1 : ¬ (y : Int) < F.high := by rw [HHN.out]; omega
        have HBr := Lib.hid (below_ext (below_ext HB1.out HE13.out) HEr.out)
        clear hlt hEr
        have q0c := cell_blk b0
        have q0f := frz_blk b0
        go_wp2_with (fail)
        (with_reducible refine (H5.out _ HBr.out).mono ?_)
        rintro e w16 ⟨rfl, hb16⟩
        have hB16 := below_ext HBr.out hb16
        clear hb16
        go_wp2_with (fail)
        go_ret
        exact ⟨rfl, hB16⟩
end Go.Proofs.YtahgbecfaihfpaaDoor
