/-
  The law TitleFurther, walked.
-/
import Derived.Test.YtahgbecfaihfpaaDoorTLawBr
import Derived.Test.YtahgbecfaihfpaaDoorTJoin
import Derived.Test.YtahgbecfaihfpaaDoorTWordsL
import Derived.Test.YtahgbecfaihfpaaDoorTLawOn
namespace Go.Proofs.YtahgbecfaihfpaaDoor
open Go.RowKit D
set_option linter.unusedVariables false
set_option linter.unusedSimpArgs false
attribute [local go_sem high] run_minI run_maxI
attribute [local go_sem] upon2 cls_cell cls_frozen forall_const exists_eq_left'
attribute [local go_sem] FirstUpon
attribute [local go_sem high] run_strs_from run_ints_from
set_option maxRecDepth 100000 in
set_option maxHeartbeats 4000000 in
theorem lawFurther_any {F : Font} {s : FSl} {R : Rul} {t : ByteArray} {many : Int} {w : World} (hF : FontAt w F s) (ht : t.size ≤ maxLen) (hy : 0 ≤ many ∧ many ≤ 255) (hm : MaxAt w) : Calls Tryd.prog 11 #[.agg #[.int .i64 F.high, .int .i64 F.space, .slice s.g.a F.glyphs.length s.g.cap, .slice s.k.a F.kerns.length s.k.cap, .int .i64 R.measure, .int .i64 R.lines, .int .i64 R.lead, .int .i64 R.short, .int .i64 R.extra, .int .i64 R.ink, .string t], .int .u8 many] w fun e w' => e = .returned (.bool true) ∧ Below w.heap.size w w' := by
  have HBK : Hid (∀ W u, Below w.heap.size w W → Calls Tryd.prog 33 #[.agg #[.int .i64 F.high, .int .i64 F.space, .slice s.g.a F.glyphs.length s.g.cap, .slice s.k.a F.kerns.length s.k.cap], .agg #[.int .i64 R.measure, .int .i64 R.lines, .int .i64 R.lead, .int .i64 R.short, .int .i64 R.extra, .int .i64 R.ink], .string u] W (BreakPost W F R u)) := Lib.hid fun W u hW => break_any (hF.below hW) (hm.below hW)
  have HRE : Hid (∀ W u, Below w.heap.size w W → Calls Tryd.prog 25 #[.agg #[.int .i64 F.high, .int .i64 F.space, .slice s.g.a F.glyphs.length s.g.cap, .slice s.k.a F.kerns.length s.k.cap], .agg #[.int .i64 R.measure, .int .i64 R.lines, .int .i64 R.lead, .int .i64 R.short, .int .i64 R.extra, .int .i64 R.ink], .string u] W (RestPost W F R u)) := Lib.hid fun W u hW => rest_any (hF.below hW) (hm.below hW)
  have H5 : Hid (∀ W, Below w.heap.size w W → Calls Tryd.prog 20 #[] W fun e w' => e = .returned (.bool true) ∧ Below W.heap.size W w') := Lib.hid fun W hW => awake_any (hm.below hW)
  obtain ⟨x, hx⟩ : ∃ x, x = openE F R t := ⟨_, rfl⟩
  have HX := Lib.hid hx
  obtain ⟨mn, rfl⟩ : ∃ mn : Nat, many = (mn : Int) := ⟨many.toNat, by omega⟩
  have hy2 : mn ≤ 255 := by omega
  clear hF hm hx hy
  go_enter Tryd.func11, Tryd.ntmps11
  go_wp2_with (fail)
  (with_reducible refine (HBK.out _ _ ?_).mono ?_)
  · repeat' (first | exact Below.refl _ _ | assumption | refine below_drewN ?_ _ | refine Below.drew ?_ | refine Below.alloc ?_ (by first | assumption | omega | (simp <;> omega)) _ | refine Below.setCell ?_ (by first | assumption | omega | (simp <;> omega)) _ | refine Ext2.on (by assumption) ?_)
  rintro e w1 ⟨⟨v1, rfl, hv1⟩, hb1⟩
  rw [← HX.out] at hv1 ⊢
  have hB1 : Below w.heap.size w w1 := Below.trans (by repeat' (first | exact Below.refl _ _ | assumption | refine below_drewN ?_ _ | refine Below.drew ?_ | refine Below.alloc ?_ (by first | assumption | omega | (simp <;> omega)) _ | refine Below.setCell ?_ (by first | assumption | omega | (simp <;> omega)) _ | refine Ext2.on (by assumption) ?_)) (hb1.mono (by simp))
  have b0 : w1.heap[w.heap.size]? = some (Obj.cells #[.int .i64 F.high, .int .i64 F.space, .slice s.g.a F.glyphs.length s.g.cap, .slice s.k.a F.kerns.length s.k.cap, .int .i64 R.measure, .int .i64 R.lines, .int .i64 R.lead, .int .i64 R.short, .int .i64 R.extra, .int .i64 R.ink, .string t] 36) := below_blk hb1 (by repeat' (first | (with_reducible assumption) | (with_reducible refine blk_set_ne ?_ ?_) | (with_reducible exact blk_new _ _) | (with_reducible refine blk_new' _ _ (by first | (with_reducible rfl) | (simp; done) | (simp <;> omega))) | (with_reducible refine blk_alloc ?_ _) | (with_reducible refine blk_drew ?_) | (with_reducible refine blk_drewN ?_ _) | (with_reducible refine Ext2.blk (by assumption) ?_) | omega | (simp <;> omega) | exact blk_set (by assumption) _ _)) (by simp)
  have HB1 := Lib.hid hB1
  clear hb1 hB1
  have q0c := cell_blk b0
  have q0f := frz_blk b0
  go_wp2_with (fail)
  (with_reducible refine (HRE.out _ _ HB1.out).mono ?_)
  rintro e w2 ⟨⟨v2, rfl, hv2⟩, hb2⟩
  rw [← HX.out] at hv2 ⊢
  have HB2 := Lib.hid (below_ext HB1.out hb2)
  have b0 := Ext2.blk hb2 b0
  have HE12 := Lib.hid (show Ext2 w1 w2 from hb2)
  clear q0c q0f hb2
  by_cases h0 : x = 0
  case neg =>
    rw [if_neg h0] at hv1 hv2
    subst hv1 hv2
    have e1 : (x != 0) = true := by simp [h0]
    clear h0
    go_wp2_with (fail)
    (with_reducible refine (H5.out _ HB2.out).mono ?_)
    rintro e w3 ⟨rfl, hb3⟩
    have hB3 := below_ext HB2.out hb3
    clear hb3
    go_wp2_with (fail)
    go_ret
    exact ⟨rfl, hB3⟩
  case pos =>
    rw [if_pos h0] at hv1 hv2
    subst h0
    obtain ⟨hk, hr, htx⟩ := open_ok HX.out.symm
    have hsm := text_small HX.out.symm
    have HWO := Lib.hid (wordsL_any (t := t) (w := w2) hsm)
    have hod : ∀ f, f < (partsS t).length → openE F R (joinS ((partsS t).drop f)) = 0 := fun f hf => open_drop HX.out.symm hf
    obtain ⟨P, hP⟩ : ∃ P, P = partsS t := ⟨_, rfl⟩
    rw [← hP] at hv1 hv2 htx HWO hod
    obtain ⟨sl, rfl, hl⟩ := hv1
    obtain ⟨sr, rfl, hrs⟩ := hv2
    have hl := hl.below HE12.out
    have hlc := hl.le; have hlm := hl.max
    have hrc := hrs.1.le; have hrm := hrs.1.max
    have hln := lines_ok htx
    have hn40 := htx.n40; have hn1 := htx.n1
    rw [breaks_len] at hlc
    rw [rest_len] at hrc
    obtain ⟨k, hkx⟩ : ∃ k, k = mn % nLines F R P := ⟨_, rfl⟩
    have hkN : k < nLines F R P := by rw [hkx]; exact Nat.mod_lt _ (by omega)
    have hbk := brk_lt htx hkN
    have hod := hod _ hbk.2.2
    have hdr := drop_ok htx hbk.2.2
    have hpj := parts_join hdr
    have hnd := nLines_drop htx hkN
    have hrd := restL_drop htx hbk.2.2
    have hld := fun j (hj : j < nLines F R P - k) => lin_drop htx hkN hj
    have hdl : (P.drop (brk F R P k)).length = P.length - brk F R P k := List.length_drop ..
    have hcA := fun W (hW : Ext2 w2 W) (i : Nat) (hi : i < nLines F R P) => line_cells4 (l := breaksL F R P) (s := sl) (w := W) (i := i) (by exact hl.below hW) (by rw [breaks_len]; exact hi)
    have hbr : ∀ i, i ≤ nLines F R P → brk F R P i ≤ P.length := fun i _ => brk_le htx i
    have hszd : ∀ i, i < (P.drop (brk F R P k)).length → (strD (P.drop (brk F R P k)) i).size ≤ 24 := hdr.size
    obtain ⟨Pd, hPd⟩ : ∃ Pd, Pd = P.drop (brk F R P k) := ⟨_, rfl⟩
    rw [← hPd] at hod hdr hpj hnd hrd hld hdl hszd
    obtain ⟨B, hB⟩ : ∃ B, B = brk F R P k := ⟨_, rfl⟩
    have hlk : (linS F R P k).from_ = (B : Int) := by rw [hB]; rfl
    rw [← hB] at hbk hrd hld hdl hPd
    have hba := breaks_at F R P hkN
    obtain ⟨lb, loff, hla, c0, -⟩ := hcA _ (Below.refl _ _) k hkN
    rw [hba, hlk] at c0
    obtain ⟨sa, sc⟩ := sl
    dsimp only at hla hlc hlm
    subst hla
    rw [breaks_len, show (restL F R P).length = P.length + 1 from rest_len F R P]
    have hq2 : (mn : Int).tmod (nLines F R P : Int) = (k : Int) := by rw [Int.tmod_eq_emod_of_nonneg (by omega), hkx]; exact (Int.natCast_emod _ _).symm
    obtain ⟨N, hN⟩ : ∃ N, N = nLines F R P := ⟨_, rfl⟩
    rw [← hN] at hlc hln hkN hnd hld hq2 ⊢
    have HCA := Lib.hid hcA; have HRS := Lib.hid hrs; have HOD := Lib.hid hod; have HPJ := Lib.hid hpj; have HND := Lib.hid hnd; have HRD := Lib.hid hrd; have HLD := Lib.hid hld; have HDL := Lib.hid hdl; have HPD := Lib.hid hPd; have HN := Lib.hid hN; have HTX := Lib.hid htx; have HKX := Lib.hid hkx; have HBB := Lib.hid hB; have HSZ := Lib.hid hszd; have HDR := Lib.hid hdr
    have hN40 : N ≤ 40 := by omega
    have e1 : ((N : Int) == 0) = false := by simp; omega
    have e2 : ¬ (N : Int) = 0 := by omega
    have wl : IntKind.i64.wrap ((P.length : Int) + 1) = (P.length : Int) + 1 := IntWalk.i64_in _ (by omega)
    have wk : IntKind.i64.wrap (k : Int) = (k : Int) := IntWalk.i64_in _ (by omega)
    have wmn : IntKind.i64.wrap (mn : Int) = (mn : Int) := IntWalk.i64_in _ (by omega)
    have k0 : (0 : Int) ≤ (k : Int) := by omega
    have k1 : (k : Int) < (N : Int) := by omega
    have f0 : ¬ (B : Int) < 0 := by omega
    have f1 : ¬ (B : Int) ≥ (P.length : Int) := by omega
    have f2 : ¬ (P.length : Int) ≤ (B : Int) := by omega
    have f3 : B ≤ P.length := by omega
    have f4 : B ≤ P.length + 1 := by omega
    clear hk hr htx hln hl hrs hod hpj hnd hrd hld hdl hPd hN hkx hB hcA hbr hszd hdr hba hlk hP hsm
    have q0c := cell_blk b0
    have q0f := frz_blk b0
    go_wp2_with (fail)
    refine HWO.out.mono ?_
    rintro e w3 ⟨⟨s2, rfl, hs2⟩, hb3⟩
    have HB3 := Lib.hid (below_ext HB2.out hb3)
    have HE3 := Lib.hid (show Ext2 w2 w3 from hb3)
    have b0 := Ext2.blk hb3 b0
    have c0 := (Below.cell hb3 (cell_lt c0)).trans c0
    have h2c := hs2.le; have h2m := hs2.max
    have HS2 := Lib.hid hs2
    clear hb3 q0c q0f hs2
    have q0c := cell_blk b0
    have q0f := frz_blk b0
    go_wp2_with (fail)
    have HJN : Hid (∀ W, Ext2 w3 W → Calls Tryd.prog 37 #[.slice (dropA s2.a s2.cap B 1) (P.length - B) (s2.cap - B)] W fun e w' => e = .returned (.string (joinS Pd)) ∧ Below W.heap.size W w') := Lib.hid fun W hW => by
      have h := joinL_any (s := ⟨dropA s2.a s2.cap B 1, s2.cap - B⟩) (Q := Pd) (by rw [HPD.out]; exact strs_drop (RowS.below HS2.out hW) f3) HSZ.out (by rw [HDL.out]; omega) (by rw [HDL.out]; omega)
      rw [HDL.out] at h; exact h
    obtain ⟨u, hu⟩ : ∃ u, u = joinS Pd := ⟨_, rfl⟩
    have hou : openE F R u = 0 := by rw [hu]; exact HOD.out
    have hpu : partsS u = Pd := by rw [hu]; exact HPJ.out
    rw [← hu] at HJN
    have HOU := Lib.hid hou; have HPU := Lib.hid hpu
    clear hu hou hpu
    obtain ⟨M, hM⟩ : ∃ M, N = k + M := ⟨N - k, by omega⟩
    have wNk : IntKind.i64.wrap ((N : Int) - (k : Int)) = (M : Int) := by rw [IntWalk.i64_in _ (by omega)]; omega
    have HMM := Lib.hid hM
    clear hM
    refine region_st [⟨[], [0, 1, 2, 3, 4, 5, 6, 7], [8]⟩, ⟨[], [9, 10, 11, 12, 13], []⟩] (by kernel_rfl) (by kernel_rfl) (by intro c a d v w h; cases d <;> exact h) ?_
    refine wpSt_cons ?_
    simp only [picks, List.drop_succ_cons, List.drop_zero]
    repeat ((with_reducible refine wpQ0_step (fun K hK => ?_)); go_simp; ((with_reducible refine hK _ ?_); clear hK K))
    refine wpQ0_nil ?_
    repeat ((with_reducible refine wpQ2_step (fun K hK => ?_)); go_simp; first | ((with_reducible refine hK _ ?_); clear hK K) | (apply Exists.intro; refine ⟨fun x => ?_, hK _ ?_⟩; ((with_reducible exact HJN.out x.1 x.2)); clear hK K))
    refine wpQ2_nil ?_
    intro w4 hw4
    refine wpTl_cons ?_
    go_wp2_with (fail)
    refine (HBK.out _ u (below_ext HB3.out hw4)).mono ?_
    rintro e w5 ⟨⟨v5, rfl, hv5⟩, hb5⟩
    rw [HOU.out] at hv5 ⊢
    rw [if_pos rfl, HPU.out] at hv5
    obtain ⟨sm, rfl, hm5⟩ := hv5
    have hml : (breaksL F R Pd).length = M := by rw [breaks_len, HND.out]; have := HMM.out; omega
    have hmc := hm5.le; have hmm := hm5.max
    rw [hml] at hmc ⊢
    have HM5 := Lib.hid hm5; have HML := Lib.hid hml
    have HE5 := Lib.hid (ext_trans hw4 hb5)
    clear hw4 hb5 hm5 hml
    go_wp2_with (fail)
    refine wpTl_nil ?_
    refine wpSt_name ?_
    intro w6 hw6
    refine wpSt_cons ?_
    simp only [picks, List.drop_succ_cons, List.drop_zero]
    repeat ((with_reducible refine wpQ0_step (fun K hK => ?_)); go_simp; ((with_reducible refine hK _ ?_); clear hK K))
    refine wpQ0_nil ?_
    repeat ((with_reducible refine wpQ2_step (fun K hK => ?_)); go_simp; first | ((with_reducible refine hK _ ?_); clear hK K) | (apply Exists.intro; refine ⟨fun x => ?_, hK _ ?_⟩; (fail); clear hK K))
    refine wpQ2_nil ?_
    intro w7 hw7
    refine wpTl_nil ?_
    refine wpSt_nil ?_
    subst hw6
    have HE7 := Lib.hid (ext_trans HE5.out hw7)
    have b0 := Ext2.blk HE7.out b0
    have HE57 := Lib.hid hw7
    clear q0c q0f hw7 c0
    have q0c := cell_blk b0
    have q0f := frz_blk b0
    go_wp2_with (fail)
    have HJN2 : Hid (∀ W, Ext2 w7 W → Calls Tryd.prog 37 #[.slice (dropA s2.a s2.cap B 1) (P.length - B) (s2.cap - B)] W fun e w' => e = .returned (.string u) ∧ Below W.heap.size W w') := Lib.hid fun W hW => HJN.out W (ext_trans HE7.out hW)
    have HB7 := Lib.hid (below_ext HB3.out HE7.out)
    refine region_st [⟨[], [0, 1, 2, 3, 4, 5, 6, 7], [8]⟩, ⟨[], [9, 10, 11, 12, 13], []⟩] (by kernel_rfl) (by kernel_rfl) (by intro c a d v w h; cases d <;> exact h) ?_
    refine wpSt_cons ?_
    simp only [picks, List.drop_succ_cons, List.drop_zero]
    repeat ((with_reducible refine wpQ0_step (fun K hK => ?_)); go_simp; ((with_reducible refine hK _ ?_); clear hK K))
    refine wpQ0_nil ?_
    repeat ((with_reducible refine wpQ2_step (fun K hK => ?_)); go_simp; first | ((with_reducible refine hK _ ?_); clear hK K) | (apply Exists.intro; refine ⟨fun x => ?_, hK _ ?_⟩; ((with_reducible exact HJN2.out x.1 x.2)); clear hK K))
    refine wpQ2_nil ?_
    intro w8 hw8
    refine wpTl_cons ?_
    go_wp2_with (fail)
    refine (HRE.out _ u (below_ext HB7.out hw8)).mono ?_
    rintro e w9 ⟨⟨v9, rfl, hv9⟩, hb9⟩
    rw [HOU.out] at hv9 ⊢
    rw [if_pos rfl, HPU.out] at hv9
    obtain ⟨sq, rfl, hq9, -⟩ := hv9
    obtain ⟨q, hq⟩ : ∃ q, q = (restL F R Pd).length := ⟨_, rfl⟩
    have hqc := hq9.le; have hqm := hq9.max
    rw [← hq] at hqc ⊢
    have HQ9 := Lib.hid hq9; have HQ := Lib.hid hq
    have HE9 := Lib.hid (ext_trans hw8 hb9)
    clear hw8 hb9 hq9 hq
    go_wp2_with (fail)
    refine wpTl_nil ?_
    refine wpSt_name ?_
    intro w10 hw10
    refine wpSt_cons ?_
    simp only [picks, List.drop_succ_cons, List.drop_zero]
    repeat ((with_reducible refine wpQ0_step (fun K hK => ?_)); go_simp; ((with_reducible refine hK _ ?_); clear hK K))
    refine wpQ0_nil ?_
    repeat ((with_reducible refine wpQ2_step (fun K hK => ?_)); go_simp; first | ((with_reducible refine hK _ ?_); clear hK K) | (apply Exists.intro; refine ⟨fun x => ?_, hK _ ?_⟩; (fail); clear hK K))
    refine wpQ2_nil ?_
    intro w11 hw11
    refine wpTl_nil ?_
    refine wpSt_nil ?_
    subst hw10
    have HE711 := Lib.hid (ext_trans HE9.out hw11)
    have HE11 := Lib.hid (ext_trans HE7.out HE711.out)
    have HQ11 := Lib.hid (RowS.below HQ9.out hw11)
    have HB11 := Lib.hid (below_ext HB3.out HE11.out)
    have HIC : Hid (Calls Tryd.prog 19 #[.slice sq.a q sq.cap, .slice (dropA sr.a sr.cap B 1) (P.length + 1 - B) (sr.cap - B)] w11 fun e w' => e = .returned (.bool true) ∧ Below w11.heap.size w11 w') := Lib.hid (by
      have h1 := RowS.below (RowS.below HRS.out.1 HE3.out) HE11.out
      have h2 := ints_drop (m := B) h1 (by rw [rest_len]; exact f4)
      have h3 := intsR_any HQ11.out h2
      rw [List.length_drop, show (restL F R P).length = P.length + 1 from rest_len F R P, ← HQ.out, decide_eq_true HRD.out] at h3
      exact h3)
    clear q0c q0f b0 hw11
    go_wp2_with (fail)
    refine HIC.out.mono ?_
    rintro e w12 ⟨rfl, hb12⟩
    have HE712 := Lib.hid (ext_trans HE711.out hb12)
    have HB12 := Lib.hid (below_ext HB11.out hb12)
    have HM12 := Lib.hid (RowS.below (RowS.below HM5.out HE57.out) HE712.out)
    have HE12b := Lib.hid (ext_trans HE3.out (ext_trans HE11.out hb12))
    obtain ⟨mb, moff, hma, -⟩ := line_cells4 HM12.out (i := 0) (by rw [HML.out]; have := HMM.out; omega)
    obtain ⟨ma, mc⟩ := sm
    dsimp only at hma hmc hmm
    subst hma
    dsimp only
    clear hb12
    go_wp2_with (fail)
    go_loopw [14] (fun i wr => ∃ j : Nat, i = .int .i64 (j : Int) ∧ j ≤ M ∧ Ext2 w12 wr) (fun i _ => M - (intOf i).toNat)
    case atStart => exact ⟨0, rfl, Nat.zero_le _, Below.refl _ _⟩
    case round =>
      obtain ⟨j, rfl, hj, hEr⟩ := hrel
      have HEr := Lib.hid hEr
      have hBr := below_ext HB12.out hEr
      by_cases hlt : j < M
      · go_light
        obtain ⟨_, _, h3, m0, m1, m2, m3⟩ := line_cells4 (RowS.below HM12.out hEr) (i := j) (by rw [HML.out]; exact hlt)
        obtain ⟨rfl, rfl⟩ : mb = _ ∧ moff = _ := by simpa using h3
        obtain ⟨m, hm⟩ : ∃ m, m = k + j := ⟨_, rfl⟩
        have hmN : m < N := by have := HMM.out; omega
        obtain ⟨_, _, h4, a0, a1, a2, a3⟩ := HCA.out wr (ext_trans HE12b.out hEr) m (by rw [← HN.out]; exact hmN)
        obtain ⟨rfl, rfl⟩ : lb = _ ∧ loff = _ := by simpa using h4
        have hld := HLD.out j (by have := HMM.out; omega)
        rw [← hm] at hld
        rw [breaks_at F R Pd (by rw [← breaks_len, HML.out]; exact hlt)] at m0 m1 m2 m3
        rw [breaks_at F R P (by rw [← HN.out]; exact hmN)] at a0 a1 a2 a3
        rw [← hld.1] at a0
        rw [← hld.2.1] at a1
        rw [← hld.2.2.1] at a2
        rw [← hld.2.2.2] at a3
        have hr0 : 0 ≤ (linS F R Pd j).from_ ∧ (linS F R Pd j).from_ ≤ 40 := by
          have h1 := brk_le HDR.out j
          have h2 := HDL.out
          show 0 ≤ (brk F R Pd j : Int) ∧ (brk F R Pd j : Int) ≤ 40
          omega
        have hr1 : 0 ≤ (linS F R Pd j).until_ ∧ (linS F R Pd j).until_ ≤ 40 := by
          have h1 := brk_le HDR.out (j + 1)
          have h2 := HDL.out
          show 0 ≤ (brk F R Pd (j + 1) : Int) ∧ (brk F R Pd (j + 1) : Int) ≤ 40
          omega
        obtain ⟨⟨x0, x1, x2, x3⟩, hx⟩ : ∃ x, x = linS F R Pd j := ⟨_, rfl⟩
        rw [← hx] at m0 m1 m2 m3 a0 a1 a2 a3 hr0 hr1
        dsimp only at m0 m1 m2 m3 a0 a1 a2 a3 hr0 hr1
        have hkj : IntKind.i64.wrap ((k : Int) + (j : Int)) = (m : Int) := by rw [IntWalk.i64_in _ (by omega)]; omega
        have hw0 : IntKind.i64.wrap (x0 + (B : Int)) = x0 + (B : Int) := IntWalk.i64_in _ (by omega)
        have hw1 : IntKind.i64.wrap (x1 + (B : Int)) = x1 + (B : Int) := IntWalk.i64_in _ (by omega)
        have j0 : (0 : Int) ≤ (j : Int) := by omega
        have j1 : (j : Int) < (M : Int) := by omega
        have m0' : (0 : Int) ≤ (m : Int) := by omega
        have m1' : (m : Int) < (N : Int) := by omega
        have w3' : IntKind.i64.wrap ((j : Int) + 1) = (j : Int) + 1 := IntWalk.i64_in _ (by omega)
        clear h3 h4 hld hx hm hr0 hr1 hmN hEr
        go_wp2_with (fail)
        refine wp_name ?_
        intro w13 h13
        obtain ⟨yb, hyb⟩ : ∃ b, b = wr.heap.size := ⟨_, rfl⟩
        have hE13 : Ext2 wr w13 := by rw [h13]; exact below_alloc' _ _
        have y9 : w13.heap[yb]? = some (Obj.cells #[.int .i64 (x0 + (B : Int)), .int .i64 (x1 + (B : Int)), .int .i64 x2, .int .i64 x3] 71) := by rw [h13, hyb]; exact blk_new _ _
        have a0 := (Below.cell hE13 (cell_lt a0)).trans a0
        have a1 := (Below.cell hE13 (cell_lt a1)).trans a1
        have a2 := (Below.cell hE13 (cell_lt a2)).trans a2
        have a3 := (Below.cell hE13 (cell_lt a3)).trans a3
        have HE13 := Lib.hid (ext_trans HEr.out hE13)
        have HNE : ∀ W : World, (binOp .neq 71 (.agg #[.int .i64 (x0 + (B : Int)), .int .i64 (x1 + (B : Int)), .int .i64 x2, .int .i64 x3]) (.agg #[.int .i64 (x0 + (B : Int)), .int .i64 (x1 + (B : Int)), .int .i64 x2, .int .i64 x3])).run Tryd.prog W = .ok (.bool false) W := fun W => by rw [run_neq_ln]; simp
        rw [← hyb]
        clear h13 hyb hE13 m0 m1 m2 m3 hw0 hw1
        have qyc := cell_blk y9
        have qyf := frz_blk y9
        refine region_ev [] [0, 1, 2, 3, 4, 5, 6, 7] [] [] (by kernel_rfl) (by kernel_rfl) (by intro c a d v w h; cases d <;> exact h) ?_
        simp only [picks, List.drop_succ_cons, List.drop_zero]
        repeat (refine wpQ0_step (fun K hK => ?_); go_simp; (refine hK _ ?_; clear hK K))
        refine wpQ0_nil ?_
        repeat ((with_reducible refine wpQ2_step (fun K hK => ?_)); go_simp; first | ((with_reducible refine hK _ ?_); clear hK K) | (apply Exists.intro; refine ⟨fun x => ?_, hK _ ?_⟩; (fail); clear hK K))
        refine wpQ2_nil ?_
        refine Events.none_ fun w14 hg14 => ?_
        simp only [picks, List.drop_succ_cons, List.drop_zero]
        have hE14 := ext_trans HE13.out hg14
        clear qyc qyf y9 a0 a1 a2 a3 hg14 HNE
        go_wp2_with (fail)
        go_roundw
        case rel => exact ⟨j + 1, by go_num, hlt, hE14⟩
        case measure => simp [intOf]; omega
      · obtain rfl : j = M := by omega
        have r1 : ¬ (j : Int) < (j : Int) := by omega
        have HBr := Lib.hid hBr
        clear hlt hEr hBr
        go_wp2_with (fail)
        (with_reducible refine (H5.out _ HBr.out).mono ?_)
        rintro e w15 ⟨rfl, hb15⟩
        have hB15 := below_ext HBr.out hb15
        clear hb15
        go_wp2_with (fail)
        go_ret
        exact ⟨rfl, hB15⟩
end Go.Proofs.YtahgbecfaihfpaaDoor
