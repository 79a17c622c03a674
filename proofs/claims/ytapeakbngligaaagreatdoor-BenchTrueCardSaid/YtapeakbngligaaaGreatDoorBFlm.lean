/-
  film.size, whole, Check.
  bench.strange, bench.Check.
-/
import Derived.Test.YtapeakbngligaaaGreatDoorBView
import Derived.Test.YtapeakbngligaaaGreatDoorBNam2
import Derived.Test.YtapeakbngligaaaGreatDoorBCut
namespace Go.Proofs.YtapeakbngligaaaGreatDoor
open Go.RowKit D
set_option linter.unusedVariables false
set_option linter.unusedSimpArgs false
attribute [local go_sem high] run_minI run_maxI
attribute [local go_sem] upon2 cls_cell cls_frozen forall_const exists_eq_left'
attribute [local go_sem] FirstUpon
def longV (g : Int) : Int := if g = 35 then 19000 else if g = 16 then 7620 else if g = 8 then 3810 else 0
set_option maxRecDepth 100000 in
set_option maxHeartbeats 2000000 in
theorem size_any (g : Int) (w : World) : Calls Tryz.prog 114 #[.int .i64 g] w fun e w' => e = .returned (.tuple #[.int .i64 (footV g), .int .i64 (longV g)]) ∧ Below w.heap.size w w' := by
  by_cases h8 : g = 8
  · subst h8
    go_enter Tryz.func114, Tryz.ntmps114
    go_wp2_with (fail)
    go_region
    all_goals go_wp2_with (fail)
    all_goals go_ret2
    all_goals exact ⟨rfl, by repeat' (first | exact Below.refl _ _ | assumption | refine below_drewN ?_ _ | refine Below.drew ?_ | refine Below.alloc ?_ (by first | assumption | omega | (simp <;> omega)) _ | refine Below.setCell ?_ (by first | assumption | omega | (simp <;> omega)) _ | refine Ext2.on (by assumption) ?_)⟩
  · by_cases h16 : g = 16
    · subst h16
      go_enter Tryz.func114, Tryz.ntmps114
      go_wp2_with (fail)
      go_region
      all_goals go_wp2_with (fail)
      all_goals go_ret2
      all_goals exact ⟨rfl, by repeat' (first | exact Below.refl _ _ | assumption | refine below_drewN ?_ _ | refine Below.drew ?_ | refine Below.alloc ?_ (by first | assumption | omega | (simp <;> omega)) _ | refine Below.setCell ?_ (by first | assumption | omega | (simp <;> omega)) _ | refine Ext2.on (by assumption) ?_)⟩
    · by_cases h35 : g = 35
      · subst h35
        go_enter Tryz.func114, Tryz.ntmps114
        go_wp2_with (fail)
        go_ret2
        exact ⟨rfl, by repeat' (first | exact Below.refl _ _ | assumption | refine below_drewN ?_ _ | refine Below.drew ?_ | refine Below.alloc ?_ (by first | assumption | omega | (simp <;> omega)) _ | refine Below.setCell ?_ (by first | assumption | omega | (simp <;> omega)) _ | refine Ext2.on (by assumption) ?_)⟩
      · have e1 : footV g = 0 := by unfold footV; simp [h8, h16, h35]
        have e2 : longV g = 0 := by unfold longV; simp [h8, h16, h35]
        rw [e1, e2]
        have f8 : (g == 8) = false := by simpa using h8
        have f16 : (g == 16) = false := by simpa using h16
        have f35 : (g == 35) = false := by simpa using h35
        clear e1 e2
        go_enter Tryz.func114, Tryz.ntmps114
        go_wp2_with (fail)
        go_ret2
        exact ⟨rfl, by repeat' (first | exact Below.refl _ _ | assumption | refine below_drewN ?_ _ | refine Below.drew ?_ | refine Below.alloc ?_ (by first | assumption | omega | (simp <;> omega)) _ | refine Below.setCell ?_ (by first | assumption | omega | (simp <;> omega)) _ | refine Ext2.on (by assumption) ?_)⟩
theorem or_first2 {a b : Bool} (h : (a || b) = true) : a = true ∨ (a = false ∧ b = true) := by cases a <;> simp_all
theorem or_first3 {a b c : Bool} (h : (a || b || c) = true) : a = true ∨ (a = false ∧ b = true) ∨ (a = false ∧ b = false ∧ c = true) := by cases a <;> cases b <;> simp_all
theorem or_first4 {a b c d : Bool} (h : (a || b || c || d) = true) : a = true ∨ (a = false ∧ b = true) ∨ (a = false ∧ b = false ∧ c = true) ∨ (a = false ∧ b = false ∧ c = false ∧ d = true) := by cases a <;> cases b <;> cases c <;> simp_all
theorem or_none4 {a b c d : Bool} (h : (a || b || c || d) = false) : a = false ∧ b = false ∧ c = false ∧ d = false := by cases a <;> cases b <;> cases c <;> simp_all
theorem or_none3 {a b c : Bool} (h : (a || b || c) = false) : a = false ∧ b = false ∧ c = false := by cases a <;> cases b <;> simp_all
theorem or_none2 {a b : Bool} (h : (a || b) = false) : a = false ∧ b = false := by cases a <;> simp_all
theorem fout_hid {n lo hi : Int} {v : Bool} (h : v = !inB n lo hi) : Hid (∀ W, Calls Tryz.prog 79 #[.int .i64 n, .int .i64 lo, .int .i64 hi] W fun e w' => e = .returned (.bool v) ∧ W = w') := Lib.hid fun W => by rw [h, ← outB_in]; exact fout_any _ _ _ W
theorem out_hid {n lo hi : Int} {v : Bool} (h : v = !inB n lo hi) : Hid (∀ W, Calls Tryz.prog 30 #[.int .i64 n, .int .i64 lo, .int .i64 hi] W fun e w' => e = .returned (.bool v) ∧ W = w') := Lib.hid fun W => by rw [h, ← outB_in]; exact out_any _ _ _ W
set_option maxRecDepth 100000 in
set_option maxHeartbeats 8000000 in
theorem whole_any {R : Reel} {r : RSl} {w : World} (hR : ReelAt w R r) (hm : MaxAt w) : Calls Tryz.prog 87 #[.agg #[.string R.name, .int .i64 R.gauge, .int .i64 R.base, .int .i64 R.frames, .int .i64 R.ylo, .int .i64 R.yhi, .int .i64 R.keep, .slice r.m.a R.marks.length r.m.cap, .slice r.s.a R.syms.length r.s.cap, .slice r.l.a R.lens.length r.l.cap]] w fun e w' => e = .returned (.int .i64 (selfV R)) ∧ Below w.heap.size w w' := by
  have HN := Lib.hid fun (W : World) (hW : Ext2 w W) => nameP_any hR.size (hm.below hW)
  obtain ⟨E, hE⟩ : ∃ E, E = selfV R := ⟨_, rfl⟩
  rw [← hE]
  unfold selfV at hE
  obtain ⟨v0, hv0⟩ : ∃ v, v = okName R.name := ⟨_, rfl⟩
  obtain ⟨ft, hft⟩ : ∃ v, v = footV R.gauge := ⟨_, rfl⟩
  obtain ⟨lg, hlg⟩ : ∃ v, v = longV R.gauge := ⟨_, rfl⟩
  obtain ⟨v1, hv1⟩ : ∃ v, v = !inB R.base 1 3 := ⟨_, rfl⟩
  obtain ⟨v2, hv2⟩ : ∃ v, v = !inB R.frames 1 200000 := ⟨_, rfl⟩
  obtain ⟨v3, hv3⟩ : ∃ v, v = !inB R.keep 0 50 := ⟨_, rfl⟩
  obtain ⟨v4, hv4⟩ : ∃ v, v = !inB R.ylo 1890 2100 := ⟨_, rfl⟩
  obtain ⟨v5, hv5⟩ : ∃ v, v = !inB R.yhi 1890 2100 := ⟨_, rfl⟩
  have hE' : E = if v0 = false then 6 else if (decide (ft = 0) || v1) = true then 2 else if (v2 || v3 || v4 || v5) = true then 7 else if R.yhi < R.ylo then 2 else 0 := by
    rw [hE, hv0, hft, hv1, hv2, hv3, hv4, hv5]
    cases okName R.name <;> cases inB R.base 1 3 <;> cases inB R.frames 1 200000 <;> cases inB R.keep 0 50 <;> cases inB R.ylo 1890 2100 <;> cases inB R.yhi 1890 2100 <;> simp
  have H1 := fout_hid hv1; have H2 := fout_hid hv2; have H3 := fout_hid hv3; have H4 := fout_hid hv4; have H5 := fout_hid hv5
  have HZ := Lib.hid fun W => size_any R.gauge W
  rw [← hft, ← hlg] at HZ
  rw [← hv0] at HN
  have HE := Lib.hid hE'
  clear hE hE' hv0 hv1 hv2 hv3 hv4 hv5 hft hlg hR hm
  go_enter Tryz.func87, Tryz.ntmps87
  go_upto_region 1 with (fail)
  refine wp_name ?_
  intro w3 hw3
  obtain ⟨n3, hn3⟩ : ∃ n, n = w.heap.size := ⟨_, rfl⟩
  have x3 : w3.heap[n3]? = some (Obj.cells #[.string R.name, .int .i64 R.gauge, .int .i64 R.base, .int .i64 R.frames, .int .i64 R.ylo, .int .i64 R.yhi, .int .i64 R.keep, .slice r.m.a R.marks.length r.m.cap, .slice r.s.a R.syms.length r.s.cap, .slice r.l.a R.lens.length r.l.cap] 28) := by rw [hw3, hn3]; exact blk_new _ _
  have hE3 : Ext2 w w3 := by rw [hw3]; exact below_alloc' _ _
  rw [← hn3]
  have HE3 := Lib.hid hE3; have X3 := Lib.hid x3
  clear hw3 hn3 hE3
  have q3c := cell_blk x3
  have q3f := frz_blk x3
  go_wp2_with (fail)
  (with_reducible refine (HZ.out _).mono ?_)
  rintro e w4 ⟨rfl, hE4⟩
  have x4 := Ext2.blk hE4 x3
  have HE4 := Lib.hid (ext_trans HE3.out hE4)
  clear q3c q3f x3 hE4
  have q4c := cell_blk x4
  have q4f := frz_blk x4
  go_wp2_with (fail)
  (with_reducible refine (HN.out _ HE4.out).mono ?_)
  rintro e w5 ⟨rfl, hE5⟩
  have x5 := Ext2.blk hE5 x4
  have HE5 := Lib.hid (ext_trans HE4.out hE5)
  clear q4c q4f x4 hE5
  have q5c := cell_blk x5
  have q5f := frz_blk x5
  cases v0 with
  | false =>
    have HF : Hid (E = 6) := Lib.hid (by rw [HE.out]; rfl)
    go_wp2_with (fail)
    go_ret
    exact ⟨ret_int HF.out.symm, HE5.out⟩
  | true =>
  cases hc1 : (decide (ft = 0) || v1) with
  | true =>
    have HF : Hid (E = 2) := Lib.hid (by rw [HE.out, hc1]; rfl)
    by_cases hz : ft = 0
    · have hzb : (ft == 0) = true := by simpa using hz
      go_wp2_with (fail)
      go_ret
      exact ⟨ret_int HF.out.symm, HE5.out⟩
    · have hzb : (ft == 0) = false := by simpa using hz
      rw [decide_eq_false hz, Bool.false_or] at hc1
      subst hc1
      go_wp2_with (fail)
      (with_reducible refine (H1.out _).mono ?_)
      rintro e w' ⟨rfl, rfl⟩
      go_wp2_with (fail)
      go_ret
      exact ⟨ret_int HF.out.symm, HE5.out⟩
  | false =>
  have HE2 := Lib.hid HE.out
  rw [hc1] at HE2
  obtain ⟨hz, rfl⟩ := or_none2 hc1
  have hz := of_decide_eq_false hz
  have hzb : (ft == 0) = false := by simpa using hz
  clear hc1
  go_wp2_with (fail)
  (with_reducible refine (H1.out _).mono ?_)
  rintro e w' ⟨rfl, rfl⟩
  cases hc2 : (v2 || v3 || v4 || v5) with
  | true =>
    have HF : Hid (E = 7) := Lib.hid (by rw [HE2.out, hc2]; rfl)
    rcases or_first4 hc2 with rfl | ⟨rfl, rfl⟩ | ⟨rfl, rfl, rfl⟩ | ⟨rfl, rfl, rfl, rfl⟩
    all_goals go_wp2_with (fail)
    all_goals (repeat ((first | (with_reducible refine (H2.out _).mono ?_) | (with_reducible refine (H3.out _).mono ?_) | (with_reducible refine (H4.out _).mono ?_) | (with_reducible refine (H5.out _).mono ?_)); rintro e w' ⟨rfl, rfl⟩; go_wp2_with (fail)))
    all_goals go_ret
    all_goals exact ⟨ret_int HF.out.symm, HE5.out⟩
  | false =>
  rw [hc2] at HE2
  obtain ⟨rfl, rfl, rfl, rfl⟩ := or_none4 hc2
  clear hc2
  by_cases hy : R.yhi < R.ylo
  · have HF : Hid (E = 2) := Lib.hid (by rw [HE2.out, if_pos hy]; rfl)
    go_wp2_with (fail)
    repeat ((first | (with_reducible refine (H2.out _).mono ?_) | (with_reducible refine (H3.out _).mono ?_) | (with_reducible refine (H4.out _).mono ?_) | (with_reducible refine (H5.out _).mono ?_)); rintro e w' ⟨rfl, rfl⟩; go_wp2_with (fail))
    go_ret
    exact ⟨ret_int HF.out.symm, HE5.out⟩
  · have HF : Hid (E = 0) := Lib.hid (by rw [HE2.out, if_neg hy]; rfl)
    go_wp2_with (fail)
    repeat ((first | (with_reducible refine (H2.out _).mono ?_) | (with_reducible refine (H3.out _).mono ?_) | (with_reducible refine (H4.out _).mono ?_) | (with_reducible refine (H5.out _).mono ?_)); rintro e w' ⟨rfl, rfl⟩; go_wp2_with (fail))
    go_ret
    exact ⟨ret_int HF.out.symm, HE5.out⟩
theorem self_frames {R : Reel} (h : selfV R = 0) : 1 ≤ R.frames ∧ R.frames ≤ 200000 := by
  unfold selfV at h
  split at h
  · cases h
  · split at h
    · cases h
    · split at h
      · cases h
      · rename_i g3
        simp only [Bool.not_eq_false, Bool.and_eq_true, inB_iff] at g3
        exact g3.1.1.1
def FilmOut (w : World) (R : Reel) (e : Ending) (w' : World) : Prop := e = .returned (.tuple #[.int .i64 (filmV R).1, .int .i64 (filmV R).2.1, .int .i64 (filmV R).2.2]) ∧ Below w.heap.size w w'
theorem film_out {w W : World} {R : Reel} {p : Int × Int × Int} (h : filmV R = p) (hW : Below w.heap.size w W) : FilmOut w R (.returned (.tuple #[.int .i64 p.1, .int .i64 p.2.1, .int .i64 p.2.2])) W := ⟨by rw [h], hW⟩
set_option maxRecDepth 100000 in
set_option maxHeartbeats 8000000 in
theorem film_any {R : Reel} {r : RSl} {w : World} (hR : ReelAt w R r) (hm : MaxAt w) : Calls Tryz.prog 63 #[.agg #[.string R.name, .int .i64 R.gauge, .int .i64 R.base, .int .i64 R.frames, .int .i64 R.ylo, .int .i64 R.yhi, .int .i64 R.keep, .slice r.m.a R.marks.length r.m.cap, .slice r.s.a R.syms.length r.s.cap, .slice r.l.a R.lens.length r.l.cap]] w (FilmOut w R) := by
  have HR := Lib.hid hR
  have HWH := Lib.hid fun (W : World) (hW : Ext2 w W) => whole_any (hR.below hW) (hm.below hW)
  have hml := hR.mks.le; have hmm := hR.mks.max; have hsl := hR.sy.le; have hsm := hR.sy.max; have hll := hR.ln.le; have hlm := hR.ln.max
  obtain ⟨⟨ma, mc⟩, ⟨sa, sc⟩, ⟨la, lc⟩⟩ := r
  dsimp only at hml hmm hsl hsm hll hlm
  obtain ⟨E, hE⟩ : ∃ E, E = selfV R := ⟨_, rfl⟩
  rw [← hE] at HWH
  have HE := Lib.hid hE
  obtain ⟨nm, hnm⟩ : ∃ n, n = R.marks.length := ⟨_, rfl⟩
  obtain ⟨ns, hns⟩ : ∃ n, n = R.syms.length := ⟨_, rfl⟩
  obtain ⟨nl, hnl⟩ : ∃ n, n = R.lens.length := ⟨_, rfl⟩
  obtain ⟨fr, hfr⟩ : ∃ f, f = R.frames := ⟨_, rfl⟩
  rw [← hnm] at hml; rw [← hns] at hsl; rw [← hnl] at hll
  rw [← hnm, ← hns, ← hnl, ← hfr] at HWH ⊢
  have HNM := Lib.hid hnm; have HNS := Lib.hid hns; have HNL := Lib.hid hnl; have HFR := Lib.hid hfr
  clear hR hm hE hnm hns hnl hfr
  go_enter Tryz.func63, Tryz.ntmps63
  go_upto_region 1 with (fail)
  refine wp_name ?_
  intro w3 hw3
  obtain ⟨n3, hn3⟩ : ∃ n, n = w.heap.size := ⟨_, rfl⟩
  have x3 : w3.heap[n3]? = some (Obj.cells #[.string R.name, .int .i64 R.gauge, .int .i64 R.base, .int .i64 fr, .int .i64 R.ylo, .int .i64 R.yhi, .int .i64 R.keep, .slice ma nm mc, .slice sa ns sc, .slice la nl lc] 28) := by rw [hw3, hn3]; exact blk_new _ _
  have hE3 : Ext2 w w3 := by rw [hw3]; exact below_alloc' _ _
  rw [← hn3]
  have HE3 := Lib.hid hE3
  clear hw3 hn3 hE3
  have q3c := cell_blk x3
  have q3f := frz_blk x3
  go_wp2_with (fail)
  (with_reducible refine (HWH.out _ HE3.out).mono ?_)
  rintro e w4 ⟨rfl, hE4⟩
  have x4 := Ext2.blk hE4 x3
  have HE4 := Lib.hid (ext_trans HE3.out hE4)
  clear q3c q3f x3 hE4
  have q4c := cell_blk x4
  have q4f := frz_blk x4
  by_cases hE0 : E = 0
  case neg =>
    have HF : Hid (filmV R = (1, 0, E)) := Lib.hid (by unfold filmV; rw [← HE.out, if_pos hE0])
    have hb : (E != 0) = true := by simpa using hE0
    go_wp2_with (fail)
    go_ret3
    exact film_out HF.out HE4.out
  subst hE0
  have hfr := self_frames HE.out.symm
  rw [← HFR.out] at hfr
  have w1' : IntKind.i64.wrap (fr - 1) = fr - 1 := IntWalk.i64_in _ (by omega)
  by_cases h60 : 60 < nm
  · have HF : Hid (filmV R = (2, 0, 3)) := Lib.hid (by unfold filmV; rw [← HE.out, if_neg (by simp), if_pos (by rw [← HNM.out]; exact h60)])
    go_wp2_with (fail)
    go_ret3
    exact film_out HF.out HE4.out
  have hfv : filmV R = if fstE (mkE R) nm < nm then ((2 : Int), ((fstE (mkE R) nm : Nat) : Int), mkE R (fstE (mkE R) nm)) else filmS R := by unfold filmV; rw [← HE.out, if_neg (by simp), if_neg (by rw [← HNM.out]; exact h60), ← HNM.out]
  have HFV := Lib.hid hfv
  clear hfv
  have X4 := Lib.hid x4
  go_wp2_with (fail)
  clear q4c q4f x4
  go_loopw [5, 24] (fun bf i wr => ∃ k : Nat, bf = .int .i64 (befK R.marks k) ∧ i = .int .i64 k ∧ k ≤ nm ∧ (∀ j, j < k → mkE R j = 0) ∧ Ext2 w wr ∧ wr.heap[n3]? = some (Obj.cells #[.string R.name, .int .i64 R.gauge, .int .i64 R.base, .int .i64 fr, .int .i64 R.ylo, .int .i64 R.yhi, .int .i64 R.keep, .slice ma nm mc, .slice sa ns sc, .slice la nl lc] 28)) (fun _ i _ => nm - (intOf i).toNat)
  case atStart => exact ⟨0, rfl, rfl, by omega, fun j h => absurd h (by omega), HE4.out, X4.out⟩
  case round =>
    obtain ⟨k, rfl, rfl, hk, hall, hE, x4⟩ := hrel
    have HALL := Lib.hid hall; have HEK := Lib.hid hE; have X4 := Lib.hid x4
    clear hall hE
    by_cases hlt : k < nm
    · go_light
      obtain ⟨b, off, hsa, c0, c1, c2⟩ := mk_cells (HR.out.mks.below HEK.out) (i := k) (by rw [← HNM.out]; exact hlt)
      dsimp only at hsa
      subst hsa
      have hme : mkE R k = if (!inB (mkD R.marks k).frame 0 (fr - 1) || !inB (mkD R.marks k).roll 0 99 || !inB (mkD R.marks k).number 0 9999) = true then 7 else if (mkD R.marks k).frame ≤ befK R.marks k then 2 else 0 := by
        unfold mkE; rw [← HFR.out]
        cases inB (mkD R.marks k).frame 0 (fr - 1) <;> cases inB (mkD R.marks k).roll 0 99 <;> cases inB (mkD R.marks k).number 0 9999 <;> simp
      have hbk : befK R.marks (k + 1) = (mkD R.marks k).frame := by unfold befK; rw [if_neg (by omega)]; rfl
      obtain ⟨bf, hbf⟩ : ∃ b, b = befK R.marks k := ⟨_, rfl⟩
      obtain ⟨x, hx⟩ : ∃ x, x = mkD R.marks k := ⟨_, rfl⟩
      rw [← hx] at c0 c1 c2 hbk
      rw [← hx, ← hbf] at hme
      rw [← hbf]
      obtain ⟨v1, hv1⟩ : ∃ v, v = !inB x.frame 0 (fr - 1) := ⟨_, rfl⟩
      obtain ⟨v2, hv2⟩ : ∃ v, v = !inB x.roll 0 99 := ⟨_, rfl⟩
      obtain ⟨v3, hv3⟩ : ∃ v, v = !inB x.number 0 9999 := ⟨_, rfl⟩
      rw [← hv1, ← hv2, ← hv3] at hme
      have H1 := fout_hid hv1; have H2 := fout_hid hv2; have H3 := fout_hid hv3
      have HME := Lib.hid hme; have HBK := Lib.hid hbk
      have h0 : (0 : Int) ≤ (k : Int) := by omega
      have h1 : (k : Int) < (nm : Int) := by omega
      have w2' : IntKind.i64.wrap ((k : Int) + 1) = (k : Int) + 1 := IntWalk.i64_in _ (by omega)
      clear hme hbk hx hbf hv1 hv2 hv3
      have q4c := cell_blk x4
      have q4f := frz_blk x4
      go_upto_region 10 with (fail)
      clear q4c q4f x4 c0 c1 c2
      refine wp_name ?_
      intro w5 hw5
      obtain ⟨n5, hn5⟩ : ∃ n, n = wr.heap.size := ⟨_, rfl⟩
      have x5 : w5.heap[n5]? = some (Obj.cells #[.int .i64 x.frame, .int .i64 x.roll, .int .i64 x.number] 68) := by rw [hw5, hn5]; exact blk_new _ _
      have hE5 : Ext2 wr w5 := by rw [hw5]; exact below_alloc' _ _
      have x4 := Ext2.blk hE5 X4.out
      have X4 := Lib.hid x4
      have HE5 := Lib.hid (ext_trans HEK.out hE5)
      rw [← hn5]
      clear hw5 hn5 hE5
      have q4c := cell_blk x4
      have q4f := frz_blk x4
      have q5c := cell_blk x5
      have q5f := frz_blk x5
      cases hc : (v1 || v2 || v3) with
      | true =>
        have hne : mkE R k = 7 := by rw [HME.out, hc]; rfl
        have HF : Hid (filmV R = (2, (k : Int), 7)) := Lib.hid (by rw [HFV.out, fstE_at HALL.out (by rw [hne]; decide) hlt, if_pos hlt, hne])
        clear hne
        rcases or_first3 hc with rfl | ⟨rfl, rfl⟩ | ⟨rfl, rfl, rfl⟩
        all_goals go_wp2_with (fail)
        all_goals (repeat ((first | (with_reducible refine (H1.out _).mono ?_) | (with_reducible refine (H2.out _).mono ?_) | (with_reducible refine (H3.out _).mono ?_)); rintro e w' ⟨rfl, rfl⟩; go_wp2_with (fail)))
        all_goals go_ret3
        all_goals exact film_out HF.out HE5.out
      | false =>
        obtain ⟨rfl, rfl, rfl⟩ := or_none3 hc
        by_cases hle : x.frame ≤ bf
        · have hne : mkE R k = 2 := by rw [HME.out, if_neg (by simp), if_pos hle]
          have HF : Hid (filmV R = (2, (k : Int), 2)) := Lib.hid (by rw [HFV.out, fstE_at HALL.out (by rw [hne]; decide) hlt, if_pos hlt, hne])
          clear hne
          go_wp2_with (fail)
          repeat ((first | (with_reducible refine (H1.out _).mono ?_) | (with_reducible refine (H2.out _).mono ?_) | (with_reducible refine (H3.out _).mono ?_)); rintro e w' ⟨rfl, rfl⟩; go_wp2_with (fail))
          go_ret3
          exact film_out HF.out HE5.out
        · have hne : mkE R k = 0 := by rw [HME.out, if_neg (by simp), if_neg hle]
          have HNE := Lib.hid hne
          clear hne
          go_wp2_with (fail)
          repeat ((first | (with_reducible refine (H1.out _).mono ?_) | (with_reducible refine (H2.out _).mono ?_) | (with_reducible refine (H3.out _).mono ?_)); rintro e w' ⟨rfl, rfl⟩; go_wp2_with (fail))
          go_roundw
          case rel =>
            refine ⟨k + 1, by rw [HBK.out], by go_num, by omega, fun j hj => ?_, HE5.out, X4.out⟩
            rcases Nat.lt_or_ge j k with h' | h'
            · exact HALL.out j h'
            · obtain rfl : j = k := by omega
              exact HNE.out
          case measure => simp [intOf]; omega
    · obtain rfl : nm = k := by omega
      have HF2 : Hid (filmV R = filmS R) := Lib.hid (by rw [HFV.out, fstE_none HALL.out, if_neg (Nat.lt_irrefl _)])
      by_cases h20 : 20 < ns
      · have HF : Hid (filmV R = (3, 0, 3)) := Lib.hid (by rw [HF2.out]; unfold filmS; rw [if_pos (by rw [← HNS.out]; exact h20)])
        have q4c := cell_blk x4
        have q4f := frz_blk x4
        go_wp2_with (fail)
        go_ret3
        exact film_out HF.out HEK.out
      have hfs : filmV R = if fstE (syE R) ns < ns then ((3 : Int), ((fstE (syE R) ns : Nat) : Int), syE R (fstE (syE R) ns)) else filmL R := by rw [HF2.out]; unfold filmS; rw [if_neg (by rw [← HNS.out]; exact h20), ← HNS.out]
      have HFS := Lib.hid hfs
      clear hfs
      have q4c := cell_blk x4
      have q4f := frz_blk x4
      go_wp2_with (fail)
      clear q4c q4f x4
      go_loopw [63] (fun i ws => ∃ q : Nat, i = .int .i64 q ∧ q ≤ ns ∧ (∀ j, j < q → syE R j = 0) ∧ Ext2 w ws ∧ ws.heap[n3]? = some (Obj.cells #[.string R.name, .int .i64 R.gauge, .int .i64 R.base, .int .i64 fr, .int .i64 R.ylo, .int .i64 R.yhi, .int .i64 R.keep, .slice ma nm mc, .slice sa ns sc, .slice la nl lc] 28)) (fun i _ => ns - (intOf i).toNat)
      case atStart => exact ⟨0, rfl, by omega, fun j h => absurd h (by omega), HEK.out, X4.out⟩
      case round =>
        clear HEK X4
        obtain ⟨q, rfl, hq, hall, hE, x4⟩ := hrel
        have HALQ := Lib.hid hall; have HEK := Lib.hid hE; have X4 := Lib.hid x4
        clear hall hE
        by_cases hlt : q < ns
        · go_light
          obtain ⟨b, off, hsa, c0, c1⟩ := sy_cells (HR.out.sy.below HEK.out) (i := q) (by rw [← HNS.out]; exact hlt)
          dsimp only at hsa
          subst hsa
          have hme : syE R q = if (!inB (syD R.syms q).roll 0 99 || !inB (syD R.syms q).code 0 19) = true then 7 else 0 := by
            unfold syE
            cases inB (syD R.syms q).roll 0 99 <;> cases inB (syD R.syms q).code 0 19 <;> simp
          obtain ⟨x, hx⟩ : ∃ x, x = syD R.syms q := ⟨_, rfl⟩
          rw [← hx] at c0 c1 hme
          obtain ⟨v1, hv1⟩ : ∃ v, v = !inB x.roll 0 99 := ⟨_, rfl⟩
          obtain ⟨v2, hv2⟩ : ∃ v, v = !inB x.code 0 19 := ⟨_, rfl⟩
          rw [← hv1, ← hv2] at hme
          have H1 := fout_hid hv1; have H2 := fout_hid hv2
          have HME := Lib.hid hme
          have h0 : (0 : Int) ≤ (q : Int) := by omega
          have h1 : (q : Int) < (ns : Int) := by omega
          have w2' : IntKind.i64.wrap ((q : Int) + 1) = (q : Int) + 1 := IntWalk.i64_in _ (by omega)
          clear hme hx hv1 hv2
          have q4c := cell_blk x4
          have q4f := frz_blk x4
          go_upto_region 21 with (fail)
          clear q4c q4f x4 c0 c1
          refine wp_name ?_
          intro w5 hw5
          obtain ⟨n5, hn5⟩ : ∃ n, n = wr.heap.size := ⟨_, rfl⟩
          have x5 : w5.heap[n5]? = some (.cells #[.int .i64 x.roll, .int .i64 x.code] 103 (0, 0)) := by rw [hw5, hn5]; exact blk_new _ _
          have hE5 : Ext2 wr w5 := by rw [hw5]; exact below_alloc' _ _
          have X4 := Lib.hid (Ext2.blk hE5 X4.out)
          have HE5 := Lib.hid (ext_trans HEK.out hE5)
          rw [← hn5]
          clear hw5 hn5 hE5
          have q5c := cell_blk x5
          have q5f := frz_blk x5
          cases hc : (v1 || v2) with
          | true =>
            have hne : syE R q = 7 := by rw [HME.out, hc]; rfl
            have HF : Hid (filmV R = (3, (q : Int), 7)) := Lib.hid (by rw [HFS.out, fstE_at HALQ.out (by rw [hne]; decide) hlt, if_pos hlt, hne])
            clear hne
            rcases or_first2 hc with rfl | ⟨rfl, rfl⟩
            all_goals go_wp2_with (fail)
            all_goals (repeat ((first | (with_reducible refine (H1.out _).mono ?_) | (with_reducible refine (H2.out _).mono ?_)); rintro e w' ⟨rfl, rfl⟩; go_wp2_with (fail)))
            all_goals go_ret3
            all_goals exact film_out HF.out HE5.out
          | false =>
            obtain ⟨rfl, rfl⟩ := or_none2 hc
            have hne : syE R q = 0 := by rw [HME.out, if_neg (by simp)]
            have HNE := Lib.hid hne
            clear hne
            go_wp2_with (fail)
            repeat ((first | (with_reducible refine (H1.out _).mono ?_) | (with_reducible refine (H2.out _).mono ?_)); rintro e w' ⟨rfl, rfl⟩; go_wp2_with (fail))
            go_roundw
            case rel =>
              refine ⟨q + 1, by go_num, by omega, fun j hj => ?_, HE5.out, X4.out⟩
              rcases Nat.lt_or_ge j q with h' | h'
              · exact HALQ.out j h'
              · obtain rfl : j = q := by omega
                exact HNE.out
            case measure => simp [intOf]; omega
        · obtain rfl : ns = q := by omega
          have HF3 : Hid (filmV R = filmL R) := Lib.hid (by rw [HFS.out, fstE_none HALQ.out, if_neg (Nat.lt_irrefl _)])
          by_cases h20 : 20 < nl
          · have HF : Hid (filmV R = (4, 0, 3)) := Lib.hid (by rw [HF3.out]; unfold filmL; rw [if_pos (by rw [← HNL.out]; exact h20)])
            have q4c := cell_blk x4
            have q4f := frz_blk x4
            go_wp2_with (fail)
            go_ret3
            exact film_out HF.out HEK.out
          have hfl : filmV R = if fstE (lnE R) nl < nl then ((4 : Int), ((fstE (lnE R) nl : Nat) : Int), lnE R (fstE (lnE R) nl)) else (0, 0, 0) := by rw [HF3.out]; unfold filmL; rw [if_neg (by rw [← HNL.out]; exact h20), ← HNL.out]
          have HFL := Lib.hid hfl
          clear hfl
          have q4c := cell_blk x4
          have q4f := frz_blk x4
          go_wp2_with (fail)
          clear q4c q4f x4
          go_loopw [85] (fun i wt => ∃ q : Nat, i = .int .i64 q ∧ q ≤ nl ∧ (∀ j, j < q → lnE R j = 0) ∧ Ext2 w wt ∧ wt.heap[n3]? = some (Obj.cells #[.string R.name, .int .i64 R.gauge, .int .i64 R.base, .int .i64 fr, .int .i64 R.ylo, .int .i64 R.yhi, .int .i64 R.keep, .slice ma nm mc, .slice sa ns sc, .slice la nl lc] 28)) (fun i _ => nl - (intOf i).toNat)
          case atStart => exact ⟨0, rfl, by omega, fun j h => absurd h (by omega), HEK.out, X4.out⟩
          case round =>
            clear HEK X4
            obtain ⟨q, rfl, hq, hall, hE, x4⟩ := hrel
            have HALQ := Lib.hid hall; have HEK := Lib.hid hE; have X4 := Lib.hid x4
            clear hall hE
            by_cases hlt : q < nl
            · go_light
              obtain ⟨b, off, hsa, c0, c1, c2⟩ := ln_cells (HR.out.ln.below HEK.out) (i := q) (by rw [← HNL.out]; exact hlt)
              dsimp only at hsa
              subst hsa
              have hme : lnE R q = if (!inB (lnD R.lens q).frames 1 fr || !inB (lnD R.lens q).micro 1 400000000 || !inB (lnD R.lens q).err 0 400000000) = true then 7 else 0 := by
                unfold lnE; rw [← HFR.out]
                cases inB (lnD R.lens q).frames 1 fr <;> cases inB (lnD R.lens q).micro 1 400000000 <;> cases inB (lnD R.lens q).err 0 400000000 <;> simp
              obtain ⟨x, hx⟩ : ∃ x, x = lnD R.lens q := ⟨_, rfl⟩
              rw [← hx] at c0 c1 c2 hme
              obtain ⟨v1, hv1⟩ : ∃ v, v = !inB x.frames 1 fr := ⟨_, rfl⟩
              obtain ⟨v2, hv2⟩ : ∃ v, v = !inB x.micro 1 400000000 := ⟨_, rfl⟩
              obtain ⟨v3, hv3⟩ : ∃ v, v = !inB x.err 0 400000000 := ⟨_, rfl⟩
              rw [← hv1, ← hv2, ← hv3] at hme
              have H1 := fout_hid hv1; have H2 := fout_hid hv2; have H3 := fout_hid hv3
              have HME := Lib.hid hme
              have h0 : (0 : Int) ≤ (q : Int) := by omega
              have h1 : (q : Int) < (nl : Int) := by omega
              have w2' : IntKind.i64.wrap ((q : Int) + 1) = (q : Int) + 1 := IntWalk.i64_in _ (by omega)
              clear hme hx hv1 hv2 hv3
              have q4c := cell_blk x4
              have q4f := frz_blk x4
              go_upto_region 29 with (fail)
              clear q4c q4f x4 c0 c1 c2
              refine wp_name ?_
              intro w5 hw5
              obtain ⟨n5, hn5⟩ : ∃ n, n = wr.heap.size := ⟨_, rfl⟩
              have x5 : w5.heap[n5]? = some (.cells #[.int .i64 x.frames, .int .i64 x.micro, .int .i64 x.err] 105 (0, 0)) := by rw [hw5, hn5]; exact blk_new _ _
              have hE5 : Ext2 wr w5 := by rw [hw5]; exact below_alloc' _ _
              have x4 := Ext2.blk hE5 X4.out
              have X4 := Lib.hid x4
              have HE5 := Lib.hid (ext_trans HEK.out hE5)
              rw [← hn5]
              clear hw5 hn5 hE5
              have q4c := cell_blk x4
              have q4f := frz_blk x4
              have q5c := cell_blk x5
              have q5f := frz_blk x5
              cases hc : (v1 || v2 || v3) with
              | true =>
                have hne : lnE R q = 7 := by rw [HME.out, hc]; rfl
                have HF : Hid (filmV R = (4, (q : Int), 7)) := Lib.hid (by rw [HFL.out, fstE_at HALQ.out (by rw [hne]; decide) hlt, if_pos hlt, hne])
                clear hne
                rcases or_first3 hc with rfl | ⟨rfl, rfl⟩ | ⟨rfl, rfl, rfl⟩
                all_goals go_wp2_with (fail)
                all_goals (repeat ((first | (with_reducible refine (H1.out _).mono ?_) | (with_reducible refine (H2.out _).mono ?_) | (with_reducible refine (H3.out _).mono ?_)); rintro e w' ⟨rfl, rfl⟩; go_wp2_with (fail)))
                all_goals go_ret3
                all_goals exact film_out HF.out HE5.out
              | false =>
                obtain ⟨rfl, rfl, rfl⟩ := or_none3 hc
                have hne : lnE R q = 0 := by rw [HME.out, if_neg (by simp)]
                have HNE := Lib.hid hne
                clear hne
                go_wp2_with (fail)
                repeat ((first | (with_reducible refine (H1.out _).mono ?_) | (with_reducible refine (H2.out _).mono ?_) | (with_reducible refine (H3.out _).mono ?_)); rintro e w' ⟨rfl, rfl⟩; go_wp2_with (fail))
                go_roundw
                case rel =>
                  refine ⟨q + 1, by go_num, by omega, fun j hj => ?_, HE5.out, X4.out⟩
                  rcases Nat.lt_or_ge j q with h' | h'
                  · exact HALQ.out j h'
                  · obtain rfl : j = q := by omega
                    exact HNE.out
                case measure => simp [intOf]; omega
            · obtain rfl : nl = q := by omega
              have HF : Hid (filmV R = (0, 0, 0)) := Lib.hid (by rw [HFL.out, fstE_none HALQ.out, if_neg (Nat.lt_irrefl _)])
              clear x4
              go_wp2_with (fail)
              go_ret3
              exact film_out HF.out HEK.out
end Go.Proofs.YtapeakbngligaaaGreatDoor
namespace Go.Proofs.YtapeakbngligaaaGreatDoor
open Go.RowKit D
set_option linter.unusedVariables false
set_option linter.unusedSimpArgs false
attribute [local go_sem high] run_minI run_maxI
attribute [local go_sem] upon2 cls_cell cls_frozen forall_const exists_eq_left'
attribute [local go_sem] FirstUpon
theorem or_first6 {a b c d e f : Bool} (h : (a || b || c || d || e || f) = true) : a = true ∨ (a = false ∧ b = true) ∨ (a = false ∧ b = false ∧ c = true) ∨ (a = false ∧ b = false ∧ c = false ∧ d = true) ∨ (a = false ∧ b = false ∧ c = false ∧ d = false ∧ e = true) ∨ (a = false ∧ b = false ∧ c = false ∧ d = false ∧ e = false ∧ f = true) := by cases a <;> cases b <;> cases c <;> cases d <;> cases e <;> simp_all
theorem or_none6 {a b c d e f : Bool} (h : (a || b || c || d || e || f) = false) : a = false ∧ b = false ∧ c = false ∧ d = false ∧ e = false ∧ f = false := by cases a <;> cases b <;> cases c <;> cases d <;> cases e <;> simp_all
set_option maxRecDepth 100000 in
set_option maxHeartbeats 8000000 in
theorem strange_any {x : Note} {w : World} (hs : x.by_.size ≤ maxLen) (hm : MaxAt w) : Calls Tryz.prog 33 #[.agg #[.string x.by_, .int .i64 x.number, .int .i64 x.rev, .int .i64 x.kind, .int .i64 x.from_, .int .i64 x.until_, .int .i64 x.mlo, .int .i64 x.mhi]] w fun e w' => e = .returned (.int .i64 (noteE x)) ∧ Below w.heap.size w w' := by
  have HN := Lib.hid fun (W : World) (hW : Ext2 w W) => nameP_any hs (hm.below hW)
  obtain ⟨E, hE⟩ : ∃ E, E = noteE x := ⟨_, rfl⟩
  rw [← hE]
  unfold noteE at hE
  obtain ⟨v0, hv0⟩ : ∃ v, v = okName x.by_ := ⟨_, rfl⟩
  obtain ⟨vk, hvk⟩ : ∃ v, v = !inB x.kind 1 3 := ⟨_, rfl⟩
  obtain ⟨v1, hv1⟩ : ∃ v, v = !inB x.number 1 999 := ⟨_, rfl⟩
  obtain ⟨v2, hv2⟩ : ∃ v, v = !inB x.rev 0 99 := ⟨_, rfl⟩
  obtain ⟨v3, hv3⟩ : ∃ v, v = !inB x.from_ 0 199999 := ⟨_, rfl⟩
  obtain ⟨v4, hv4⟩ : ∃ v, v = !inB x.until_ 0 199999 := ⟨_, rfl⟩
  obtain ⟨v5, hv5⟩ : ∃ v, v = !inB x.mlo 0 400000 := ⟨_, rfl⟩
  obtain ⟨v6, hv6⟩ : ∃ v, v = !inB x.mhi 0 400000 := ⟨_, rfl⟩
  have hE' : E = if v0 = false then 6 else if vk = true then 2 else if (v1 || v2 || v3 || v4 || v5 || v6) = true then 7 else if x.until_ < x.from_ ∨ x.mhi < x.mlo ∨ (x.kind = 1 ∧ x.from_ < x.until_) ∨ (x.kind ≠ 1 ∧ 0 < x.mhi) then 2 else 0 := by
    rw [hE, hv0, hvk, hv1, hv2, hv3, hv4, hv5, hv6]
    cases inB x.kind 1 3 <;> cases inB x.number 1 999 <;> cases inB x.rev 0 99 <;> cases inB x.from_ 0 199999 <;> cases inB x.until_ 0 199999 <;> cases inB x.mlo 0 400000 <;> cases inB x.mhi 0 400000 <;> rfl
  have HK := out_hid hvk; have H1 := out_hid hv1; have H2 := out_hid hv2; have H3 := out_hid hv3; have H4 := out_hid hv4; have H5 := out_hid hv5; have H6 := out_hid hv6
  rw [← hv0] at HN
  have HE := Lib.hid hE'
  clear hE hE' hv0 hvk hv1 hv2 hv3 hv4 hv5 hv6 hs hm
  go_enter Tryz.func33, Tryz.ntmps33
  go_upto_region 2 with (fail)
  refine wp_name ?_
  intro w3 hw3
  obtain ⟨n3, hn3⟩ : ∃ n, n = w.heap.size := ⟨_, rfl⟩
  obtain ⟨n4, hn4⟩ : ∃ n, n = n3 + 1 := ⟨_, rfl⟩
  have x3 : w3.heap[n3]? = some (Obj.cells #[.string x.by_, .int .i64 x.number, .int .i64 x.rev, .int .i64 x.kind, .int .i64 x.from_, .int .i64 x.until_, .int .i64 x.mlo, .int .i64 x.mhi] 58) := by rw [hw3, hn3]; exact blk_alloc (blk_new _ _) _
  have x4 : w3.heap[n4]? = some (Obj.cells #[.int .i64 (x.mlo), .int .i64 (x.mhi)] 23) := by rw [hw3, hn4, hn3]; exact blk_new' _ _ (by simp)
  have hE3 : Ext2 w w3 := by rw [hw3]; exact ext_trans (below_alloc' _ _) (below_alloc' _ _)
  rw [← hn3, ← hn4]
  have HE3 := Lib.hid hE3
  clear hw3 hn3 hn4 hE3
  have q3c := cell_blk x3
  have q3f := frz_blk x3
  have q4c := cell_blk x4
  have q4f := frz_blk x4
  go_wp2_with (fail)
  (with_reducible refine (HN.out _ HE3.out).mono ?_)
  rintro e w4 ⟨rfl, hE4⟩
  have x3 := Ext2.blk hE4 x3
  have x4 := Ext2.blk hE4 x4
  have HE4 := Lib.hid (ext_trans HE3.out hE4)
  clear q3c q3f q4c q4f hE4
  have q3c := cell_blk x3
  have q3f := frz_blk x3
  have q4c := cell_blk x4
  have q4f := frz_blk x4
  clear x3 x4
  cases v0 with
  | false =>
    have HF : Hid (E = 6) := Lib.hid (by rw [HE.out]; rfl)
    go_wp2_with (fail)
    go_ret
    exact ⟨ret_int HF.out.symm, HE4.out⟩
  | true =>
  cases vk with
  | true =>
    have HF : Hid (E = 2) := Lib.hid (by rw [HE.out]; rfl)
    go_wp2_with (fail)
    (with_reducible refine (HK.out _).mono ?_)
    rintro e w' ⟨rfl, rfl⟩
    go_wp2_with (fail)
    go_ret
    exact ⟨ret_int HF.out.symm, HE4.out⟩
  | false =>
  have HE2 := Lib.hid HE.out
  rw [if_neg (by simp), if_neg (by simp)] at HE2
  go_wp2_with (fail)
  (with_reducible refine (HK.out _).mono ?_)
  rintro e w' ⟨rfl, rfl⟩
  cases hc : (v1 || v2 || v3 || v4 || v5 || v6) with
  | true =>
    have HF : Hid (E = 7) := Lib.hid (by rw [HE2.out, hc]; rfl)
    rcases or_first6 hc with rfl | ⟨rfl, rfl⟩ | ⟨rfl, rfl, rfl⟩ | ⟨rfl, rfl, rfl, rfl⟩ | ⟨rfl, rfl, rfl, rfl, rfl⟩ | ⟨rfl, rfl, rfl, rfl, rfl, rfl⟩
    all_goals go_wp2_with (fail)
    all_goals (repeat ((first | (with_reducible refine (H1.out _).mono ?_) | (with_reducible refine (H2.out _).mono ?_) | (with_reducible refine (H3.out _).mono ?_) | (with_reducible refine (H4.out _).mono ?_) | (with_reducible refine (H5.out _).mono ?_) | (with_reducible refine (H6.out _).mono ?_)); rintro e w' ⟨rfl, rfl⟩; go_wp2_with (fail)))
    all_goals go_ret
    all_goals exact ⟨ret_int HF.out.symm, HE4.out⟩
  | false =>
  rw [hc, if_neg (by simp)] at HE2
  obtain ⟨rfl, rfl, rfl, rfl, rfl, rfl⟩ := or_none6 hc
  clear hc
  go_upto_region 8 with ((first | (with_reducible refine (H1.out _).mono ?_) | (with_reducible refine (H2.out _).mono ?_) | (with_reducible refine (H3.out _).mono ?_) | (with_reducible refine (H4.out _).mono ?_) | (with_reducible refine (H5.out _).mono ?_) | (with_reducible refine (H6.out _).mono ?_)); rintro e w' ⟨rfl, rfl⟩)
  clear H1 H2 H3 H4 H5 H6 HK HN
  by_cases p1 : x.until_ < x.from_
  · have HF : Hid (E = 2) := Lib.hid (by rw [HE2.out, if_pos (.inl p1)])
    go_wp2_with (fail)
    go_ret
    exact ⟨ret_int HF.out.symm, HE4.out⟩
  by_cases p2 : x.mhi < x.mlo
  · have HF : Hid (E = 2) := Lib.hid (by rw [HE2.out, if_pos (.inr (.inl p2))])
    go_wp2_with (fail)
    go_ret
    exact ⟨ret_int HF.out.symm, HE4.out⟩
  by_cases p3 : x.kind = 1
  · have b1 : (x.kind == 1) = true := by simp [p3]
    have b2 : (x.kind != 1) = false := by simp [p3]
    by_cases p4 : x.from_ < x.until_
    · have HF : Hid (E = 2) := Lib.hid (by rw [HE2.out, if_pos (.inr (.inr (.inl ⟨p3, p4⟩)))])
      clear p3
      go_wp2_with (fail)
      go_ret
      exact ⟨ret_int HF.out.symm, HE4.out⟩
    · have HF : Hid (E = 0) := Lib.hid (by rw [HE2.out, if_neg (by omega)])
      clear p3
      go_wp2_with (fail)
      go_ret
      exact ⟨ret_int HF.out.symm, HE4.out⟩
  · have b1 : (x.kind == 1) = false := by simp [p3]
    have b2 : (x.kind != 1) = true := by simp [p3]
    by_cases p4 : 0 < x.mhi
    · have HF : Hid (E = 2) := Lib.hid (by rw [HE2.out, if_pos (.inr (.inr (.inr ⟨p3, p4⟩)))])
      clear p3
      go_wp2_with (fail)
      go_ret
      exact ⟨ret_int HF.out.symm, HE4.out⟩
    · have HF : Hid (E = 0) := Lib.hid (by rw [HE2.out, if_neg (by omega)])
      clear p3
      go_wp2_with (fail)
      go_ret
      exact ⟨ret_int HF.out.symm, HE4.out⟩
def ChkOut (w : World) (T : Task) (e : Ending) (w' : World) : Prop := e = .returned (.tuple #[.int .i64 (checkV T).1, .int .i64 (checkV T).2.1, .int .i64 (checkV T).2.2]) ∧ Below w.heap.size w w'
theorem chk_out {w W : World} {T : Task} {p : Int × Int × Int} (h : checkV T = p) (hW : Below w.heap.size w W) : ChkOut w T (.returned (.tuple #[.int .i64 p.1, .int .i64 p.2.1, .int .i64 p.2.2])) W := ⟨by rw [h], hW⟩
set_option maxRecDepth 100000 in
set_option maxHeartbeats 8000000 in
theorem check_any {T : Task} {t : TSl} {w : World} (hT : TaskAt w T t) (hm : MaxAt w) : Calls Tryz.prog 46 #[.agg #[.string T.reel.name, .int .i64 T.reel.gauge, .int .i64 T.reel.base, .int .i64 T.reel.frames, .int .i64 T.reel.ylo, .int .i64 T.reel.yhi, .int .i64 T.reel.keep, .slice t.r.m.a T.reel.marks.length t.r.m.cap, .slice t.r.s.a T.reel.syms.length t.r.s.cap, .slice t.r.l.a T.reel.lens.length t.r.l.cap, .int .i64 T.whole.lo, .int .i64 T.whole.hi, .slice t.n.a T.notes.length t.n.cap]] w (ChkOut w T) := by
  have HT := Lib.hid hT; have HMX := Lib.hid hm
  have HFI := Lib.hid fun (W : World) (hW : Ext2 w W) => film_any (hT.reel.below hW) (hm.below hW)
  have hnl := hT.nt.le; have hnm := hT.nt.max
  obtain ⟨⟨p1, p2, p3⟩, hp⟩ : ∃ p, p = filmV T.reel := ⟨_, rfl⟩
  have HFI2 : Hid (∀ W, Ext2 w W → Calls Tryz.prog 63 #[.agg #[.string T.reel.name, .int .i64 T.reel.gauge, .int .i64 T.reel.base, .int .i64 T.reel.frames, .int .i64 T.reel.ylo, .int .i64 T.reel.yhi, .int .i64 T.reel.keep, .slice t.r.m.a T.reel.marks.length t.r.m.cap, .slice t.r.s.a T.reel.syms.length t.r.s.cap, .slice t.r.l.a T.reel.lens.length t.r.l.cap]] W fun e w' => e = .returned (.tuple #[.int .i64 p1, .int .i64 p2, .int .i64 p3]) ∧ Below W.heap.size W w') := Lib.hid fun W hW => (HFI.out W hW).mono fun e w' ⟨h1, h2⟩ => ⟨by rw [h1, ← hp], h2⟩
  have hp3 : (filmV T.reel).2.2 = p3 := by rw [← hp]
  have HP3 := Lib.hid hp3
  obtain ⟨tr, ⟨na, nc⟩⟩ := t
  dsimp only at hnl hnm
  obtain ⟨nn, hnn⟩ : ∃ n, n = T.notes.length := ⟨_, rfl⟩
  rw [← hnn] at hnl ⊢
  have HNN := Lib.hid hnn
  obtain ⟨fr, hfr⟩ : ∃ f, f = T.reel.frames := ⟨_, rfl⟩
  have HFR := Lib.hid hfr
  rw [← hfr] at HFI2 ⊢
  clear hT hm HFI hp hp3 hnn hfr
  go_enter Tryz.func46, Tryz.ntmps46
  go_upto_region 1 with (fail)
  refine wp_name ?_
  intro w3 hw3
  obtain ⟨n3, hn3⟩ : ∃ n, n = w.heap.size := ⟨_, rfl⟩
  have x3 : w3.heap[n3]? = some (Obj.cells #[.string T.reel.name, .int .i64 T.reel.gauge, .int .i64 T.reel.base, .int .i64 fr, .int .i64 T.reel.ylo, .int .i64 T.reel.yhi, .int .i64 T.reel.keep, .slice tr.m.a T.reel.marks.length tr.m.cap, .slice tr.s.a T.reel.syms.length tr.s.cap, .slice tr.l.a T.reel.lens.length tr.l.cap, .int .i64 T.whole.lo, .int .i64 T.whole.hi, .slice na nn nc] 31) := by rw [hw3, hn3]; exact blk_new _ _
  have hE3 : Ext2 w w3 := by rw [hw3]; exact below_alloc' _ _
  rw [← hn3]
  have HE3 := Lib.hid hE3
  clear hw3 hn3 hE3
  have q3c := cell_blk x3
  have q3f := frz_blk x3
  go_wp2_with (fail)
  (with_reducible refine (HFI2.out _ HE3.out).mono ?_)
  rintro e w4 ⟨rfl, hE4⟩
  have x4 := Ext2.blk hE4 x3
  have HE4 := Lib.hid (ext_trans HE3.out hE4)
  have X4 := Lib.hid x4
  clear q3c q3f x3 hE4 HFI2
  have q4c := cell_blk x4
  have q4f := frz_blk x4
  clear x4
  by_cases hE0 : p3 = 0
  case neg =>
    have HF : Hid (checkV T = (1, 0, p3)) := Lib.hid (by unfold checkV; rw [HP3.out, if_pos hE0])
    have hb : (p3 != 0) = true := by simpa using hE0
    go_wp2_with (fail)
    go_ret3
    exact chk_out HF.out HE4.out
  subst hE0
  obtain ⟨v1, hv1⟩ : ∃ v, v = !inB T.whole.lo 1 400000 := ⟨_, rfl⟩
  obtain ⟨v2, hv2⟩ : ∃ v, v = !inB T.whole.hi 1 400000 := ⟨_, rfl⟩
  have H1 := out_hid hv1; have H2 := out_hid hv2
  have hcv : checkV T = if (v1 || v2) = true then ((2 : Int), (0 : Int), (7 : Int)) else if T.whole.hi < T.whole.lo then (2, 0, 2) else if 60 < nn then (3, 0, 3) else if fstE (taskE T) nn < nn then (3, ((fstE (taskE T) nn : Nat) : Int), taskE T (fstE (taskE T) nn)) else (0, 0, 0) := by
    unfold checkV; rw [HP3.out, if_neg (by simp), ← HNN.out, hv1, hv2]
    cases inB T.whole.lo 1 400000 <;> cases inB T.whole.hi 1 400000 <;> rfl
  have HCV := Lib.hid hcv
  clear hcv hv1 hv2
  cases hc : (v1 || v2) with
  | true =>
    have HF : Hid (checkV T = (2, 0, 7)) := Lib.hid (by rw [HCV.out, hc]; rfl)
    rcases or_first2 hc with rfl | ⟨rfl, rfl⟩
    all_goals go_wp2_with (fail)
    all_goals (repeat ((first | (with_reducible refine (H1.out _).mono ?_) | (with_reducible refine (H2.out _).mono ?_)); rintro e w' ⟨rfl, rfl⟩; go_wp2_with (fail)))
    all_goals go_ret3
    all_goals exact chk_out HF.out HE4.out
  | false =>
  have HC2 := Lib.hid HCV.out
  rw [hc, if_neg (by simp)] at HC2
  obtain ⟨rfl, rfl⟩ := or_none2 hc
  clear hc HCV
  by_cases hwl : T.whole.hi < T.whole.lo
  · have HF : Hid (checkV T = (2, 0, 2)) := Lib.hid (by rw [HC2.out, if_pos hwl])
    go_wp2_with (fail)
    repeat ((first | (with_reducible refine (H1.out _).mono ?_) | (with_reducible refine (H2.out _).mono ?_)); rintro e w' ⟨rfl, rfl⟩; go_wp2_with (fail))
    go_ret3
    exact chk_out HF.out HE4.out
  by_cases h60 : 60 < nn
  · have HF : Hid (checkV T = (3, 0, 3)) := Lib.hid (by rw [HC2.out, if_neg hwl, if_pos h60])
    go_wp2_with (fail)
    repeat ((first | (with_reducible refine (H1.out _).mono ?_) | (with_reducible refine (H2.out _).mono ?_)); rintro e w' ⟨rfl, rfl⟩; go_wp2_with (fail))
    go_ret3
    exact chk_out HF.out HE4.out
  have HC3 := Lib.hid HC2.out
  rw [if_neg hwl, if_neg h60] at HC3
  clear HC2
  go_wp2_with (fail)
  repeat ((first | (with_reducible refine (H1.out _).mono ?_) | (with_reducible refine (H2.out _).mono ?_)); rintro e w' ⟨rfl, rfl⟩; go_wp2_with (fail))
  clear q4c q4f H1 H2
  go_loopw [4, 45] (fun e i wr => ∃ k : Nat, e = .int .i64 0 ∧ i = .int .i64 k ∧ k ≤ nn ∧ (∀ j, j < k → taskE T j = 0) ∧ Ext2 w wr ∧ wr.heap[n3]? = some (Obj.cells #[.string T.reel.name, .int .i64 T.reel.gauge, .int .i64 T.reel.base, .int .i64 fr, .int .i64 T.reel.ylo, .int .i64 T.reel.yhi, .int .i64 T.reel.keep, .slice tr.m.a T.reel.marks.length tr.m.cap, .slice tr.s.a T.reel.syms.length tr.s.cap, .slice tr.l.a T.reel.lens.length tr.l.cap, .int .i64 T.whole.lo, .int .i64 T.whole.hi, .slice na nn nc] 31)) (fun _ i _ => nn - (intOf i).toNat)
  case atStart => exact ⟨0, rfl, rfl, by omega, fun j h => absurd h (by omega), HE4.out, X4.out⟩
  case round =>
    clear HE4 X4
    obtain ⟨k, rfl, rfl, hk, hall, hE, x4⟩ := hrel
    have HALL := Lib.hid hall; have HEK := Lib.hid hE; have X4 := Lib.hid x4
    clear hall hE
    by_cases hlt : k < nn
    · go_light
      have hkl : k < T.notes.length := by rw [← HNN.out]; exact hlt
      obtain ⟨b, off, hsa, c0, c1, c2, c3, c4, c5, c6, c7⟩ := nt_cells (HT.out.nt.below HEK.out) (i := k) hkl
      dsimp only at hsa
      subst hsa
      have hsz := HT.out.sizes _ (nt_in hkl)
      have hte : taskE T k = if noteE (ntD T.notes k) ≠ 0 then noteE (ntD T.notes k) else if fr ≤ (ntD T.notes k).until_ then 4 else 0 := by rw [HFR.out]; rfl
      obtain ⟨x, hx⟩ : ∃ x, x = ntD T.notes k := ⟨_, rfl⟩
      rw [← hx] at c0 c1 c2 c3 c4 c5 c6 c7 hte hsz
      obtain ⟨E, hEx⟩ : ∃ E, E = noteE x := ⟨_, rfl⟩
      rw [← hEx] at hte
      have HST : Hid (∀ W, Ext2 w W → Calls Tryz.prog 33 #[.agg #[.string x.by_, .int .i64 x.number, .int .i64 x.rev, .int .i64 x.kind, .int .i64 x.from_, .int .i64 x.until_, .int .i64 x.mlo, .int .i64 x.mhi]] W fun e w' => e = .returned (.int .i64 E) ∧ Below W.heap.size W w') := Lib.hid fun W hW => by rw [hEx]; exact strange_any hsz (HMX.out.below hW)
      have HTE := Lib.hid hte
      have h0 : (0 : Int) ≤ (k : Int) := by omega
      have h1 : (k : Int) < (nn : Int) := by omega
      have w2' : IntKind.i64.wrap ((k : Int) + 1) = (k : Int) + 1 := IntWalk.i64_in _ (by omega)
      clear hte hx hEx hsz hkl x4
      go_upto_region 13 with (fail)
      clear c0 c1 c2 c3 c4 c5 c6 c7
      refine wp_name ?_
      intro w5 hw5
      obtain ⟨n5, hn5⟩ : ∃ n, n = wr.heap.size := ⟨_, rfl⟩
      have x5 : w5.heap[n5]? = some (Obj.cells #[.string x.by_, .int .i64 x.number, .int .i64 x.rev, .int .i64 x.kind, .int .i64 x.from_, .int .i64 x.until_, .int .i64 x.mlo, .int .i64 x.mhi] 58) := by rw [hw5, hn5]; exact blk_new _ _
      have hE5 : Ext2 wr w5 := by rw [hw5]; exact below_alloc' _ _
      have X4 := Lib.hid (Ext2.blk hE5 X4.out)
      have HE5 := Lib.hid (ext_trans HEK.out hE5)
      rw [← hn5]
      clear hw5 hn5 hE5
      have q5c := cell_blk x5
      have q5f := frz_blk x5
      go_wp2_with (fail)
      (with_reducible refine (HST.out _ HE5.out).mono ?_)
      rintro e w6 ⟨rfl, hE6⟩
      have x5 := Ext2.blk hE6 x5
      have x4 := Ext2.blk hE6 X4.out
      have X4 := Lib.hid x4
      have HE6 := Lib.hid (ext_trans HE5.out hE6)
      clear q5c q5f hE6
      have q5c := cell_blk x5
      have q5f := frz_blk x5
      have q4c := cell_blk x4
      have q4f := frz_blk x4
      clear x5 x4
      by_cases hE0 : E = 0
      · subst hE0
        by_cases hu : fr ≤ x.until_
        · have hne : taskE T k = 4 := by rw [HTE.out, if_neg (by simp), if_pos hu]
          have HF : Hid (checkV T = (3, (k : Int), 4)) := Lib.hid (by rw [HC3.out, fstE_at HALL.out (by rw [hne]; decide) hlt, if_pos hlt, hne])
          clear hne
          go_wp2_with (fail)
          go_ret3
          exact chk_out HF.out HE6.out
        · have hne : taskE T k = 0 := by rw [HTE.out, if_neg (by simp), if_neg hu]
          have HNE := Lib.hid hne
          clear hne
          go_wp2_with (fail)
          go_roundw
          case rel =>
            refine ⟨k + 1, rfl, by go_num, by omega, fun j hj => ?_, HE6.out, X4.out⟩
            rcases Nat.lt_or_ge j k with h' | h'
            · exact HALL.out j h'
            · obtain rfl : j = k := by omega
              exact HNE.out
          case measure => simp [intOf]; omega
      · have hb : (E != 0) = true := by simpa using hE0
        have hne : taskE T k = E := by rw [HTE.out, if_pos hE0]
        have HF : Hid (checkV T = (3, (k : Int), E)) := Lib.hid (by rw [HC3.out, fstE_at HALL.out (by rw [hne]; exact hE0) hlt, if_pos hlt, hne])
        clear hne hE0
        go_wp2_with (fail)
        go_ret3
        exact chk_out HF.out HE6.out
    · obtain rfl : nn = k := by omega
      have HF : Hid (checkV T = (0, 0, 0)) := Lib.hid (by rw [HC3.out, fstE_none HALL.out, if_neg (Nat.lt_irrefl _)])
      clear x4
      go_wp2_with (fail)
      go_ret3
      exact chk_out HF.out HEK.out
end Go.Proofs.YtapeakbngligaaaGreatDoor
