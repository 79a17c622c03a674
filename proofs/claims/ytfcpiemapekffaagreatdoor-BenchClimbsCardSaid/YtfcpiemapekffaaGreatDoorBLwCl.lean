/-
  law.BenchClimbs, walked.
-/
import Derived.Test.YtfcpiemapekffaaGreatDoorBAwk
import Derived.Test.YtfcpiemapekffaaGreatDoorBPlQ
import Derived.Test.YtfcpiemapekffaaGreatDoorBCoP
import Derived.Test.YtfcpiemapekffaaGreatDoorBRCk
namespace Go.Proofs.YtfcpiemapekffaaGreatDoor
open Go.RowKit D
set_option linter.unusedVariables false
set_option linter.unusedSimpArgs false
attribute [local go_sem high] run_minI run_maxI
attribute [local go_sem] upon2 cls_cell cls_frozen forall_const exists_eq_left'
attribute [local go_sem] FirstUpon atBlk_cell
attribute [local go_sem high] run_maxI
set_option maxRecDepth 100000 in
set_option maxHeartbeats 8000000 in
theorem lawClimbs_any {T : Task} {t : TSl} {f : Int} {w : World} (hT : TaskAt w T t) (hf : -9223372036854775808 ≤ f ∧ f ≤ 9223372036854775807) (hm : MaxAt w) : Calls Tryz.prog 10 #[.agg #[.string T.reel.name, .int .i64 T.reel.gauge, .int .i64 T.reel.base, .int .i64 T.reel.frames, .int .i64 T.reel.ylo, .int .i64 T.reel.yhi, .int .i64 T.reel.keep, .slice t.r.m.a T.reel.marks.length t.r.m.cap, .slice t.r.s.a T.reel.syms.length t.r.s.cap, .slice t.r.l.a T.reel.lens.length t.r.l.cap, .int .i64 T.whole.lo, .int .i64 T.whole.hi, .slice t.n.a T.notes.length t.n.cap], .int .i64 f] w fun e w' => e = .returned (.bool true) ∧ Below w.heap.size w w' := by
  have HPL := Lib.hid fun (W : World) (hW : Ext2 w W) (x : Int) => placeF_any (f := x) (hT.below hW) (hm.below hW)
  have HCK := Lib.hid fun (W : World) (hW : Ext2 w W) => checkR_any (hT.below hW)
  have HPI := Lib.hid fun (W : World) (hW : Ext2 w W) => piecesF_any (hT.below hW) (hm.below hW)
  have HA := Lib.hid fun (W : World) (hW : Ext2 w W) => awake_any (hm.below hW)
  have hno := place_no (T := T) (f := f)
  have hcl := fun a => climb_all (T := T) (f := f) (a := a)
  have HP1 := Lib.hid fun (W : World) (hW : Ext2 w W) => HPL.out W hW f
  obtain ⟨⟨⟨al, ah⟩, e1⟩, hP⟩ : ∃ p, p = placeAns T f := ⟨_, rfl⟩
  rw [← hP] at HP1 hno
  have hcl1 := fun h => hcl ⟨al, ah⟩ (hP.symm.trans h)
  obtain ⟨⟨c1, c2, c3⟩, hC⟩ : ∃ p, p = checkV T := ⟨_, rfl⟩
  have hc3 : (checkV T).2.2 = c3 := by rw [← hC]
  unfold PlcOut at HP1 HPL; unfold ChkOut at HCK; unfold PieOut at HPI
  rw [← hC] at HCK
  dsimp only at HP1 HCK hno
  have HNO := Lib.hid hno; have HCL := Lib.hid hcl1; have HC3 := Lib.hid hc3
  clear hT hm hno hcl hcl1 hP hC hc3 hf
  go_enter Tryz.func10, Tryz.ntmps10
  go_upto_region 1 with (fail)
  refine wp_name ?_
  intro w3 hw3
  obtain ⟨n2, hn2⟩ : ∃ n, n = w.heap.size := ⟨_, rfl⟩
  have x2 : w3.heap[n2]? = some (Obj.cells #[.string T.reel.name, .int .i64 T.reel.gauge, .int .i64 T.reel.base, .int .i64 T.reel.frames, .int .i64 T.reel.ylo, .int .i64 T.reel.yhi, .int .i64 T.reel.keep, .slice t.r.m.a T.reel.marks.length t.r.m.cap, .slice t.r.s.a T.reel.syms.length t.r.s.cap, .slice t.r.l.a T.reel.lens.length t.r.l.cap, .int .i64 T.whole.lo, .int .i64 T.whole.hi, .slice t.n.a T.notes.length t.n.cap] 38) := by rw [hw3, hn2]; exact blk_new _ _
  have hE3 : Ext2 w w3 := by rw [hw3]; exact below_alloc' _ _
  rw [← hn2]
  have HE3 := Lib.hid hE3; have X2 := Lib.hid x2
  clear hw3 hn2 hE3
  have q2c := cell_blk x2
  have q2f := frz_blk x2
  clear x2
  go_wp2_with (fail)
  (with_reducible refine (HP1.out _ HE3.out).mono ?_)
  rintro e w4 ⟨rfl, hE4⟩
  have HE4 := Lib.hid (ext_trans HE3.out hE4); have HW4 := Lib.hid hE4
  clear q2c q2f hE4
  go_upto_region 2 with (fail)
  refine wp_name ?_
  intro w5 hw5
  obtain ⟨n5, hn5⟩ : ∃ n, n = w4.heap.size := ⟨_, rfl⟩
  have x5 : w5.heap[n5]? = some (Obj.cells #[.int .i64 (al), .int .i64 (ah)] 31) := by rw [hw5, hn5]; exact blk_new _ _
  have hE5 : Ext2 w4 w5 := by rw [hw5]; exact below_alloc' _ _
  have HE5 := Lib.hid (ext_trans HE4.out hE5)
  have x2 := Ext2.blk (ext_trans HW4.out hE5) X2.out
  rw [← hn5]
  have X25 := Lib.hid x2; have X5 := Lib.hid x5
  clear hw5 hn5 hE5 HE4 HW4 X2 x5 HE3
  have q2c := cell_blk x2
  have q2f := frz_blk x2
  clear x2
  go_wp2_with (fail)
  (with_reducible refine (HCK.out _ HE5.out).mono ?_)
  rintro e w6 ⟨rfl, hE6⟩
  have HE6 := Lib.hid (ext_trans HE5.out hE6)
  have X26 := Lib.hid (Ext2.blk hE6 X25.out); have X56 := Lib.hid (Ext2.blk hE6 X5.out)
  have x2 := X26.out; have x5 := X56.out
  clear q2c q2f hE6 X25 X5 HE5
  by_cases he : e1 = 0
  case neg =>
    have hb : (e1 != 0) = true := by simpa using he
    have hz := HNO.out he
    simp only [Span.mk.injEq] at hz
    obtain ⟨rfl, rfl⟩ := hz
    have HA6 := Lib.hid (HA.out _ HE6.out)
    have q5c := cell_blk x5
    have q5f := frz_blk x5
    clear he x5 x2
    go_wp2_with (fail)
    (with_reducible refine HA6.out.mono ?_)
    rintro e w7 ⟨rfl, hE7⟩
    have HE7 := Lib.hid (ext_trans HE6.out hE7)
    clear hE7
    go_wp2_with (fail)
    go_ret
    exact ⟨rfl, HE7.out⟩
  subst he
  have hC := HCL.out rfl
  have h0 := hC.chk
  obtain rfl : c3 = 0 := by rw [← HC3.out]; exact h0
  obtain ⟨hlo, hfr, hpc, hnx⟩ := (⟨hC.lo, hC.fr, hC.pc, hC.next⟩ : _ ∧ _ ∧ _ ∧ _)
  have HPI2 := Lib.hid fun (W : World) (hW : Ext2 w W) => (HPI.out W hW).mono fun e w' (h : _) => (⟨h.2.resolve_left (fun g => g.1 h0), h.1⟩ : _ ∧ _)
  obtain ⟨P, hPP⟩ : ∃ P, P = pieceK (standV T.notes) T.reel.frames.toNat := ⟨_, rfl⟩
  rw [← hPP] at HPI2 hpc hnx
  obtain ⟨m, hmm⟩ : ∃ m, m = P.length := ⟨_, rfl⟩
  rw [← hmm] at HPI2
  have HMM := Lib.hid hmm; have HPC := Lib.hid hpc; have HNX := Lib.hid hnx
  clear HPI HCL HC3 h0 hC hpc hnx hPP hmm HNO HCK
  have q2c := cell_blk x2
  have q2f := frz_blk x2
  clear x2 x5
  go_wp2_with (fail)
  (with_reducible refine (HPI2.out _ HE6.out).mono ?_)
  rintro e w7 ⟨⟨-, ⟨pa, pcap⟩, rfl, hps⟩, hE7⟩
  have HE7 := Lib.hid (ext_trans HE6.out hE7)
  have X27 := Lib.hid (Ext2.blk hE7 X26.out); have X57 := Lib.hid (Ext2.blk hE7 X56.out)
  have hpl := hps.le; have hpm := hps.max
  rw [← HMM.out] at hpl
  dsimp only at hpl hpm
  have HPS := Lib.hid hps
  have x5 := X57.out
  clear q2c q2f hE7 hps X26 X56 HE6 HPI2
  have q5c := cell_blk x5
  have q5f := frz_blk x5
  clear x5
  have g1 : ¬ ah < al := by omega
  have g2 : ¬ al < 0 := by omega
  go_wp2_with (fail)
  clear q5c q5f g1 g2
  go_loopw [11] (fun iv wr => ∃ k : Nat, iv = .int .i64 k ∧ k ≤ m ∧ Ext2 w7 wr) (fun i _ => m - (intOf i).toNat)
  case atStart => exact ⟨0, rfl, by omega, Below.refl _ _⟩
  case round =>
    obtain ⟨k, rfl, hk, hE⟩ := hrel
    have HEr := Lib.hid hE
    have HE := Lib.hid (ext_trans HE7.out hE)
    clear hE
    by_cases hlt : k < m
    · go_light
      have hkl : k < P.length := by rw [← HMM.out]; exact hlt
      obtain ⟨b, off, hla, d0, d1, d2⟩ := pc_cells (RowS.below HPS.out HEr.out) hkl
      dsimp only at hla
      subst hla
      have hmem : pcD P k ∈ P := by unfold pcD; rw [List.getD_eq_getElem?_getD, List.getElem?_eq_getElem hkl]; exact List.getElem_mem hkl
      have hpc := HPC.out _ hmem
      have hnx := HNX.out _ hmem
      obtain ⟨p, hp⟩ : ∃ p, p = pcD P k := ⟨_, rfl⟩
      rw [← hp] at d0 d1 d2 hpc hnx
      obtain ⟨pf, pu, pl⟩ := p
      dsimp only at d0 d1 d2 hpc hnx
      have HNXK := Lib.hid hnx
      have h0 : (0 : Int) ≤ (k : Int) := by omega
      have h1 : (k : Int) < (m : Int) := by omega
      have w1' : IntKind.i64.wrap ((k : Int) + 1) = (k : Int) + 1 := IntWalk.i64_in _ (by omega)
      have w2' : IntKind.i64.wrap (f + 1) = f + 1 := IntWalk.i64_in _ (by omega)
      clear hmem hp hnx hkl hlt
      cases pl with
      | true =>
        go_wp2_with (fail)
        clear d0 d1 d2
        go_roundw
        case rel => exact ⟨k + 1, by go_num, by omega, HEr.out⟩
        case measure => simp [intOf]; omega
      | false =>
      by_cases hu : pu < f
      · go_wp2_with (fail)
        clear d0 d1 d2
        go_roundw
        case rel => exact ⟨k + 1, by go_num, by omega, HEr.out⟩
        case measure => simp [intOf]; omega
      obtain ⟨n, hn⟩ : ∃ n, n = max pf (f + 1) := ⟨_, rfl⟩
      have HN := Lib.hid hn
      have x2 := Ext2.blk HEr.out X27.out
      have x5 := Ext2.blk HEr.out X57.out
      have X58 := Lib.hid x5
      go_upto_region 13 with (fail)
      rw [← hn]
      clear hn
      by_cases hq : pu < n
      · go_wp2_with (fail)
        clear d0 d1 d2 x2 x5
        go_roundw
        case rel => exact ⟨k + 1, by go_num, by omega, HEr.out⟩
        case measure => simp [intOf]; omega
      obtain ⟨⟨bl, bh⟩, hbe, hb1, hb2, hb3⟩ := HNXK.out rfl (by rw [← HN.out]; omega)
      rw [← HN.out] at hbe
      have HPN : Hid (∀ W, Ext2 w W → Calls Tryz.prog 24 #[.agg #[.string T.reel.name, .int .i64 T.reel.gauge, .int .i64 T.reel.base, .int .i64 T.reel.frames, .int .i64 T.reel.ylo, .int .i64 T.reel.yhi, .int .i64 T.reel.keep, .slice t.r.m.a T.reel.marks.length t.r.m.cap, .slice t.r.s.a T.reel.syms.length t.r.s.cap, .slice t.r.l.a T.reel.lens.length t.r.l.cap, .int .i64 T.whole.lo, .int .i64 T.whole.hi, .slice t.n.a T.notes.length t.n.cap], .int .i64 n] W fun e w' => e = .returned (.tuple #[.agg #[.int .i64 bl, .int .i64 bh], .int .i64 0]) ∧ Below W.heap.size W w') := Lib.hid fun W hW => by
        have h := HPL.out W hW n
        rw [hbe] at h
        exact h
      dsimp only at hb1 hb2
      simp only [Span.mk.injEq] at hb3
      have HB3 := Lib.hid hb3
      have q2c := cell_blk x2
      have q2f := frz_blk x2
      clear hbe hb3 x2 x5
      go_wp2_with (fail)
      (with_reducible refine (HPN.out _ HE.out).mono ?_)
      rintro e w8 ⟨rfl, hE8⟩
      have D0 := Lib.hid (ext_cell' hE8 d0)
      have HE8 := Lib.hid (ext_trans HE.out hE8)
      have X58 := Lib.hid (Ext2.blk hE8 X58.out)
      clear q2c q2f d0 d1 d2 hE8 HPN
      go_upto_region 15 with (fail)
      refine wp_name ?_
      intro w9 hw9
      obtain ⟨n13, hn13⟩ : ∃ n, n = w8.heap.size := ⟨_, rfl⟩
      have y13 : w9.heap[n13]? = some (Obj.cells #[.int .i64 (bl), .int .i64 (bh)] 31) := by rw [hw9, hn13]; exact blk_new _ _
      have hE9 : Ext2 w8 w9 := by rw [hw9]; exact below_alloc' _ _
      have HE9 := Lib.hid (ext_trans HE8.out hE9)
      have x5 := Ext2.blk hE9 X58.out
      have d0 := ext_cell' hE9 D0.out
      rw [← hn13]
      clear hw9 hn13 hE9 X58 D0
      have q5c := cell_blk x5
      have q5f := frz_blk x5
      have q13c := cell_blk y13
      have q13f := frz_blk y13
      clear x5 y13
      have HA9 := Lib.hid (HA.out _ HE9.out)
      have g1 : ¬ bl ≤ al := by omega
      have g2 : ¬ bh ≤ ah := by omega
      have w3' : IntKind.i64.wrap (al + 1) = al + 1 := IntWalk.i64_in _ (by omega)
      have w4' : IntKind.i64.wrap (ah + 1) = ah + 1 := IntWalk.i64_in _ (by omega)
      by_cases hw : pf ≤ f
      · have hw' : decide (pf ≤ f) = true := decide_eq_true hw
        obtain ⟨rfl, rfl⟩ := HB3.out hw
        have k1 : (al + 1 == al + 1) = true := by simp
        have k2 : (ah + 1 == ah + 1) = true := by simp
        clear HB3
        go_wp2_with (fail)
        (with_reducible refine HA9.out.mono ?_)
        rintro e wa ⟨rfl, hEa⟩
        have HEa := Lib.hid (ext_trans HE9.out hEa)
        clear hEa
        go_wp2_with (fail)
        go_ret
        exact ⟨rfl, HEa.out⟩
      · have hw' : decide (pf ≤ f) = false := decide_eq_false hw
        clear HB3
        go_wp2_with (fail)
        (with_reducible refine HA9.out.mono ?_)
        rintro e wa ⟨rfl, hEa⟩
        have HEa := Lib.hid (ext_trans HE9.out hEa)
        clear hEa
        go_wp2_with (fail)
        go_ret
        exact ⟨rfl, HEa.out⟩
    · obtain rfl : m = k := by omega
      have HAr := Lib.hid (HA.out _ HE.out)
      have hnk : ¬ (m : Int) < (m : Int) := by omega
      go_wp2_with (fail)
      (with_reducible refine HAr.out.mono ?_)
      rintro e w8 ⟨rfl, hE8⟩
      have HE8 := Lib.hid (ext_trans HE.out hE8)
      clear hE8
      go_wp2_with (fail)
      go_ret
      exact ⟨rfl, HE8.out⟩
end Go.Proofs.YtfcpiemapekffaaGreatDoor
