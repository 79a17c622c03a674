/-
  ref.Check, valid.
-/
import Derived.Test.YtojomdojblgegaaGreatDoorBRFl
import Derived.Test.YtojomdojblgegaaGreatDoorBRNt
namespace Go.Proofs.YtojomdojblgegaaGreatDoor
open Go.RowKit D
set_option linter.unusedVariables false
set_option linter.unusedSimpArgs false
attribute [local go_sem high] run_minI run_maxI
attribute [local go_sem] upon2 cls_cell cls_frozen forall_const exists_eq_left'
attribute [local go_sem] FirstUpon atBlk_cell
theorem ite_undef {c : Prop} [Decidable c] {A B : Prop} (hc : ¬ c) (h : B) : if c then A else B := by rw [if_neg hc]; exact h
set_option maxRecDepth 100000 in
set_option maxHeartbeats 8000000 in
theorem checkR_any {T : Task} {t : TSl} {w : World} (hT : TaskAt w T t) : Calls Tryz.prog 25 #[.agg #[.string T.reel.name, .int .i64 T.reel.gauge, .int .i64 T.reel.base, .int .i64 T.reel.frames, .int .i64 T.reel.ylo, .int .i64 T.reel.yhi, .int .i64 T.reel.keep, .slice t.r.m.a T.reel.marks.length t.r.m.cap, .slice t.r.s.a T.reel.syms.length t.r.s.cap, .slice t.r.l.a T.reel.lens.length t.r.l.cap, .int .i64 T.whole.lo, .int .i64 T.whole.hi, .slice t.n.a T.notes.length t.n.cap]] w (ChkOut w T) := by
  have HT := Lib.hid hT
  have HFI := Lib.hid fun (W : World) (hW : Ext2 w W) => filmR_any (hT.reel.below hW)
  have hnl := hT.nt.le; have hnm := hT.nt.max
  obtain ⟨⟨p1, p2, p3⟩, hp⟩ : ∃ p, p = filmV T.reel := ⟨_, rfl⟩
  have HFI2 : Hid (∀ W, Ext2 w W → Calls Tryz.prog 62 #[.agg #[.string T.reel.name, .int .i64 T.reel.gauge, .int .i64 T.reel.base, .int .i64 T.reel.frames, .int .i64 T.reel.ylo, .int .i64 T.reel.yhi, .int .i64 T.reel.keep, .slice t.r.m.a T.reel.marks.length t.r.m.cap, .slice t.r.s.a T.reel.syms.length t.r.s.cap, .slice t.r.l.a T.reel.lens.length t.r.l.cap]] W fun e w' => e = .returned (.tuple #[.int .i64 p1, .int .i64 p2, .int .i64 p3]) ∧ Below W.heap.size W w') := Lib.hid fun W hW => (HFI.out W hW).mono fun e w' ⟨h1, h2⟩ => ⟨by rw [h1, ← hp], h2⟩
  have hp3 : (filmV T.reel).2.2 = p3 := by rw [← hp]
  have HP3 := Lib.hid hp3
  obtain ⟨tr, ⟨na, nc⟩⟩ := t
  dsimp only at hnl hnm
  obtain ⟨nn, hnn⟩ : ∃ n, n = T.notes.length := ⟨_, rfl⟩
  rw [← hnn] at hnl ⊢
  have HNN := Lib.hid hnn
  obtain ⟨fr, hfr⟩ : ∃ f, f = T.reel.frames := ⟨_, rfl⟩
  have HFR := Lib.hid hfr
  rw [← hfr] at HFI2 ⊢
  clear hT HFI hp hp3 hnn hfr
  go_enter Tryz.func25, Tryz.ntmps25
  go_upto_region 1 with (fail)
  refine wp_name ?_
  intro w3 hw3
  obtain ⟨n3, hn3⟩ : ∃ n, n = w.heap.size := ⟨_, rfl⟩
  have x3 : w3.heap[n3]? = some (Obj.cells #[.string T.reel.name, .int .i64 T.reel.gauge, .int .i64 T.reel.base, .int .i64 fr, .int .i64 T.reel.ylo, .int .i64 T.reel.yhi, .int .i64 T.reel.keep, .slice tr.m.a T.reel.marks.length tr.m.cap, .slice tr.s.a T.reel.syms.length tr.s.cap, .slice tr.l.a T.reel.lens.length tr.l.cap, .int .i64 T.whole.lo, .int .i64 T.whole.hi, .slice na nn nc] 38) := by rw [hw3, hn3]; exact blk_new _ _
  have hE3 : Ext2 w w3 := by rw [hw3]; exact below_alloc' _ _
  rw [← hn3]
  have HE3 := Lib.hid hE3
  clear hw3 hn3 hE3
  have q3c := cell_blk x3
  have q3f := frz_blk x3
  go_wp2_with (fail)
  (with_reducible refine (HFI2.out _ HE3.out).mono ?_)
  rintro e w4 ⟨rfl, hE4⟩
  have x4 := Ext2.blk hE4 x3
  have HE4 := Lib.hid (ext_trans HE3.out hE4)
  have X4 := Lib.hid x4
  clear q3c q3f x3 hE4 HFI2
  have q4c := cell_blk x4
  have q4f := frz_blk x4
  clear x4
  by_cases hE0 : p3 = 0
  case neg =>
    have HF : Hid (checkV T = (1, 0, p3)) := Lib.hid (by unfold checkV; rw [HP3.out, if_pos hE0])
    have hb : (p3 != 0) = true := by simpa using hE0
    go_wp2_with (fail)
    go_ret3
    exact chk_out HF.out HE4.out
  subst hE0
  obtain ⟨v1, hv1⟩ : ∃ v, v = inB T.whole.lo 1 400000 := ⟨_, rfl⟩
  obtain ⟨v2, hv2⟩ : ∃ v, v = inB T.whole.hi 1 400000 := ⟨_, rfl⟩
  have H1 := inR_hid hv1; have H2 := inR_hid hv2
  have hcv : checkV T = if (v1 && v2) = false then ((2 : Int), (0 : Int), (7 : Int)) else if T.whole.hi < T.whole.lo then (2, 0, 2) else if 60 < nn then (3, 0, 3) else if fstE (taskE T) nn < nn then (3, ((fstE (taskE T) nn : Nat) : Int), taskE T (fstE (taskE T) nn)) else (0, 0, 0) := by
    unfold checkV; rw [HP3.out, if_neg (by simp), ← HNN.out, hv1, hv2]
  have HCV := Lib.hid hcv
  clear hcv hv1 hv2
  cases hc : (v1 && v2) with
  | false =>
    have HF : Hid (checkV T = (2, 0, 7)) := Lib.hid (by rw [HCV.out, hc]; rfl)
    rcases and_first2 hc with rfl | ⟨rfl, rfl⟩
    all_goals go_wp2_with (fail)
    all_goals (repeat ((first | (with_reducible refine (H1.out _).mono ?_) | (with_reducible refine (H2.out _).mono ?_)); rintro e w' ⟨rfl, rfl⟩; go_wp2_with (fail)))
    all_goals go_ret3
    all_goals exact chk_out HF.out HE4.out
  | true =>
  have HC2 := Lib.hid HCV.out
  rw [hc, if_neg (by simp)] at HC2
  obtain ⟨rfl, rfl⟩ := and_all2 hc
  clear hc HCV
  by_cases hwl : T.whole.hi < T.whole.lo
  · have HF : Hid (checkV T = (2, 0, 2)) := Lib.hid (by rw [HC2.out, if_pos hwl])
    go_wp2_with (fail)
    repeat ((first | (with_reducible refine (H1.out _).mono ?_) | (with_reducible refine (H2.out _).mono ?_)); rintro e w' ⟨rfl, rfl⟩; go_wp2_with (fail))
    go_ret3
    exact chk_out HF.out HE4.out
  by_cases h60 : 60 < nn
  · have HF : Hid (checkV T = (3, 0, 3)) := Lib.hid (by rw [HC2.out, if_neg hwl, if_pos h60])
    go_wp2_with (fail)
    repeat ((first | (with_reducible refine (H1.out _).mono ?_) | (with_reducible refine (H2.out _).mono ?_)); rintro e w' ⟨rfl, rfl⟩; go_wp2_with (fail))
    go_ret3
    exact chk_out HF.out HE4.out
  have HC3 := Lib.hid HC2.out
  rw [if_neg hwl, if_neg h60] at HC3
  clear HC2
  go_wp2_with (fail)
  repeat ((first | (with_reducible refine (H1.out _).mono ?_) | (with_reducible refine (H2.out _).mono ?_)); rintro e w' ⟨rfl, rfl⟩; go_wp2_with (fail))
  clear q4c q4f H1 H2
  go_loopw [8] (fun i wr => ∃ k : Nat, i = .int .i64 k ∧ k ≤ nn ∧ (∀ j, j < k → taskE T j = 0) ∧ Ext2 w wr ∧ wr.heap[n3]? = some (Obj.cells #[.string T.reel.name, .int .i64 T.reel.gauge, .int .i64 T.reel.base, .int .i64 fr, .int .i64 T.reel.ylo, .int .i64 T.reel.yhi, .int .i64 T.reel.keep, .slice tr.m.a T.reel.marks.length tr.m.cap, .slice tr.s.a T.reel.syms.length tr.s.cap, .slice tr.l.a T.reel.lens.length tr.l.cap, .int .i64 T.whole.lo, .int .i64 T.whole.hi, .slice na nn nc] 38)) (fun i _ => nn - (intOf i).toNat)
  case atStart => exact ⟨0, rfl, by omega, fun j h => absurd h (by omega), HE4.out, X4.out⟩
  case round =>
    clear HE4 X4
    obtain ⟨k, rfl, hk, hall, hE, x4⟩ := hrel
    have HALL := Lib.hid hall; have HEK := Lib.hid hE; have X4 := Lib.hid x4
    clear hall hE
    by_cases hlt : k < nn
    · go_light
      have hkl : k < T.notes.length := by rw [← HNN.out]; exact hlt
      obtain ⟨b, off, hsa, c0, c1, c2, c3, c4, c5, c6, c7⟩ := nt_cells (HT.out.nt.below HEK.out) (i := k) hkl
      dsimp only at hsa
      subst hsa
      have hsz := HT.out.sizes _ (nt_in hkl)
      have hte : taskE T k = if noteE (ntD T.notes k) ≠ 0 then noteE (ntD T.notes k) else if fr ≤ (ntD T.notes k).until_ then 4 else 0 := by rw [HFR.out]; rfl
      obtain ⟨x, hx⟩ : ∃ x, x = ntD T.notes k := ⟨_, rfl⟩
      rw [← hx] at c0 c1 c2 c3 c4 c5 c6 c7 hte hsz
      obtain ⟨E, hEx⟩ : ∃ E, E = noteE x := ⟨_, rfl⟩
      rw [← hEx] at hte
      have HST : Hid (∀ W, Ext2 w W → Calls Tryz.prog 36 #[.agg #[.string x.by_, .int .i64 x.number, .int .i64 x.rev, .int .i64 x.kind, .int .i64 x.from_, .int .i64 x.until_, .int .i64 x.mlo, .int .i64 x.mhi]] W fun e w' => e = .returned (.int .i64 E) ∧ Below W.heap.size W w') := Lib.hid fun W hW => by rw [hEx]; exact noteR_any hsz
      have HTE := Lib.hid hte
      have h0 : (0 : Int) ≤ (k : Int) := by omega
      have h1 : (k : Int) < (nn : Int) := by omega
      have w2' : IntKind.i64.wrap ((k : Int) + 1) = (k : Int) + 1 := IntWalk.i64_in _ (by omega)
      clear hte hx hEx hsz hkl x4
      have C5 := Lib.hid c5
      have x4 := X4.out
      have q4c := cell_blk x4
      have q4f := frz_blk x4
      clear x4
      go_wp2_with (fail)
      (with_reducible refine (HST.out _ HEK.out).mono ?_)
      rintro e w6 ⟨rfl, hE6⟩
      have HE6 := Lib.hid (ext_trans HEK.out hE6)
      have c5' := ext_cell' hE6 C5.out
      have x4 := Ext2.blk hE6 X4.out
      have X46 := Lib.hid x4
      clear q4c q4f c0 c1 c2 c3 c4 c5 c6 c7 hE6 C5 X4
      have q4c := cell_blk x4
      have q4f := frz_blk x4
      clear x4
      have d0 : decide ((0 : Int) ≤ (k : Int)) = true := decide_eq_true h0
      have d1 : decide ((k : Int) < (nn : Int)) = true := decide_eq_true h1
      by_cases hE0 : E = 0
      · subst hE0
        by_cases hu : fr ≤ x.until_
        · have hne : taskE T k = 4 := by rw [HTE.out, if_neg (by simp), if_pos hu]
          have HF : Hid (checkV T = (3, (k : Int), 4)) := Lib.hid (by rw [HC3.out, fstE_at HALL.out (by rw [hne]; decide) hlt, if_pos hlt, hne])
          have b1 : decide (fr ≤ x.until_) = true := decide_eq_true hu
          clear hne hu
          go_upto_region 14 with (fail)
          refine region_ev [] [0, 1, 2, 3, 4, 5, 6, 7, 8, 9, 10, 11, 12, 13] [] [] (by kernel_rfl) (by kernel_rfl) (by intro c a d v w h; cases d <;> exact h) ?_
          simp only [picks, List.drop_succ_cons, List.drop_zero]
          repeat (refine wpQ0_step (fun K hK => ?_); go_simp; (refine hK _ ?_; clear hK K))
          refine wpQ0_nil ?_
          repeat ((with_reducible refine wpQ2_step (fun K hK => ?_)); go_simp; first | ((with_reducible refine hK _ ?_); clear hK K) | (apply Exists.intro; refine ⟨fun x => ?_, hK _ ?_⟩; (fail); clear hK K) | (refine ite_undef (fun h => (by have h_ : (none : Option Bool) = some _ := h; cases h_)) ?_; (with_reducible refine hK _ ?_); clear hK K))
          (with_reducible refine wpQ2_nil ?_)
          refine Events.none_ fun w7 hg7 => ?_
          simp only [picks, List.drop_succ_cons, List.drop_zero]
          have HE7 := Lib.hid (ext_trans HE6.out hg7)
          clear q4c q4f c5' hg7
          go_wp2_with (fail)
          go_ret3
          exact chk_out HF.out HE7.out
        · have hne : taskE T k = 0 := by rw [HTE.out, if_neg (by simp), if_neg hu]
          have HNE := Lib.hid hne
          have b1 : decide (fr ≤ x.until_) = false := decide_eq_false hu
          clear hne hu
          go_upto_region 14 with (fail)
          refine region_ev [] [0, 1, 2, 3, 4, 5, 6, 7, 8, 9, 10, 11, 12, 13] [] [] (by kernel_rfl) (by kernel_rfl) (by intro c a d v w h; cases d <;> exact h) ?_
          simp only [picks, List.drop_succ_cons, List.drop_zero]
          repeat (refine wpQ0_step (fun K hK => ?_); go_simp; (refine hK _ ?_; clear hK K))
          refine wpQ0_nil ?_
          repeat ((with_reducible refine wpQ2_step (fun K hK => ?_)); go_simp; first | ((with_reducible refine hK _ ?_); clear hK K) | (apply Exists.intro; refine ⟨fun x => ?_, hK _ ?_⟩; (fail); clear hK K) | (refine ite_undef (fun h => (by have h_ : (none : Option Bool) = some _ := h; cases h_)) ?_; (with_reducible refine hK _ ?_); clear hK K))
          (with_reducible refine wpQ2_nil ?_)
          refine Events.none_ fun w7 hg7 => ?_
          simp only [picks, List.drop_succ_cons, List.drop_zero]
          have HE7 := Lib.hid (ext_trans HE6.out hg7)
          have X47 := Lib.hid (Ext2.blk hg7 X46.out)
          clear q4c q4f c5' hg7
          go_wp2_with (fail)
          go_roundw
          case rel =>
            refine ⟨k + 1, by go_num, by omega, fun j hj => ?_, HE7.out, X47.out⟩
            rcases Nat.lt_or_ge j k with h' | h'
            · exact HALL.out j h'
            · obtain rfl : j = k := by omega
              exact HNE.out
          case measure => simp [intOf]; omega
      · have hb : (E != 0) = true := by simpa using hE0
        have hne : taskE T k = E := by rw [HTE.out, if_pos hE0]
        have HF : Hid (checkV T = (3, (k : Int), E)) := Lib.hid (by rw [HC3.out, fstE_at HALL.out (by rw [hne]; exact hE0) hlt, if_pos hlt, hne])
        have hb2 : (E == 0) = false := by simpa using hE0
        clear hne hE0
        go_upto_region 14 with (fail)
        refine region_ev [] [0, 1, 2, 3, 4, 5, 6, 7, 8, 9, 10, 11, 12, 13] [] [] (by kernel_rfl) (by kernel_rfl) (by intro c a d v w h; cases d <;> exact h) ?_
        simp only [picks, List.drop_succ_cons, List.drop_zero]
        repeat (refine wpQ0_step (fun K hK => ?_); go_simp; (refine hK _ ?_; clear hK K))
        refine wpQ0_nil ?_
        repeat ((with_reducible refine wpQ2_step (fun K hK => ?_)); go_simp; first | ((with_reducible refine hK _ ?_); clear hK K) | (apply Exists.intro; refine ⟨fun x => ?_, hK _ ?_⟩; (fail); clear hK K) | (refine ite_undef (fun h => (by have h_ : (none : Option Bool) = some _ := h; cases h_)) ?_; (with_reducible refine hK _ ?_); clear hK K))
        (with_reducible refine wpQ2_nil ?_)
        refine Events.none_ fun w7 hg7 => ?_
        simp only [picks, List.drop_succ_cons, List.drop_zero]
        have HE7 := Lib.hid (ext_trans HE6.out hg7)
        clear q4c q4f c5' hg7
        go_wp2_with (fail)
        go_ret3
        exact chk_out HF.out HE7.out
    · obtain rfl : nn = k := by omega
      have HF : Hid (checkV T = (0, 0, 0)) := Lib.hid (by rw [HC3.out, fstE_none HALL.out, if_neg (Nat.lt_irrefl _)])
      have q4c := cell_blk x4
      have q4f := frz_blk x4
      clear x4
      go_wp2_with (fail)
      go_ret3
      exact chk_out HF.out HEK.out
set_option maxRecDepth 100000 in
set_option maxHeartbeats 8000000 in
theorem validR_any {T : Task} {t : TSl} {w : World} (hT : TaskAt w T t) : Calls Tryz.prog 48 #[.agg #[.string T.reel.name, .int .i64 T.reel.gauge, .int .i64 T.reel.base, .int .i64 T.reel.frames, .int .i64 T.reel.ylo, .int .i64 T.reel.yhi, .int .i64 T.reel.keep, .slice t.r.m.a T.reel.marks.length t.r.m.cap, .slice t.r.s.a T.reel.syms.length t.r.s.cap, .slice t.r.l.a T.reel.lens.length t.r.l.cap, .int .i64 T.whole.lo, .int .i64 T.whole.hi, .slice t.n.a T.notes.length t.n.cap]] w fun e w' => e = .returned (.int .i64 (checkV T).2.2) ∧ Below w.heap.size w w' := by
  have HC := Lib.hid fun (W : World) (hW : Ext2 w W) => checkR_any (hT.below hW)
  unfold ChkOut at HC
  obtain ⟨⟨p1, p2, p3⟩, hp⟩ : ∃ p, p = checkV T := ⟨_, rfl⟩
  rw [← hp] at HC ⊢
  dsimp only at HC ⊢
  clear hT hp
  go_enter Tryz.func48, Tryz.ntmps48
  go_upto_region 1 with (fail)
  refine wp_name ?_
  intro w3 hw3
  obtain ⟨n3, hn3⟩ : ∃ n, n = w.heap.size := ⟨_, rfl⟩
  have x3 : w3.heap[n3]? = some (Obj.cells #[.string T.reel.name, .int .i64 T.reel.gauge, .int .i64 T.reel.base, .int .i64 T.reel.frames, .int .i64 T.reel.ylo, .int .i64 T.reel.yhi, .int .i64 T.reel.keep, .slice t.r.m.a T.reel.marks.length t.r.m.cap, .slice t.r.s.a T.reel.syms.length t.r.s.cap, .slice t.r.l.a T.reel.lens.length t.r.l.cap, .int .i64 T.whole.lo, .int .i64 T.whole.hi, .slice t.n.a T.notes.length t.n.cap] 38) := by rw [hw3, hn3]; exact blk_new _ _
  have hE3 : Ext2 w w3 := by rw [hw3]; exact below_alloc' _ _
  rw [← hn3]
  have HE3 := Lib.hid hE3
  clear hw3 hn3 hE3
  have q3c := cell_blk x3
  have q3f := frz_blk x3
  clear x3
  go_wp2_with (fail)
  (with_reducible refine (HC.out _ HE3.out).mono ?_)
  rintro e w4 ⟨rfl, hE4⟩
  have HE4 := Lib.hid (ext_trans HE3.out hE4)
  clear q3c q3f hE4
  go_wp2_with (fail)
  go_ret
  exact ⟨rfl, HE4.out⟩
end Go.Proofs.YtojomdojblgegaaGreatDoor
