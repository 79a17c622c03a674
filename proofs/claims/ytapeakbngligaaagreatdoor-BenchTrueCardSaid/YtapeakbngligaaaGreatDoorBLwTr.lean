/-
  law.BenchTrue, walked.
-/
import Derived.Test.YtapeakbngligaaaGreatDoorBAwk
import Derived.Test.YtapeakbngligaaaGreatDoorBPlTw
import Derived.Test.YtapeakbngligaaaGreatDoorBTrA
import Derived.Test.YtapeakbngligaaaGreatDoorBRA
import Derived.Test.YtapeakbngligaaaGreatDoorBReg
namespace Go.Proofs.YtapeakbngligaaaGreatDoor
open Go.RowKit D
set_option linter.unusedVariables false
set_option linter.unusedSimpArgs false
attribute [local go_sem high] run_minI run_maxI
attribute [local go_sem] upon2 cls_cell cls_frozen forall_const exists_eq_left'
attribute [local go_sem] FirstUpon atBlk_cell
/-- What law.made returns. -/
def MdeP (w : World) (T : Task) (X : Lost) (e : Ending) (w' : World) : Prop := Below w.heap.size w w' ∧ ∃ (t' : TSl) (sa sh : Sl), e = .returned (.tuple #[.agg #[.string (madeT T X).reel.name, .int .i64 (madeT T X).reel.gauge, .int .i64 (madeT T X).reel.base, .int .i64 (madeT T X).reel.frames, .int .i64 (madeT T X).reel.ylo, .int .i64 (madeT T X).reel.yhi, .int .i64 (madeT T X).reel.keep, .slice t'.r.m.a (madeT T X).reel.marks.length t'.r.m.cap, .slice t'.r.s.a (madeT T X).reel.syms.length t'.r.s.cap, .slice t'.r.l.a (madeT T X).reel.lens.length t'.r.l.cap, .int .i64 (madeT T X).whole.lo, .int .i64 (madeT T X).whole.hi, .slice t'.n.a (madeT T X).notes.length t'.n.cap], .slice sa.a (mdV X).all.length sa.cap, .slice sh.a (mdV X).ahead.length sh.cap]) ∧ TaskAt w' (madeT T X) t' ∧ IntsS w' sa (mdV X).all ∧ IntsS w' sh (mdV X).ahead
set_option maxRecDepth 100000 in
set_option maxHeartbeats 8000000 in
theorem lawTrue_of {T : Task} {t : TSl} {X : Lost} {q : LSl} {f : Int} {w : World} (hT : TaskAt w T t) (hX : LostAt w X q) (hf : 0 ≤ f ∧ f ≤ 65535) (hm : MaxAt w) (hmd : ∀ W, Ext2 w W → Calls Tryz.prog 5 #[.agg #[.string T.reel.name, .int .i64 T.reel.gauge, .int .i64 T.reel.base, .int .i64 T.reel.frames, .int .i64 T.reel.ylo, .int .i64 T.reel.yhi, .int .i64 T.reel.keep, .slice t.r.m.a T.reel.marks.length t.r.m.cap, .slice t.r.s.a T.reel.syms.length t.r.s.cap, .slice t.r.l.a T.reel.lens.length t.r.l.cap, .int .i64 T.whole.lo, .int .i64 T.whole.hi, .slice t.n.a T.notes.length t.n.cap], .agg #[.int .u8 X.gauge, .int .u8 X.roll, .int .u16 X.first, .slice q.p.a X.pieces.length q.p.cap, .slice q.l.a X.leaders.length q.l.cap, .slice q.x.a X.wide.length q.x.cap, .slice q.n.a X.noted.length q.n.cap, .int .u8 X.end_, .int .u8 X.least, .int .u8 X.most]] W (MdeP W T X)) : Calls Tryz.prog 3 #[.agg #[.string T.reel.name, .int .i64 T.reel.gauge, .int .i64 T.reel.base, .int .i64 T.reel.frames, .int .i64 T.reel.ylo, .int .i64 T.reel.yhi, .int .i64 T.reel.keep, .slice t.r.m.a T.reel.marks.length t.r.m.cap, .slice t.r.s.a T.reel.syms.length t.r.s.cap, .slice t.r.l.a T.reel.lens.length t.r.l.cap, .int .i64 T.whole.lo, .int .i64 T.whole.hi, .slice t.n.a T.notes.length t.n.cap], .agg #[.int .u8 X.gauge, .int .u8 X.roll, .int .u16 X.first, .slice q.p.a X.pieces.length q.p.cap, .slice q.l.a X.leaders.length q.l.cap, .slice q.x.a X.wide.length q.x.cap, .slice q.n.a X.noted.length q.n.cap, .int .u8 X.end_, .int .u8 X.least, .int .u8 X.most], .int .u16 f] w fun e w' => e = .returned (.bool true) ∧ Below w.heap.size w w' := by
  have H1 := Lib.hid hmd
  have HTW := Lib.hid fun (hc : (checkV (madeT T X)).2.2 = 0) => true_walk hX.ok (T := T) hc
  unfold MdeP at H1
  have HMX := Lib.hid hm
  have HA := Lib.hid fun (W : World) (hW : Ext2 w W) => awake_any (hm.below hW)
  obtain ⟨V, hV⟩ : ∃ V, V = madeT T X := ⟨_, rfl⟩
  obtain ⟨s, hs⟩ : ∃ s, s = mdV X := ⟨_, rfl⟩
  rw [← hV, ← hs] at H1 HTW
  obtain ⟨⟨C1, C2, C⟩, hpc⟩ : ∃ p, p = checkV V := ⟨_, rfl⟩
  rw [← hpc] at HTW
  have HPC := Lib.hid hpc; have HF := Lib.hid hf; have HEN := Lib.hid hX.ok.end_
  clear hT hX hf hm hpc hV hs hmd
  go_enter Tryz.func3, Tryz.ntmps3
  go_upto_region 1 with (fail)
  refine wp_name ?_
  intro w3 hw3
  obtain ⟨n3, hn3⟩ : ∃ n, n = w.heap.size := ⟨_, rfl⟩
  obtain ⟨n4, hn4⟩ : ∃ n, n = n3 + 1 := ⟨_, rfl⟩
  have x3 : w3.heap[n3]? = some (Obj.cells #[.string T.reel.name, .int .i64 T.reel.gauge, .int .i64 T.reel.base, .int .i64 T.reel.frames, .int .i64 T.reel.ylo, .int .i64 T.reel.yhi, .int .i64 T.reel.keep, .slice t.r.m.a T.reel.marks.length t.r.m.cap, .slice t.r.s.a T.reel.syms.length t.r.s.cap, .slice t.r.l.a T.reel.lens.length t.r.l.cap, .int .i64 T.whole.lo, .int .i64 T.whole.hi, .slice t.n.a T.notes.length t.n.cap] 31) := by rw [hw3, hn3]; exact blk_alloc (blk_new _ _) _
  have x4 : w3.heap[n4]? = some (Obj.cells #[.int .u8 X.gauge, .int .u8 X.roll, .int .u16 X.first, .slice q.p.a X.pieces.length q.p.cap, .slice q.l.a X.leaders.length q.l.cap, .slice q.x.a X.wide.length q.x.cap, .slice q.n.a X.noted.length q.n.cap, .int .u8 X.end_, .int .u8 X.least, .int .u8 X.most] 36) := by rw [hw3, hn4, hn3]; exact blk_new' _ _ (by simp)
  have hE3 : Ext2 w w3 := by rw [hw3]; exact ext_trans (below_alloc' _ _) (below_alloc' _ _)
  rw [← hn3]
  try rw [← hn4]
  have HE3 := Lib.hid hE3; have X4 := Lib.hid x4
  clear hw3 hn3 hn4 hE3
  have q3c := cell_blk x3
  have q3f := frz_blk x3
  have q4c := cell_blk x4
  have q4f := frz_blk x4
  clear x3 x4
  go_wp2_with (fail)
  (with_reducible refine (H1.out _ HE3.out).mono ?_)
  rintro e w4 ⟨hE4, t', ⟨aa, ac⟩, ⟨ha, hc⟩, rfl, hVT, hAl, hAh⟩
  have HE4 := Lib.hid (ext_trans HE3.out hE4); have HVT := Lib.hid hVT; have HAL := Lib.hid hAl; have HAH := Lib.hid hAh
  have X44 := Lib.hid (Ext2.blk hE4 X4.out)
  have HCK := Lib.hid fun (W : World) (hW : Ext2 w4 W) => checkR_any (hVT.below hW)
  have HGA := Lib.hid fun (W : World) (hW : Ext2 w4 W) => gapsA_any (hVT.below hW) (HMX.out.below (ext_trans HE4.out hW))
  have HPL := Lib.hid fun (g : Int) (W : World) (hW : Ext2 w4 W) => placeF_any (f := g) (hVT.below hW) (HMX.out.below (ext_trans HE4.out hW))
  unfold GpsAOut at HGA
  unfold ChkOut at HCK
  unfold PlcOut at HPL
  rw [← HPC.out] at HCK
  dsimp only at HCK
  clear hE4 hVT hAl hAh q3c q3f q4c q4f X4 H1
  go_upto_region 2 with (fail)
  refine wp_name ?_
  intro w5 hw5
  obtain ⟨n7, hn7⟩ : ∃ n, n = w4.heap.size := ⟨_, rfl⟩
  have x7 : w5.heap[n7]? = some (Obj.cells #[.string V.reel.name, .int .i64 V.reel.gauge, .int .i64 V.reel.base, .int .i64 V.reel.frames, .int .i64 V.reel.ylo, .int .i64 V.reel.yhi, .int .i64 V.reel.keep, .slice t'.r.m.a V.reel.marks.length t'.r.m.cap, .slice t'.r.s.a V.reel.syms.length t'.r.s.cap, .slice t'.r.l.a V.reel.lens.length t'.r.l.cap, .int .i64 V.whole.lo, .int .i64 V.whole.hi, .slice t'.n.a V.notes.length t'.n.cap] 31) := by rw [hw5, hn7]; exact blk_new _ _
  have hE5 : Ext2 w4 w5 := by rw [hw5]; exact below_alloc' _ _
  rw [← hn7]
  obtain ⟨an, han⟩ : ∃ n, n = s.all.length := ⟨_, rfl⟩
  obtain ⟨hn, hhn⟩ : ∃ n, n = s.ahead.length := ⟨_, rfl⟩
  rw [← han, ← hhn]
  have HE5 := Lib.hid hE5; have X7 := Lib.hid x7; have HAN := Lib.hid han; have HHN := Lib.hid hhn
  clear hw5 hn7 hE5 han hhn
  have q7c := cell_blk x7
  have q7f := frz_blk x7
  clear x7
  go_wp2_with (fail)
  (with_reducible refine (HCK.out _ HE5.out).mono ?_)
  rintro e w6 ⟨rfl, hE6⟩
  have HE6 := Lib.hid (ext_trans HE5.out hE6)
  have X76 := Lib.hid (Ext2.blk hE6 X7.out)
  clear hE6 q7c q7f X7 HE5 HCK
  by_cases h0 : C = 0
  case neg =>
    have b1 : (C != 0) = true := by simpa using h0
    have HEA := Lib.hid (ext_trans HE4.out HE6.out)
    have HA6 := Lib.hid (HA.out _ HEA.out)
    clear h0
    go_wp2_with (fail)
    (with_reducible refine HA6.out.mono ?_)
    rintro e w9 ⟨rfl, hE9⟩
    have HE9 := Lib.hid (ext_trans HEA.out hE9)
    clear hE9
    go_wp2_with (fail)
    go_ret
    exact ⟨rfl, HE9.out⟩
  subst h0
  obtain ⟨gs, hw⟩ := HTW.out rfl
  have HW := Lib.hid hw
  rw [hw.ans] at HGA
  dsimp only at HGA
  simp only [List.length_nil] at HGA
  have h2 := hw.two
  obtain ⟨gn, hgn⟩ : ∃ n, n = gs.length := ⟨_, rfl⟩
  rw [← hgn] at HGA h2
  have HGN := Lib.hid hgn
  have g2 : ¬ (gn : Int) < 2 := by omega
  have x7 := X76.out
  have q7c := cell_blk x7
  have q7f := frz_blk x7
  clear x7 hw hgn h2 HTW
  go_wp2_with (fail)
  (with_reducible refine (HGA.out _ HE6.out).mono ?_)
  rintro e w7 ⟨hE7, ⟨ga, gc⟩, ⟨ka, kc⟩, ⟨ra, rc⟩, rfl, hG, -, -⟩
  have HE7 := Lib.hid (ext_trans HE6.out hE7); have X77 := Lib.hid (Ext2.blk hE7 X76.out); have HG := Lib.hid hG
  clear q7c q7f hE7 hG HGA X76 HE6
  go_wp2_with (fail)
  go_loopw [16] (fun iv W => ∃ k : Nat, iv = .int .i64 k ∧ k ≤ gn ∧ Ext2 w7 W) (fun iv _ => gn - (intOf iv).toNat)
  case atStart => exact ⟨0, rfl, by omega, Below.refl _ _⟩
  case round =>
    obtain ⟨k, rfl, hk, hE⟩ := hrel
    have HE := Lib.hid hE
    have hgl := HG.out.le; have hgm := HG.out.max
    rw [← HGN.out] at hgl
    dsimp only at hgl hgm
    have wk : IntKind.i64.wrap ((k : Int) + 1) = (k : Int) + 1 ∨ ¬ k < gn := by
      by_cases h : k < gn
      · exact .inl (IntWalk.i64_in _ (by omega))
      · exact .inr h
    clear hE hgl hgm
    by_cases hlt : k < gn
    · go_light
      have wk := wk.resolve_right (fun h => h hlt)
      obtain ⟨gb, goff, hga, c0, c1, c2, c3⟩ := gp_cells (RowS.below HG.out HE.out) (i := k) (by rw [← HGN.out]; exact hlt)
      obtain ⟨hgp1, hgp2⟩ := HW.out.gap k (by rw [← HGN.out]; exact hlt)
      obtain ⟨y, hy⟩ : ∃ y, y = gpD gs k := ⟨_, rfl⟩
      rw [← hy] at c0 c1 c2 c3 hgp1 hgp2
      dsimp only at hga
      subst hga
      have g3 : (0 : Int) ≤ (k : Int) := by omega
      have g4 : (k : Int) < (gn : Int) := by omega
      clear hy
      go_upto_region 12 with (fail)
      refine wp_name ?_
      intro w8 hw8
      obtain ⟨n17, hn17⟩ : ∃ n, n = wr.heap.size := ⟨_, rfl⟩
      have x17 : w8.heap[n17]? = some (Obj.cells #[.int .i64 y.frame, .int .i64 y.kind, .int .i64 y.lo, .int .i64 y.hi] 49) := by rw [hw8, hn17]; exact blk_new _ _
      have hE8 : Ext2 wr w8 := by rw [hw8]; exact below_alloc' _ _
      rw [← hn17]
      have HE8 := Lib.hid (ext_trans HE.out hE8)
      have x4 := Ext2.blk (ext_trans HE7.out HE8.out) X44.out
      have hen := HEN.out
      have we : IntKind.i64.wrap X.end_ = X.end_ := IntWalk.i64_in _ (by omega)
      clear hw8 hn17 hE8 c0 c1 c2 c3 g3 hen
      have q17c := cell_blk x17
      have q17f := frz_blk x17
      have q4c := cell_blk x4
      have q4f := frz_blk x4
      clear x17 x4
      by_cases hk3 : y.kind = 3
      · obtain ⟨l1, l2⟩ := hgp2 hk3
        have b3 : (y.kind != 3) = false := by simpa using hk3
        have m1 : decide (X.end_ < y.lo) = false := decide_eq_false (by omega)
        have m2 : decide (y.hi < X.end_) = false := decide_eq_false (by omega)
        have m3 : ¬ X.end_ < y.lo := by omega
        have m4 : ¬ y.hi < X.end_ := by omega
        clear l1 l2 hgp1 hgp2 hk3
        go_wp2_with (fail)
        go_roundw
        case rel => exact ⟨k + 1, by go_num, by omega, HE8.out⟩
        case measure => simp [intOf]; omega
      · obtain ⟨j, hj, hjl, l1, l2⟩ := hgp1 hk3
        have b3 : (y.kind != 3) = true := by simpa using hk3
        obtain ⟨b1, off1, hsa, d0⟩ := int_cell (RowS.below HAH.out (ext_trans HE7.out HE8.out)) hjl
        obtain ⟨v, hv⟩ : ∃ v, v = intD s.ahead j := ⟨_, rfl⟩
        rw [← hv] at d0 l1 l2
        dsimp only at hsa
        subst hsa
        rw [← HHN.out] at hjl
        have g5 : (0 : Int) ≤ (j : Int) := by omega
        have g6 : (j : Int) < (hn : Int) := by omega
        have g7 : ¬ (j : Int) < 0 := by omega
        have g8 : ¬ (hn : Int) ≤ (j : Int) := by omega
        have m1 : decide (v < y.lo) = false := decide_eq_false (by omega)
        have m2 : decide (y.hi < v) = false := decide_eq_false (by omega)
        have m3 : ¬ v < y.lo := by omega
        have m4 : ¬ y.hi < v := by omega
        rw [hj] at q17c
        clear l1 l2 hgp1 hgp2 hk3 hv hj
        go_wp2_with (fail)
        go_roundw
        case rel => exact ⟨k + 1, by go_num, by omega, HE8.out⟩
        case measure => simp [intOf]; omega
    · obtain rfl : gn = k := by omega
      have hnk : ¬ (gn : Int) < (gn : Int) := by omega
      have hp0 := HW.out.pos
      rw [← HAN.out] at hp0
      have hf := HF.out
      obtain ⟨fi, hfi⟩ : ∃ n : Nat, (n : Int) = f % (an : Int) := ⟨(f % an).toNat, by have := Int.emod_nonneg f (b := an) (by omega); omega⟩
      have hfl : fi < an := by have := Int.emod_lt_of_pos f (b := an) (by omega); omega
      have hrem : f.tmod (an : Int) = (fi : Int) := by rw [Int.tmod_eq_emod_of_nonneg (by omega)]; exact hfi.symm
      have hrem2 : f % (an : Int) = (fi : Int) := hfi.symm
      have wf : IntKind.i64.wrap f = f := IntWalk.i64_in _ (by omega)
      have hz1 : ¬ (an : Int) = 0 := by omega
      have hz2 : ¬ an = 0 := by omega
      have HEW := Lib.hid (ext_trans HE7.out HE.out)
      have hP := HPL.out (fi : Int) _ HEW.out
      have hfl2 : fi < s.all.length := by rw [← HAN.out]; exact hfl
      obtain ⟨b1, off1, hsa, d0⟩ := int_cell (RowS.below HAL.out HEW.out) hfl2
      have hld := HW.out.lead fi hfl2; have hpc := HW.out.pict fi hfl2
      obtain ⟨v, hv⟩ : ∃ v, v = intD s.all fi := ⟨_, rfl⟩
      rw [← hv] at d0 hld hpc
      dsimp only at hsa
      subst hsa
      have x7 := Ext2.blk HE.out X77.out
      have q7c := cell_blk x7
      have q7f := frz_blk x7
      have D0 := Lib.hid d0
      have HFL := Lib.hid hfl
      clear x7 hv hfi hfl2 hf hp0 d0
      by_cases hv0 : 0 ≤ v
      · obtain ⟨z, hz, l1, l2⟩ := hpc hv0
        rw [hz] at hP
        dsimp only at hP
        have HP := Lib.hid hP
        clear hP hz hld hpc
        go_wp2_with (fail)
        (with_reducible refine HP.out.mono ?_)
        rintro e w8 ⟨rfl, hE8⟩
        clear q7c q7f hrem hrem2 wf hz1 hz2
        go_upto_region 21 with (fail)
        refine wp_name ?_
        intro w9 hw9
        obtain ⟨n20, hn20⟩ : ∃ n, n = w8.heap.size := ⟨_, rfl⟩
        have x20 : w9.heap[n20]? = some (Obj.cells #[.int .i64 z.lo, .int .i64 z.hi] 23) := by rw [hw9, hn20]; exact blk_new _ _
        have hE9 : Ext2 w8 w9 := by rw [hw9]; exact below_alloc' _ _
        rw [← hn20]
        have d0 := ext_cell' (ext_trans hE8 hE9) D0.out
        have HE9 := Lib.hid (ext_trans HE4.out (ext_trans HEW.out (ext_trans hE8 hE9)))
        have HA9 : Hid (∀ W, Ext2 w9 W → Calls Tryz.prog 7 #[] W fun e w' => e = .returned (.bool true) ∧ Below W.heap.size W w') := Lib.hid fun W hW => HA.out W (ext_trans HE9.out hW)
        have hfl := HFL.out
        have g5 : (0 : Int) ≤ (fi : Int) := by omega
        have g6 : (fi : Int) < (an : Int) := by omega
        have e5 : decide ((0 : Int) ≤ (fi : Int)) = true := decide_eq_true g5
        have e6 : decide ((fi : Int) < (an : Int)) = true := decide_eq_true g6
        have m0 : ¬ v < 0 := by omega
        have m1 : decide (z.lo ≤ v) = true := decide_eq_true l1
        have m2 : decide (v ≤ z.hi) = true := decide_eq_true l2
        clear hw9 hn20 hE8 hE9 hfl hv0 l1 l2
        have q20c := cell_blk x20
        have q20f := frz_blk x20
        clear x20
        go_upto_region 23 with (fail)
        refine region_ev [] [0, 1, 2, 3, 4, 5, 6, 7, 8, 9, 10, 11, 12, 13, 14, 15, 16, 17, 18, 19, 20, 21, 22, 23] [] [] (by kernel_rfl) (by kernel_rfl) (by intro c a d v w h; cases d <;> exact h) ?_
        simp only [picks, List.drop_succ_cons, List.drop_zero]
        repeat (refine wpQ0_step (fun K hK => ?_); go_simp; (refine hK _ ?_; clear hK K))
        refine wpQ0_nil ?_
        repeat ((with_reducible refine wpQ2_step (fun K hK => ?_)); go_simp; first | ((with_reducible refine hK _ ?_); clear hK K) | (apply Exists.intro; refine ⟨fun x => ?_, hK _ ?_⟩; ((with_reducible exact HA9.out x.1 x.2)); clear hK K) | (refine ite_undef (fun h => (by have h_ : (none : Option Bool) = some _ := h; cases h_)) ?_; (with_reducible refine hK _ ?_); clear hK K))
        (with_reducible refine wpQ2_nil ?_)
        refine Events.none_ fun w10 hg10 => ?_
        simp only [picks, List.drop_succ_cons, List.drop_zero]
        have HE10 := Lib.hid (ext_trans HE9.out hg10)
        clear hg10
        go_wp2_with (fail)
        go_ret
        exact ⟨rfl, HE10.out⟩
      · have hz := hld (by omega)
        rw [hz] at hP
        dsimp only at hP
        have HP := Lib.hid hP
        clear hP hz hld hpc
        go_wp2_with (fail)
        (with_reducible refine HP.out.mono ?_)
        rintro e w8 ⟨rfl, hE8⟩
        clear q7c q7f hrem hrem2 wf hz1 hz2
        go_upto_region 21 with (fail)
        refine wp_name ?_
        intro w9 hw9
        have hE9 : Ext2 w8 w9 := by rw [hw9]; exact below_alloc' _ _
        have d0 := ext_cell' (ext_trans hE8 hE9) D0.out
        have HE9 := Lib.hid (ext_trans HE4.out (ext_trans HEW.out (ext_trans hE8 hE9)))
        have HA9 := Lib.hid (HA.out _ HE9.out)
        have hfl := HFL.out
        have g5 : (0 : Int) ≤ (fi : Int) := by omega
        have g6 : (fi : Int) < (an : Int) := by omega
        have m0 : v < 0 := by omega
        clear hw9 hE8 hE9 hfl hv0
        go_wp2_with (fail)
        (with_reducible refine HA9.out.mono ?_)
        rintro e w9 ⟨rfl, hE9⟩
        have HE9 := Lib.hid (ext_trans HE9.out hE9)
        clear hE9
        go_wp2_with (fail)
        go_ret
        exact ⟨rfl, HE9.out⟩
end Go.Proofs.YtapeakbngligaaaGreatDoor
