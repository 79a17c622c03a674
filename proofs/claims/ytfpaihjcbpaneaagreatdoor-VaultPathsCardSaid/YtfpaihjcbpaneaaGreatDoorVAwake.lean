/-
  The law's Awake returns true.
-/
import Derived.Test.YtfpaihjcbpaneaaGreatDoorVPlayC
import Derived.Test.YtfpaihjcbpaneaaGreatDoorVPathA
import Derived.Test.YtfpaihjcbpaneaaGreatDoorVExm
namespace Go.Proofs.YtfpaihjcbpaneaaGreatDoor
open Go.RowKit D
set_option linter.unusedVariables false
set_option linter.unusedSimpArgs false
attribute [local go_sem high] run_minI run_maxI
attribute [local go_sem] upon2 cls_cell cls_frozen forall_const exists_eq_left'
attribute [local go_sem] FirstUpon
def exW : List Int := [133, 135, 0, 130, 135, 0, 133]
def exP : List Sty := [⟨0, 0⟩, ⟨1, 10⟩, ⟨2, 0⟩]
def exC : List Day := [⟨20, 218, 300, 450⟩]
theorem exPlayM : playMv exS exM = exK := by unfold playMv; rw [if_pos exMoved, exPlay]
theorem exPlayW : playWy exS exM = exW := by unfold playWy; rw [if_pos exMoved, exPlay]; rfl
theorem exPathX : pathX exS 1 ⟨20, 40⟩ 0 2 = 0 := by
  unfold pathX
  rw [if_neg (by rw [exPathE]; decide)]
  have e : bestP exS 1 ⟨20, 40⟩ (0 : Int).toNat (2 : Int).toNat = (10, [⟨0, 0⟩, ⟨1, 10⟩, ⟨2, 0⟩]) := exPath
  rw [e]; rfl
theorem exPathL : pathL exS 1 ⟨20, 40⟩ 0 2 = exP := by
  unfold pathL
  have e : bestP exS 1 ⟨20, 40⟩ (0 : Int).toNat (2 : Int).toNat = (10, [⟨0, 0⟩, ⟨1, 10⟩, ⟨2, 0⟩]) := exPath
  rw [if_pos exPathX, e]; rfl
theorem exPathH : pathH exS 1 ⟨20, 40⟩ 0 2 = 10 := by
  unfold pathH
  have e : bestP exS 1 ⟨20, 40⟩ (0 : Int).toNat (2 : Int).toNat = (10, [⟨0, 0⟩, ⟨1, 10⟩, ⟨2, 0⟩]) := exPath
  rw [if_pos exPathX, e]
theorem exWhereA : whereA exS [] (-1) = [] := if_neg (by rw [exWhere]; decide)
theorem exClimA : climA exS exM 0 1 = exC := by
  unfold climA
  have e : climV exS exK (0 : Int).toNat (1 : Int).toNat = [⟨20, 218, 300, 450⟩] := exClim
  rw [if_pos exClimE, exPlay, e]; rfl
theorem exPlayC {w : World} {s : SSl} {sl : Sl} (hS : SiteAt w exS s) (hL : MovesS w sl exM) (hm : MaxAt w) : Calls Tryz.prog 11 #[.agg #[.slice s.r.a exS.rooms.length s.r.cap, .slice s.c.a exS.cans.length s.c.cap, .int .i64 exS.rlo, .int .i64 exS.rhi, .slice s.p.a exS.steps.length s.p.cap], .slice sl.a exM.length sl.cap] w fun e w' => (∃ (a1 : Option Addr) (c1 : Nat) (sw : Sl), e = .returned (.tuple #[.slice a1 2 c1, .slice sw.a 7 sw.cap, .int .i64 0]) ∧ IntsS w' sw exW) ∧ Below w.heap.size w w' := by
  refine (playA_any hS hL hm).mono ?_
  rintro e w' ⟨sM, sW, rfl, h1, h2, h3⟩
  rw [exPlayM] at h1 ⊢
  rw [exPlayW] at h2 ⊢
  rw [exMoved]
  exact ⟨⟨sM.a, sM.cap, sW, rfl, h2⟩, h3⟩
theorem exPathC {w : World} {s : SSl} (hS : SiteAt w exS s) (hm : MaxAt w) : Calls Tryz.prog 20 #[.agg #[.slice s.r.a exS.rooms.length s.r.cap, .slice s.c.a exS.cans.length s.c.cap, .int .i64 exS.rlo, .int .i64 exS.rhi, .slice s.p.a exS.steps.length s.p.cap], .int .i64 1, .agg #[.int .i64 20, .int .i64 40], .int .i64 0, .int .i64 2] w fun e w' => (∃ sl : Sl, e = .returned (.tuple #[.slice sl.a 3 sl.cap, .int .i64 10, .int .i64 0]) ∧ RowS w' sl 2 exP.length (syC exP)) ∧ Below w.heap.size w w' := by
  have h := path_any (base := 1) (t := ⟨20, 40⟩) (fr := 0) (to := 2) hS hm
  refine h.mono ?_
  rintro e w' ⟨sl, rfl, h1, h2⟩
  rw [exPathL] at h1 ⊢
  rw [exPathX, exPathH]
  exact ⟨⟨sl, rfl, h1⟩, h2⟩
theorem exWhereC {w : World} {s : SSl} (hS : SiteAt w exS s) (hm : MaxAt w) : Calls Tryz.prog 15 #[.agg #[.slice s.r.a exS.rooms.length s.r.cap, .slice s.c.a exS.cans.length s.c.cap, .int .i64 exS.rlo, .int .i64 exS.rhi, .slice s.p.a exS.steps.length s.p.cap], .slice none 0 0, .int .i64 (-1)] w fun e w' => (∃ sl : Sl, e = .returned (.tuple #[.slice sl.a 0 sl.cap, .int .i64 7])) ∧ Below w.heap.size w w' := by
  have h := whereA_any (L := []) (sl := ⟨none, 0⟩) (h := -1) hS (rowS_nil _ _ _) hm
  refine h.mono ?_
  rintro e w' ⟨sl, rfl, h1, h2⟩
  rw [exWhereA, exWhere]
  exact ⟨⟨sl, rfl⟩, h2⟩
theorem exClimC {w : World} {s : SSl} {sl : Sl} (hS : SiteAt w exS s) (hL : MovesS w sl exM) (hm : MaxAt w) : Calls Tryz.prog 7 #[.agg #[.slice s.r.a exS.rooms.length s.r.cap, .slice s.c.a exS.cans.length s.c.cap, .int .i64 exS.rlo, .int .i64 exS.rhi, .slice s.p.a exS.steps.length s.p.cap], .slice sl.a exM.length sl.cap, .int .i64 0, .int .i64 1] w fun e w' => (∃ sc : Sl, e = .returned (.tuple #[.slice sc.a 1 sc.cap, .int .i64 0]) ∧ RowS w' sc 4 exC.length (dyC exC)) ∧ Below w.heap.size w w' := by
  refine (clim_any hS hL hm).mono ?_
  rintro e w' ⟨sc, rfl, h1, h2⟩
  rw [exClimA] at h1 ⊢
  rw [exClimE]
  exact ⟨⟨sc, rfl, h1⟩, h2⟩
theorem exDewC (w : World) : Calls Tryz.prog 45 #[.int .i64 210, .int .i64 500] w fun e w' => e = .returned (.tuple #[.int .i64 97, .int .i64 0]) ∧ Below w.heap.size w w' := by
  have h := dew_any (t := 210) (d := 500) w
  have e1 : dewR 210 500 = 97 := by kernel_rfl
  have e2 : dewE 210 500 = 0 := by kernel_rfl
  rw [e1, e2] at h
  exact h
set_option maxRecDepth 100000 in
set_option maxHeartbeats 8000000 in
theorem awake_any {w : World} (hm : MaxAt w) : Calls Tryz.prog 10 #[] w fun e w' => e = .returned (.bool true) ∧ Below w.heap.size w w' := by
  have HM := Lib.hid hm
  clear hm
  go_enter Tryz.func10, Tryz.ntmps10
  go_wp2_with (fail)
  refine (siteL_any _).mono ?_
  rintro e w0 ⟨⟨s, rfl, hS⟩, hb0⟩
  have HS0 := Lib.hid hS; have HB0 := Lib.hid hb0
  clear hS hb0
  go_wp2_with (fail)
  refine wp_name ?_
  intro w1 hw1
  obtain ⟨n1, hn1⟩ : ∃ n, n = w0.heap.size := ⟨_, rfl⟩
  have hE1 : Ext2 w0 w1 := by rw [hw1]; exact below_alloc' _ _
  have X1 : Hid (w1.heap[n1]? = some (Obj.cells #[.slice s.r.a exS.rooms.length s.r.cap, .slice s.c.a exS.cans.length s.c.cap, .int .i64 exS.rlo, .int .i64 exS.rhi, .slice s.p.a exS.steps.length s.p.cap] 28)) := Lib.hid (by rw [hw1, hn1]; exact blk_new _ _)
  have HS1 := Lib.hid (HS0.out.below hE1)
  have HB1 := Lib.hid (below_ext HB0.out hE1)
  rw [← hn1]
  clear hw1 hn1 hE1 HS0 HB0
  refine region_pair [] 0 1 [⟨[], [], [2]⟩, ⟨[3, 4, 5, 6], [], [7, 8, 9]⟩] (by kernel_rfl) (by kernel_rfl) (by intro c a d v w h; cases d <;> exact h) ?_
  simp only [picks, List.drop_succ_cons, List.drop_zero]
  refine wpQ0_nil ?_
  intro wa hEa
  have hEa : Ext2 w1 wa := hEa
  have xa := Ext2.blk hEa X1.out
  have q1c := cell_blk xa
  have q1f := frz_blk xa
  constructor
  case' left =>
    refine wpTl_cons ?_
    go_wp2_with (fail)
    refine wpTl_cons ?_
    go_wp2_with (fail)
    refine (movesL_any _).mono ?_
    rintro e wb ⟨⟨sm, rfl, hM⟩, hbb⟩
    have HEb := Lib.hid (ext_trans hEa hbb)
    have HMv := Lib.hid hM
    clear hM hbb xa q1c q1f hEa
    go_wp2_with (fail)
    refine wpTl_nil ?_
  case' right =>
    refine wpTl_cons ?_
    go_wp2_with (fail)
    refine (movesL_any _).mono ?_
    rintro e wb ⟨⟨sm, rfl, hM⟩, hbb⟩
    have HEb := Lib.hid (ext_trans hEa hbb)
    have HMv := Lib.hid hM
    have xb := Ext2.blk hbb xa
    clear hM hbb xa q1c q1f hEa
    have q1c := cell_blk xb
    have q1f := frz_blk xb
    clear xb
    go_wp2_with (fail)
    refine wpTl_cons ?_
    go_wp2_with (fail)
    refine wpTl_nil ?_
    clear q1c q1f
  all_goals
    refine wpSt_cons ?_
    simp only [picks, List.drop_succ_cons, List.drop_zero]
    refine wpQ0_nil ?_
    refine wpQ2_nil ?_
    intro wc hbc
    have hEc := ext_trans HEb.out hbc
    refine wpTl_cons ?_
    go_wp2_with (fail)
    refine (exPlayC (HS1.out.below hEc) (RowS.below HMv.out hbc) (HM.out.below (below_ext HB1.out hEc))).mono ?_
    rintro e wd ⟨⟨a1, c1, sw, rfl, hI⟩, hbd⟩
    have HEd := Lib.hid (ext_trans hEc hbd)
    have HI0 := Lib.hid hI
    clear hbc hEc hI hbd HMv HEb
    go_wp2_with (fail)
    refine wpTl_nil ?_
    refine wpSt_cons ?_
    simp only [picks, List.drop_succ_cons, List.drop_zero]
    repeat ((with_reducible refine wpQ0_step (fun K hK => ?_)); go_simp; ((with_reducible refine hK _ ?_); clear hK K))
    refine wpQ0_nil ?_
    refine wpQ2_nil ?_
    intro w2 h2
    have HE2 := Lib.hid (ext_trans HEd.out h2)
    have HI := Lib.hid (RowS.below HI0.out h2)
    clear HEd HI0 h2
    refine wpTl_cons ?_
    go_wp2_with (fail)
    refine wpTl_cons ?_
    go_wp2_with (fail)
    refine wpTl_cons ?_
    go_wp2_with (fail)
    refine wpTl_nil ?_
    refine wpSt_nil ?_
    have x2 := HE2.out.blk X1.out
    have q1c := cell_blk x2
    have q1f := frz_blk x2
    clear x2
    go_wp2_with (fail)
    have HSP : Hid (∀ W, Calls Tryz.prog 44 #[.int .i64 20, .int .i64 40] W fun e w' => e = .returned (.agg #[.int .i64 20, .int .i64 40]) ∧ Below W.heap.size W w') := Lib.hid (spanL_b 20 40)
    refine region_st [⟨[], [0, 1], [2]⟩, ⟨[], [3, 4, 5, 6, 7, 8, 9], []⟩] (by kernel_rfl) (by kernel_rfl) (by intro c a d v w h; cases d <;> exact h) ?_
    refine wpSt_cons ?_
    simp only [picks, List.drop_succ_cons, List.drop_zero]
    repeat ((with_reducible refine wpQ0_step (fun K hK => ?_)); go_simp; ((with_reducible refine hK _ ?_); clear hK K))
    refine wpQ0_nil ?_
    repeat ((with_reducible refine wpQ2_step (fun K hK => ?_)); go_simp; first | ((with_reducible refine hK _ ?_); clear hK K) | (apply Exists.intro; refine ⟨fun x => ?_, hK _ ?_⟩; ((with_reducible exact HSP.out x.1)); clear hK K))
    refine wpQ2_nil ?_
    intro w3 hw3
    refine wpTl_cons ?_
    go_wp2_with (fail)
    have hE3 := ext_trans HE2.out hw3
    refine (exPathC (HS1.out.below hE3) (HM.out.below (below_ext HB1.out hE3))).mono ?_
    rintro e w4 ⟨⟨sp, rfl, hP⟩, hb4⟩
    have HE4 := Lib.hid (ext_trans hE3 hb4)
    have HP4 := Lib.hid hP
    have HI4 := Lib.hid (RowS.below HI.out (ext_trans hw3 hb4))
    clear hE3 hw3 hb4 hP HSP q1c q1f HI HE2
    go_wp2_with (fail)
    refine wpTl_nil ?_
    refine wpSt_name ?_
    intro w5 hw5
    refine wpSt_cons ?_
    simp only [picks, List.drop_succ_cons, List.drop_zero]
    repeat ((with_reducible refine wpQ0_step (fun K hK => ?_)); go_simp; ((with_reducible refine hK _ ?_); clear hK K))
    refine wpQ0_nil ?_
    repeat ((with_reducible refine wpQ2_step (fun K hK => ?_)); go_simp; first | ((with_reducible refine hK _ ?_); clear hK K) | (apply Exists.intro; refine ⟨fun x => ?_, hK _ ?_⟩; (fail); clear hK K))
    refine wpQ2_nil ?_
    intro w6 hw6
    refine wpTl_nil ?_
    refine wpSt_nil ?_
    subst hw5
    have HE6 := Lib.hid (ext_trans HE4.out hw6)
    have HP6 := Lib.hid (RowS.below HP4.out hw6)
    have HI6 := Lib.hid (RowS.below HI4.out hw6)
    clear hw6 HE4 HP4 HI4
    go_wp2_with (fail)
    refine (exDewC _).mono ?_
    rintro e w7 ⟨rfl, hb7⟩
    have HE7 := Lib.hid (ext_trans HE6.out hb7)
    have HP7 := Lib.hid (RowS.below HP6.out hb7)
    have HI7 := Lib.hid (RowS.below HI6.out hb7)
    have x7 := HE7.out.blk X1.out
    have q1c := cell_blk x7
    have q1f := frz_blk x7
    clear x7 hb7 HE6 HP6 HI6
    go_wp2_with (fail)
    refine (exWhereC (HS1.out.below HE7.out) (HM.out.below (below_ext HB1.out HE7.out))).mono ?_
    rintro e w8 ⟨⟨swh, rfl⟩, hb8⟩
    have HE8 := Lib.hid (ext_trans HE7.out hb8)
    have HP8 := Lib.hid (RowS.below HP7.out hb8)
    have HI8 := Lib.hid (RowS.below HI7.out hb8)
    have X18 := Lib.hid (HE8.out.blk X1.out)
    clear hb8 HE7 HP7 HI7 q1c q1f
    go_wp2_with (fail)
    refine region_pair [] 0 1 [⟨[], [], [2]⟩, ⟨[3, 4, 5], [], [6, 7]⟩] (by kernel_rfl) (by kernel_rfl) (by intro c a d v w h; cases d <;> exact h) ?_
    simp only [picks, List.drop_succ_cons, List.drop_zero]
    refine wpQ0_nil ?_
    intro wa hEa
    have hEa : Ext2 w8 wa := hEa
    have xa := Ext2.blk hEa X18.out
    have q1c := cell_blk xa
    have q1f := frz_blk xa
    constructor
    case' left =>
      refine wpTl_cons ?_
      go_wp2_with (fail)
      refine wpTl_cons ?_
      go_wp2_with (fail)
      refine (movesL_any _).mono ?_
      rintro e wb ⟨⟨sm, rfl, hM⟩, hbb⟩
      have HEb := Lib.hid (ext_trans hEa hbb)
      have HMv := Lib.hid hM
      clear hM hbb xa q1c q1f hEa
      go_wp2_with (fail)
      refine wpTl_nil ?_
    case' right =>
      refine wpTl_cons ?_
      go_wp2_with (fail)
      refine (movesL_any _).mono ?_
      rintro e wb ⟨⟨sm, rfl, hM⟩, hbb⟩
      have HEb := Lib.hid (ext_trans hEa hbb)
      have HMv := Lib.hid hM
      have xb := Ext2.blk hbb xa
      clear hM hbb xa q1c q1f hEa
      have q1c := cell_blk xb
      have q1f := frz_blk xb
      clear xb
      go_wp2_with (fail)
      refine wpTl_cons ?_
      go_wp2_with (fail)
      refine wpTl_nil ?_
      clear q1c q1f
    all_goals
      refine wpSt_cons ?_
      simp only [picks, List.drop_succ_cons, List.drop_zero]
      refine wpQ0_nil ?_
      refine wpQ2_nil ?_
      intro wc hbc
      have hEc := ext_trans HEb.out hbc
      have hEc1 := ext_trans HE8.out hEc
      refine wpTl_cons ?_
      go_wp2_with (fail)
      refine (exClimC (HS1.out.below hEc1) (RowS.below HMv.out hbc) (HM.out.below (below_ext HB1.out hEc1))).mono ?_
      rintro e wd ⟨⟨scl, rfl, hC⟩, hbd⟩
      have HEd := Lib.hid (ext_trans hEc hbd)
      have HCd := Lib.hid hC
      clear hbc hEc hEc1 hC hbd HMv HEb
      go_wp2_with (fail)
      refine wpTl_nil ?_
      refine wpSt_cons ?_
      simp only [picks, List.drop_succ_cons, List.drop_zero]
      repeat ((with_reducible refine wpQ0_step (fun K hK => ?_)); go_simp; ((with_reducible refine hK _ ?_); clear hK K))
      refine wpQ0_nil ?_
      refine wpQ2_nil ?_
      intro w9 h9
      have HE9 := Lib.hid (ext_trans HEd.out h9)
      have HC9 := Lib.hid (RowS.below HCd.out h9)
      have HP9 := Lib.hid (RowS.below HP8.out HE9.out)
      have HI9 := Lib.hid (RowS.below HI8.out HE9.out)
      clear HEd HCd h9 HP8 HI8
      refine wpTl_cons ?_
      go_wp2_with (fail)
      refine wpTl_cons ?_
      go_wp2_with (fail)
      refine wpTl_nil ?_
      refine wpSt_nil ?_
      go_wp2_with (fail)
      refine calls_name ?_
      intro w10 h10
      obtain ⟨b10, hb10⟩ : ∃ b, b = w9.heap.size := ⟨_, rfl⟩
      have hE10 : Ext2 w9 w10 := by rw [h10]; exact below_alloc' _ _
      have n10 : w10.heap[b10]? = some (.cells #[.int .i64 133, .int .i64 135, .int .i64 0, .int .i64 130, .int .i64 135, .int .i64 0, .int .i64 133] 32 (0, 0)) := by rw [h10, hb10]; exact blk_new _ _
      rw [← hb10]
      clear h10 hb10
      have hR10 : IntsS w10 ⟨some ⟨b10, 0, none⟩, 7⟩ exW := rows_blk n10 (by decide) (fun i j hi hj => by
        obtain rfl : j = 0 := by omega
        rcases (show i = 0 ∨ i = 1 ∨ i = 2 ∨ i = 3 ∨ i = 4 ∨ i = 5 ∨ i = 6 by have : i < 7 := hi; omega) with rfl | rfl | rfl | rfl | rfl | rfl | rfl <;> rfl)
      have h := errs_any (RowS.below HI9.out hE10) hR10
      refine h.mono ?_
      clear h
      rintro e w11 ⟨rfl, hb11⟩
      have HE11 := Lib.hid (ext_trans HE9.out (ext_trans hE10 hb11))
      have HP11 := Lib.hid (RowS.below HP9.out (ext_trans hE10 hb11))
      have HC11 := Lib.hid (RowS.below HC9.out (ext_trans hE10 hb11))
      clear hE10 n10 hR10 hb11 HP9 HC9 HI9 HE9
      simp only [decide_true]
      go_wp2_with (fail)
      refine calls_name ?_
      intro w12 h12
      obtain ⟨b12, hb12⟩ : ∃ b, b = w11.heap.size := ⟨_, rfl⟩
      have hE12 : Ext2 w11 w12 := by rw [h12]; exact below_alloc' _ _
      have n12 : w12.heap[b12]? = some (.cells #[.int .i64 0, .int .i64 0, .int .i64 1, .int .i64 10, .int .i64 2, .int .i64 0] 93 (0, 0)) := by rw [h12, hb12]; exact blk_new _ _
      rw [← hb12]
      clear h12 hb12
      have hR12 : RowS w12 ⟨some ⟨b12, 0, none⟩, 3⟩ 2 exP.length (syC exP) := rows_blk n12 (by decide) (fun i j hi hj => by
        rcases (show i = 0 ∨ i = 1 ∨ i = 2 by have : i < 3 := hi; omega) with rfl | rfl | rfl <;> rcases (by omega : j = 0 ∨ j = 1) with rfl | rfl <;> rfl)
      have h := stays_any (RowS.below HP11.out hE12) hR12
      refine h.mono ?_
      clear h
      rintro e w13 ⟨rfl, hb13⟩
      have HE13 := Lib.hid (ext_trans HE11.out (ext_trans hE12 hb13))
      have HC13 := Lib.hid (RowS.below HC11.out (ext_trans hE12 hb13))
      clear hE12 n12 hR12 hb13 HP11 HC11 HE11
      simp only [decide_true]
      go_wp2_with (fail)
      refine (spanL_b _ _ _).mono ?_
      rintro e w14 ⟨rfl, hb14⟩
      go_wp2_with (fail)
      refine (spanL_b _ _ _).mono ?_
      rintro e w15 ⟨rfl, hb15⟩
      have HE15 := Lib.hid (ext_trans HE13.out (ext_trans hb14 hb15))
      have HC15 := Lib.hid (RowS.below HC13.out (ext_trans hb14 hb15))
      clear hb14 hb15 HE13 HC13
      go_wp2_with (fail)
      refine calls_name ?_
      intro w16 h16
      obtain ⟨b16, hb16⟩ : ∃ b, b = w15.heap.size := ⟨_, rfl⟩
      have hE16 : Ext2 w15 w16 := by rw [h16]; exact below_alloc' _ _
      have n16 : w16.heap[b16]? = some (.cells #[.int .i64 20, .int .i64 218, .int .i64 300, .int .i64 450] 79 (0, 0)) := by rw [h16, hb16]; exact blk_new _ _
      rw [← hb16]
      clear h16 hb16
      have hR16 : RowS w16 ⟨some ⟨b16, 0, none⟩, 1⟩ 4 exC.length (dyC exC) := rows_blk n16 (by decide) (fun i j hi hj => by
        obtain rfl : i = 0 := by have : i < 1 := hi; omega
        rcases (by omega : j = 0 ∨ j = 1 ∨ j = 2 ∨ j = 3) with rfl | rfl | rfl | rfl <;> rfl)
      have h := days_any (RowS.below HC15.out hE16) hR16
      refine h.mono ?_
      clear h
      rintro e w17 ⟨rfl, hb17⟩
      have HE17 := Lib.hid (ext_trans HE15.out (ext_trans hE16 hb17))
      clear hE16 n16 hR16 hb17 HC15 HE15
      simp only [decide_true]
      go_wp2_with (fail)
      go_ret
      exact ⟨rfl, below_ext HB1.out (ext_trans HE8.out HE17.out)⟩
end Go.Proofs.YtfpaihjcbpaneaaGreatDoor
