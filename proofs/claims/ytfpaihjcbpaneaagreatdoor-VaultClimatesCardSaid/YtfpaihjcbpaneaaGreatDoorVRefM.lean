/-
  ref.moved, at, own.
-/
import Derived.Test.YtfpaihjcbpaneaaGreatDoorVRefQ
import Derived.Test.YtfpaihjcbpaneaaGreatDoorVPlayC
namespace Go.Proofs.YtfpaihjcbpaneaaGreatDoor
open Go.RowKit D
set_option linter.unusedVariables false
set_option linter.unusedSimpArgs false
attribute [local go_sem high] run_minI run_maxI
attribute [local go_sem] upon2 cls_cell cls_frozen forall_const exists_eq_left'
attribute [local go_sem] FirstUpon
theorem fstM_none {S : Site} {L : List Mv} (h : ∀ i, i < L.length → mvE S (mvD L i) = 0) : ¬ fstM S L < L.length := by
  unfold fstM
  rw [firstN_none (fun i hi => by rw [h i hi]; rfl)]
  omega
theorem fstM_at {S : Site} {L : List Mv} {k : Nat} (h : ∀ i, i < k → mvE S (mvD L i) = 0) (hk : k < L.length) (he : mvE S (mvD L k) ≠ 0) : fstM S L = k := by
  unfold fstM
  exact firstN_at (fun i hi => by rw [h i hi]; rfl) (by simpa using he) hk
set_option maxRecDepth 100000 in
set_option maxHeartbeats 8000000 in
theorem movedR_any {S : Site} {s : SSl} {L : List Mv} {sl : Sl} {w : World} (hS : SiteAt w S s) (hL : MovesS w sl L) :
    Calls Tryz.prog 36 #[.agg #[.slice s.r.a S.rooms.length s.r.cap, .slice s.c.a S.cans.length s.c.cap, .int .i64 S.rlo, .int .i64 S.rhi, .slice s.p.a S.steps.length s.p.cap], .slice sl.a L.length sl.cap] w fun e w' => e = .returned (.int .i64 (movedE S L)) ∧ Below w.heap.size w w' := by
  have HS := Lib.hid hS; have HL := Lib.hid hL
  have hll := hL.le; have hlm := hL.max
  have hrl := hS.rm.le; have hrm := hS.rm.max; have hcl := hS.cn.le; have hcm := hS.cn.max
  obtain ⟨la, lc⟩ := sl
  dsimp only at hll hlm
  obtain ⟨v1, hv1⟩ : ∃ v, v = (checkV S).2.2 := ⟨_, rfl⟩
  have HV1 := Lib.hid hv1
  have H1 : Hid (∀ W, Ext2 w W → Calls Tryz.prog 52 #[.agg #[.slice s.r.a S.rooms.length s.r.cap, .slice s.c.a S.cans.length s.c.cap, .int .i64 S.rlo, .int .i64 S.rhi, .slice s.p.a S.steps.length s.p.cap]] W fun e w' => e = .returned (.int .i64 v1) ∧ Below W.heap.size W w') := Lib.hid fun W hW => by rw [hv1]; exact validR_any (HS.out.below hW)
  clear hv1 hS hL
  go_enter Tryz.func36, Tryz.ntmps36
  go_wp2_with (fail)
  refine calls_name ?_
  intro w1 hw1
  obtain ⟨n2, hn2⟩ : ∃ n, n = w.heap.size := ⟨_, rfl⟩
  have hE1 : Ext2 w w1 := by rw [hw1]; exact below_alloc' _ _
  have X2 : Hid (w1.heap[n2]? = some (Obj.cells #[.slice s.r.a S.rooms.length s.r.cap, .slice s.c.a S.cans.length s.c.cap, .int .i64 S.rlo, .int .i64 S.rhi, .slice s.p.a S.steps.length s.p.cap] 28)) := Lib.hid (by rw [hw1, hn2]; exact blk_new _ _)
  rw [← hn2]
  (with_reducible refine (H1.out _ hE1).mono ?_)
  rintro e w2 ⟨rfl, hb2⟩
  have HE2 := Lib.hid (ext_trans hE1 hb2)
  have X22 := Lib.hid (Ext2.blk hb2 X2.out)
  have l2 : w.heap.size ≤ n2 := by omega
  clear hw1 hn2 hE1 hb2
  by_cases h1 : v1 = 0
  case neg =>
    have hd : (v1 == 0) = false := beq_eq_false_iff_ne.2 h1
    have HN := Lib.hid h1
    clear h1
    go_wp2_with (fail)
    go_loopw [5, 6] (fun f5 z wr => f5 = .int .i64 v1 ∧ z = .int .i64 0 ∧ wr = w2) (fun _ _ _ => 0)
    case atStart => exact ⟨rfl, rfl, rfl⟩
    case round =>
      obtain ⟨rfl, rfl, rfl⟩ := hrel
      by_cases hl0 : (0 : Int) < (L.length : Int)
      · go_wp2_with (fail)
        go_ret
        exact ⟨ret_int (by unfold movedE; rw [← HV1.out, if_pos HN.out]), HE2.out⟩
      · go_wp2_with (fail)
        go_ret
        exact ⟨ret_int (by unfold movedE; rw [← HV1.out, if_pos HN.out]), HE2.out⟩
  subst h1
  have hd : ((0 : Int) == 0) = true := rfl
  by_cases h6 : 60 < L.length
  · have h6' : (60 : Int) < (L.length : Int) := by omega
    have HN := Lib.hid h6
    have hl0 : (0 : Int) < (L.length : Int) := by omega
    clear h6
    go_wp2_with (fail)
    go_loopw [5, 6] (fun f5 z wr => f5 = .int .i64 3 ∧ z = .int .i64 0 ∧ wr = w2) (fun _ _ _ => 0)
    case atStart => exact ⟨rfl, rfl, rfl⟩
    case round =>
      obtain ⟨rfl, rfl, rfl⟩ := hrel
      go_wp2_with (fail)
      go_ret
      exact ⟨ret_int (by unfold movedE; rw [← HV1.out, if_neg (by simp), if_pos HN.out]), HE2.out⟩
  have h6' : ¬ (60 : Int) < (L.length : Int) := by omega
  have HN6 := Lib.hid h6
  go_wp2_with (fail)
  clear hd h6'
  go_loopw [5, 6] (fun f5 z wr => ∃ (k : Nat) (x : Int), z = .int .i64 (k : Int) ∧ k ≤ L.length ∧ f5 = .int .i64 x ∧ Ext2 w2 wr ∧ ((x = 0 ∧ ∀ j, j < k → mvE S (mvD L j) = 0) ∨ (x ≠ 0 ∧ x = movedE S L))) (fun _ z _ => L.length - (intOf z).toNat)
  case atStart => exact ⟨0, 0, rfl, by omega, rfl, Below.refl _ _, .inl ⟨rfl, fun j h => absurd h (by omega)⟩⟩
  case round =>
    obtain ⟨k, x, rfl, hk, rfl, hB, hcase⟩ := hrel
    have HB := Lib.hid hB
    have HE3 := Lib.hid (ext_trans HE2.out hB)
    rcases hcase with ⟨rfl, hall⟩ | ⟨hx0, hx⟩
    case inr =>
      have HX := Lib.hid hx
      have hd : (x == 0) = false := beq_eq_false_iff_ne.2 hx0
      clear hx hB
      by_cases hl0 : (k : Int) < (L.length : Int)
      · go_wp2_with (fail)
        go_ret
        exact ⟨ret_int HX.out, HE3.out⟩
      · go_wp2_with (fail)
        go_ret
        exact ⟨ret_int HX.out, HE3.out⟩
    have HAL := Lib.hid hall
    clear hall
    by_cases hlt : k < L.length
    case neg =>
      obtain rfl : k = L.length := by omega
      have r1 : ¬ (L.length : Int) < (L.length : Int) := by omega
      clear hB
      go_wp2_with (fail)
      go_ret
      exact ⟨ret_int (by unfold movedE; rw [← HV1.out, if_neg (by simp), if_neg HN6.out, if_neg (fstM_none HAL.out)]), HE3.out⟩
    have i2 : (k : Int) < (L.length : Int) := by omega
    have i0 : (0 : Int) ≤ (k : Int) := by omega
    have i2' : decide ((k : Int) < (L.length : Int)) = true := decide_eq_true i2
    have i0' : decide ((0 : Int) ≤ (k : Int)) = true := decide_eq_true i0
    have hd : ((0 : Int) == 0) = true := rfl
    have w3' : IntKind.i64.wrap ((k : Int) + 1) = (k : Int) + 1 := IntWalk.i64_in _ (by omega)
    have w5' : IntKind.i64.wrap ((S.rooms.length : Int) - 1) = (S.rooms.length : Int) - 1 := IntWalk.i64_in _ (by omega)
    have w6' : IntKind.i64.wrap ((S.cans.length : Int) - 1) = (S.cans.length : Int) - 1 := IntWalk.i64_in _ (by omega)
    obtain ⟨b, off, h1, d0, d1, d2⟩ := mv_cells (HL.out.below HE3.out) hlt
    dsimp only at h1
    subst h1
    obtain ⟨m, hm⟩ : ∃ m, m = mvD L k := ⟨_, rfl⟩
    rw [← hm] at d0 d1 d2
    have HM := Lib.hid hm
    obtain ⟨u0, hu0⟩ : ∃ v, v = inB m.hour 0 2400 := ⟨_, rfl⟩
    obtain ⟨u1, hu1⟩ : ∃ v, v = inB m.can 0 ((S.cans.length : Int) - 1) := ⟨_, rfl⟩
    obtain ⟨u2, hu2⟩ : ∃ v, v = inB m.to_ 0 ((S.rooms.length : Int) - 1) := ⟨_, rfl⟩
    have I0 : Hid (∀ W, Calls Tryz.prog 37 #[.int .i64 m.hour, .int .i64 0, .int .i64 2400] W fun e w' => e = .returned (.bool u0) ∧ Below W.heap.size W w') := Lib.hid fun W => by rw [hu0]; exact in_b _ _ _ W
    have I1 : Hid (∀ W, Calls Tryz.prog 37 #[.int .i64 m.can, .int .i64 0, .int .i64 ((S.cans.length : Int) - 1)] W fun e w' => e = .returned (.bool u1) ∧ Below W.heap.size W w') := Lib.hid fun W => by rw [hu1]; exact in_b _ _ _ W
    have I2 : Hid (∀ W, Calls Tryz.prog 37 #[.int .i64 m.to_, .int .i64 0, .int .i64 ((S.rooms.length : Int) - 1)] W fun e w' => e = .returned (.bool u2) ∧ Below W.heap.size W w') := Lib.hid fun W => by rw [hu2]; exact in_b _ _ _ W
    have hme : mvE S m = if u0 = false then 7 else if (u1 && u2) = false then 4 else 0 := by unfold mvE; rw [← hu0, ← hu1, ← hu2]
    have HME := Lib.hid hme; have HLT := Lib.hid hlt
    have hbad : ∀ e, e ≠ 0 → mvE S m = e → e = movedE S L := fun e he h => by
      unfold movedE
      rw [← HV1.out, if_neg (by simp), if_neg HN6.out, fstM_at HAL.out HLT.out (by rw [← HM.out, h]; exact he), if_pos HLT.out, ← HM.out, h]
    have HBAD := Lib.hid hbad
    have x2 := Ext2.blk hB X22.out
    have q2c := cell_blk x2
    have q2f := frz_blk x2
    clear hm hu0 hu1 hu2 hme hbad hB x2
    go_wp2_with (fail)
    (with_reducible refine (I0.out _).mono ?_)
    rintro e w4 ⟨rfl, hb4⟩
    have HB4 := Lib.hid (ext_trans HB.out hb4)
    have d1' := (Below.cell hb4 (cell_lt d1)).trans d1; have d2' := (Below.cell hb4 (cell_lt d2)).trans d2
    have x2 := Ext2.blk HB4.out X22.out
    clear q2c q2f d0 d1 d2 hb4
    cases u0
    case false =>
      clear x2
      go_wp2_with (fail)
      go_roundw
      case rel => exact ⟨k + 1, 7, by go_num, by omega, rfl, HB4.out, .inr ⟨by decide, HBAD.out 7 (by decide) (by rw [HME.out]; simp)⟩⟩
      case measure => simp [intOf]; omega
    have q2c := cell_blk x2
    have q2f := frz_blk x2
    clear x2
    cases u1
    case false =>
      go_wp2_with (fail)
      refine region_ev [] [0, 1, 2, 3, 4, 5, 6, 7, 8, 9, 10, 11, 12, 13, 14, 15, 16, 17, 18, 19, 20, 21, 22, 23] [] [] (by kernel_rfl) (by kernel_rfl) (by intro c a d v w h; cases d <;> exact h) ?_
      simp only [picks, List.drop_succ_cons, List.drop_zero]
      repeat (refine wpQ0_step (fun K hK => ?_); go_simp; (refine hK _ ?_; clear hK K))
      refine wpQ0_nil ?_
      repeat ((with_reducible refine wpQ2_step (fun K hK => ?_)); go_simp; first | ((with_reducible refine hK _ ?_); clear hK K) | (apply Exists.intro; refine ⟨fun x => ?_, hK _ ?_⟩; (first | (with_reducible exact I1.out x.1) | (with_reducible exact I2.out x.1)); clear hK K) | (refine ite_undef (fun h => (by have h_ : (none : Option Bool) = some _ := h; cases h_)) ?_; (with_reducible refine hK _ ?_); clear hK K))
      (with_reducible refine wpQ2_nil ?_)
      refine Events.none_ fun w5 hg5 => ?_
      simp only [picks, List.drop_succ_cons, List.drop_zero]
      have HB5 := Lib.hid (ext_trans HB4.out hg5)
      clear q2c q2f d1' d2' hg5
      go_wp2_with (fail)
      go_roundw
      case rel => exact ⟨k + 1, 4, by go_num, by omega, rfl, HB5.out, .inr ⟨by decide, HBAD.out 4 (by decide) (by rw [HME.out]; simp)⟩⟩
      case measure => simp [intOf]; omega
    cases u2
    case false =>
      go_wp2_with (fail)
      refine region_ev [] [0, 1, 2, 3, 4, 5, 6, 7, 8, 9, 10, 11, 12, 13, 14, 15, 16, 17, 18, 19, 20, 21, 22, 23] [] [] (by kernel_rfl) (by kernel_rfl) (by intro c a d v w h; cases d <;> exact h) ?_
      simp only [picks, List.drop_succ_cons, List.drop_zero]
      repeat (refine wpQ0_step (fun K hK => ?_); go_simp; (refine hK _ ?_; clear hK K))
      refine wpQ0_nil ?_
      repeat ((with_reducible refine wpQ2_step (fun K hK => ?_)); go_simp; first | ((with_reducible refine hK _ ?_); clear hK K) | (apply Exists.intro; refine ⟨fun x => ?_, hK _ ?_⟩; (first | (with_reducible exact I1.out x.1) | (with_reducible exact I2.out x.1)); clear hK K) | (refine ite_undef (fun h => (by have h_ : (none : Option Bool) = some _ := h; cases h_)) ?_; (with_reducible refine hK _ ?_); clear hK K))
      (with_reducible refine wpQ2_nil ?_)
      refine Events.none_ fun w5 hg5 => ?_
      simp only [picks, List.drop_succ_cons, List.drop_zero]
      have HB5 := Lib.hid (ext_trans HB4.out hg5)
      clear q2c q2f d1' d2' hg5
      go_wp2_with (fail)
      go_roundw
      case rel => exact ⟨k + 1, 4, by go_num, by omega, rfl, HB5.out, .inr ⟨by decide, HBAD.out 4 (by decide) (by rw [HME.out]; simp)⟩⟩
      case measure => simp [intOf]; omega
    go_wp2_with (fail)
    refine region_ev [] [0, 1, 2, 3, 4, 5, 6, 7, 8, 9, 10, 11, 12, 13, 14, 15, 16, 17, 18, 19, 20, 21, 22, 23] [] [] (by kernel_rfl) (by kernel_rfl) (by intro c a d v w h; cases d <;> exact h) ?_
    simp only [picks, List.drop_succ_cons, List.drop_zero]
    repeat (refine wpQ0_step (fun K hK => ?_); go_simp; (refine hK _ ?_; clear hK K))
    refine wpQ0_nil ?_
    repeat ((with_reducible refine wpQ2_step (fun K hK => ?_)); go_simp; first | ((with_reducible refine hK _ ?_); clear hK K) | (apply Exists.intro; refine ⟨fun x => ?_, hK _ ?_⟩; (first | (with_reducible exact I1.out x.1) | (with_reducible exact I2.out x.1)); clear hK K) | (refine ite_undef (fun h => (by have h_ : (none : Option Bool) = some _ := h; cases h_)) ?_; (with_reducible refine hK _ ?_); clear hK K))
    (with_reducible refine wpQ2_nil ?_)
    refine Events.none_ fun w5 hg5 => ?_
    simp only [picks, List.drop_succ_cons, List.drop_zero]
    have HB5 := Lib.hid (ext_trans HB4.out hg5)
    clear q2c q2f d1' d2' hg5
    go_wp2_with (fail)
    go_roundw
    case rel => exact ⟨k + 1, 0, by go_num, by omega, rfl, HB5.out, .inl ⟨rfl, fun j hj => by
      by_cases hjk : j = k
      · rw [hjk, ← HM.out, HME.out]; simp
      · exact HAL.out j (by omega)⟩⟩
    case measure => simp [intOf]; omega
set_option maxRecDepth 100000 in
set_option maxHeartbeats 8000000 in
theorem atR_any {S : Site} {s : SSl} {M : List Mv} {sl : Sl} {c : Nat} {h : Int} {w : World} (hS : CansS w s.c S.cans) (hL : MovesS w sl M) (hc : c < S.cans.length) :
    Calls Tryz.prog 40 #[.agg #[.slice s.r.a S.rooms.length s.r.cap, .slice s.c.a S.cans.length s.c.cap, .int .i64 S.rlo, .int .i64 S.rhi, .slice s.p.a S.steps.length s.p.cap], .slice sl.a M.length sl.cap, .int .i64 (c : Int), .int .i64 h] w fun e w' => e = .returned (.int .i64 (atV S M c h)) ∧ Below w.heap.size w w' := by
  have HS := Lib.hid hS; have HL := Lib.hid hL
  have hll := hL.le; have hlm := hL.max
  have hcl := hS.le; have hcm := hS.max
  obtain ⟨rs, ⟨ca, cc⟩, ps⟩ := s
  obtain ⟨la, lc⟩ := sl
  dsimp only at hll hlm hcl hcm
  clear hL
  go_enter Tryz.func40, Tryz.ntmps40
  go_upto_region 1 with (fail)
  refine wp_name ?_
  intro w1 hw1
  obtain ⟨n4, hn4⟩ : ∃ n, n = w.heap.size := ⟨_, rfl⟩
  have hE1 : Ext2 w w1 := by rw [hw1]; exact below_alloc' _ _
  have x4 : w1.heap[n4]? = some (Obj.cells #[.slice rs.a S.rooms.length rs.cap, .slice ca S.cans.length cc, .int .i64 S.rlo, .int .i64 S.rhi, .slice ps.a S.steps.length ps.cap] 28) := by rw [hw1, hn4]; exact blk_new _ _
  rw [← hn4]
  have HE1 := Lib.hid hE1
  obtain ⟨cb, coff, hca, -, -, -, c3⟩ := cn_cells (hS.below hE1) hc
  dsimp only at hca
  subst hca
  obtain ⟨x, hx⟩ : ∃ x, x = (cnD S.cans c).room := ⟨_, rfl⟩
  rw [← hx] at c3
  have HX := Lib.hid hx
  have i0 : (0 : Int) ≤ (c : Int) := by omega
  have i1 : (c : Int) < (S.cans.length : Int) := by omega
  have q4c := cell_blk x4
  have q4f := frz_blk x4
  clear hw1 hn4 hE1 x4 hx hS
  go_wp2_with (fail)
  clear q4c q4f c3 i0 i1
  go_loopw [9, 10] (fun f9 z wr => ∃ k : Nat, z = .int .i64 (k : Int) ∧ k ≤ M.length ∧ f9 = .int .i64 (atK S M c h k) ∧ wr = w1) (fun _ z _ => M.length - (intOf z).toNat)
  case atStart => exact ⟨0, rfl, by omega, by rw [HX.out]; rfl, rfl⟩
  case round =>
    obtain ⟨k, rfl, hk, rfl, rfl⟩ := hrel
    obtain ⟨A, hA⟩ : ∃ A, A = atK S M c h k := ⟨_, rfl⟩
    rw [← hA]
    have HA := Lib.hid hA
    clear hA
    by_cases hlt : k < M.length
    case neg =>
      obtain rfl : k = M.length := by omega
      have r1 : ¬ (M.length : Int) < (M.length : Int) := by omega
      go_wp2_with (fail)
      go_ret
      exact ⟨ret_int HA.out, HE1.out⟩
    have i2 : (k : Int) < (M.length : Int) := by omega
    have i0 : (0 : Int) ≤ (k : Int) := by omega
    have w3' : IntKind.i64.wrap ((k : Int) + 1) = (k : Int) + 1 := IntWalk.i64_in _ (by omega)
    obtain ⟨b, off, h1, d0, d1, d2⟩ := mv_cells (HL.out.below HE1.out) hlt
    dsimp only at h1
    subst h1
    obtain ⟨m, hm⟩ : ∃ m, m = mvD M k := ⟨_, rfl⟩
    rw [← hm] at d0 d1 d2
    have hst : atK S M c h (k + 1) = if m.can = (c : Int) ∧ m.hour ≤ h then m.to_ else A := by rw [hm, HA.out]; rfl
    have HST := Lib.hid hst
    clear hm hst
    by_cases hmc : m.can = (c : Int)
    case neg =>
      have e1 : (m.can == (c : Int)) = false := beq_eq_false_iff_ne.2 hmc
      have HC := Lib.hid hmc
      clear hmc
      go_wp2_with (fail)
      go_roundw
      case rel => exact ⟨k + 1, by go_num, by omega, by rw [HST.out, if_neg (fun hh => HC.out hh.1)], trivial⟩
      case measure => simp [intOf]; omega
    have e1 : (m.can == (c : Int)) = true := beq_iff_eq.2 hmc
    have HC := Lib.hid hmc
    clear hmc
    by_cases hmh : m.hour ≤ h
    · have HH := Lib.hid hmh
      go_wp2_with (fail)
      go_roundw
      case rel => exact ⟨k + 1, by go_num, by omega, by rw [HST.out, if_pos ⟨HC.out, HH.out⟩], trivial⟩
      case measure => simp [intOf]; omega
    · have HH := Lib.hid hmh
      go_wp2_with (fail)
      go_roundw
      case rel => exact ⟨k + 1, by go_num, by omega, by rw [HST.out, if_neg (fun hh => HH.out hh.2)], trivial⟩
      case measure => simp [intOf]; omega
set_option maxRecDepth 100000 in
set_option maxHeartbeats 8000000 in
theorem ownR_any {S : Site} {s : SSl} {M : List Mv} {sl : Sl} {c n : Nat} {w : World} (hS : SiteAt w S s) (hL : MovesS w sl M) (hC : Chk S) (hM : ∀ m ∈ M, mvE S m = 0) (hc : c < S.cans.length) (hn : n ≤ 100000) :
    Calls Tryz.prog 39 #[.agg #[.slice s.r.a S.rooms.length s.r.cap, .slice s.c.a S.cans.length s.c.cap, .int .i64 S.rlo, .int .i64 S.rhi, .slice s.p.a S.steps.length s.p.cap], .slice sl.a M.length sl.cap, .int .i64 (c : Int), .int .i64 (n : Int)] w fun e w' => e = .returned (.agg #[.int .i64 (ownT S M c n).lo, .int .i64 (ownT S M c n).hi]) ∧ Below w.heap.size w w' := by
  have HS := Lib.hid hS; have HL := Lib.hid hL; have HCK := Lib.hid hC; have HM := Lib.hid hM
  have hcl := hS.cn.le; have hcm := hS.cn.max; have hrl := hS.rm.le; have hrm := hS.rm.max
  obtain ⟨⟨ra, rc⟩, ⟨ca, cc⟩, ps⟩ := s
  dsimp only at hcl hcm hrl hrm
  clear hL hC hM hS
  go_enter Tryz.func39, Tryz.ntmps39
  go_wp2_with (fail)
  refine wp_name ?_
  intro w1 hw1
  obtain ⟨n4, hn4⟩ : ∃ n, n = w.heap.size := ⟨_, rfl⟩
  obtain ⟨n8, hn8⟩ : ∃ n, n = n4 + 1 := ⟨_, rfl⟩
  have hE1 : Ext2 w w1 := by rw [hw1]; exact ext_trans (below_alloc' _ _) (below_alloc' _ _)
  have x4 : w1.heap[n4]? = some (Obj.cells #[.slice (SSl.mk ⟨ra, rc⟩ ⟨ca, cc⟩ ps).r.a S.rooms.length (SSl.mk ⟨ra, rc⟩ ⟨ca, cc⟩ ps).r.cap, .slice (SSl.mk ⟨ra, rc⟩ ⟨ca, cc⟩ ps).c.a S.cans.length (SSl.mk ⟨ra, rc⟩ ⟨ca, cc⟩ ps).c.cap, .int .i64 S.rlo, .int .i64 S.rhi, .slice (SSl.mk ⟨ra, rc⟩ ⟨ca, cc⟩ ps).p.a S.steps.length (SSl.mk ⟨ra, rc⟩ ⟨ca, cc⟩ ps).p.cap] 28) := by rw [hw1, hn4]; exact blk_alloc (blk_new _ _) _
  have x8 : w1.heap[n8]? = some (Obj.cells #[.int .i64 0, .int .i64 0] 25) := by rw [hw1, hn8, hn4]; exact blk_new' _ _ (by simp)
  rw [← hn4, ← hn8]
  have HE1 := Lib.hid hE1
  obtain ⟨cb, coff, hca, -, -, -, c3⟩ := cn_cells (HS.out.below hE1).cn hc
  dsimp only at hca
  subst hca
  obtain ⟨o1, o2⟩ := HCK.out.cans.room c hc
  obtain ⟨r0, hr0⟩ : ∃ r : Nat, (cnD S.cans c).room = (r : Int) := ⟨(cnD S.cans c).room.toNat, by omega⟩
  have HR0 := Lib.hid hr0
  rw [hr0] at c3 o1 o2
  have hr0l : r0 < S.rooms.length := by omega
  obtain ⟨rb, roff, hra, d0, d1, d2, -, -, -, -, -, -, -⟩ := rm_cells (HS.out.below hE1).rm hr0l
  dsimp only at hra
  subst hra
  obtain ⟨R, hR⟩ : ∃ R, R = rmD S.rooms r0 := ⟨_, rfl⟩
  rw [← hR] at d1 d2
  have HR := Lib.hid hR
  have i0 : (0 : Int) ≤ (c : Int) := by omega
  have i1 : (c : Int) < (S.cans.length : Int) := by omega
  have i2 : (0 : Int) ≤ (r0 : Int) := by omega
  have i3 : (r0 : Int) < (S.rooms.length : Int) := by omega
  have i0' : decide ((0 : Int) ≤ (c : Int)) = true := decide_eq_true i0
  have i1' : decide ((c : Int) < (S.cans.length : Int)) = true := decide_eq_true i1
  have i2' : decide ((0 : Int) ≤ (r0 : Int)) = true := decide_eq_true i2
  have i3' : decide ((r0 : Int) < (S.rooms.length : Int)) = true := decide_eq_true i3
  have X4 := Lib.hid x4; have X8 := Lib.hid x8
  have l4 : w.heap.size ≤ n4 := by omega
  have l8 : w.heap.size ≤ n8 := by omega
  have q4c := cell_blk x4
  have q4f := frz_blk x4
  clear hw1 hn4 hn8 hE1 x4 x8 hr0 hR d0
  refine region_ev [] [0, 1, 2, 3, 4, 5, 6, 7, 8, 9, 10] [(11, 9, some 12)] [] (by kernel_rfl) (by kernel_rfl) (by intro c a d v w h; cases d <;> exact h) ?_
  simp only [picks, List.drop_succ_cons, List.drop_zero]
  repeat (refine wpQ0_step (fun K hK => ?_); go_simp; (refine hK _ ?_; clear hK K))
  refine wpQ0_nil ?_
  repeat ((with_reducible refine wpQ2_step (fun K hK => ?_)); go_simp; first | ((with_reducible refine hK _ ?_); clear hK K) | (apply Exists.intro; refine ⟨fun x => ?_, hK _ ?_⟩; (fail); clear hK K))
  refine wpQ2_nil ?_
  refine Events.fill1 (fun b => .pointer (some ⟨b, 0, none⟩)) (Obj.cells #[.int .i64 0, .int .i64 0] 25) (Obj.cells #[.int .i64 R.tlo, .int .i64 R.thi] 25) ⟨_, rfl, rfl, rfl, fun W => by kernel_rfl⟩ ⟨_, rfl, rfl, rfl, fun b W hb => ?_⟩ fun n9 w2 hn9 hg2 nn9 => ?_
  · have hbc := cell_blk hb; have hbf := frz_blk hb; go_simp; exact turn_two hb _ _
  simp only [picks, List.drop_succ_cons, List.drop_zero]
  have HE2 := Lib.hid (ext_trans HE1.out hg2)
  have X42 := Lib.hid (Ext2.blk hg2 X4.out); have X82 := Lib.hid (Ext2.blk hg2 X8.out); have X92 := Lib.hid nn9
  have l84 : n8 < n9 := by have := blk_lt X8.out; omega
  have l48 : n4 < n9 := by have := blk_lt X4.out; omega
  have hHR : ∀ W, Ext2 w W → ∀ r : Nat, r < S.rooms.length → ∀ u, TIn u → Calls Tryz.prog 41 #[.agg #[.slice (SSl.mk ⟨some ⟨rb, roff, none⟩, rc⟩ ⟨some ⟨cb, coff, none⟩, cc⟩ ps).r.a S.rooms.length (SSl.mk ⟨some ⟨rb, roff, none⟩, rc⟩ ⟨some ⟨cb, coff, none⟩, cc⟩ ps).r.cap, .slice (SSl.mk ⟨some ⟨rb, roff, none⟩, rc⟩ ⟨some ⟨cb, coff, none⟩, cc⟩ ps).c.a S.cans.length (SSl.mk ⟨some ⟨rb, roff, none⟩, rc⟩ ⟨some ⟨cb, coff, none⟩, cc⟩ ps).c.cap, .int .i64 S.rlo, .int .i64 S.rhi, .slice (SSl.mk ⟨some ⟨rb, roff, none⟩, rc⟩ ⟨some ⟨cb, coff, none⟩, cc⟩ ps).p.a S.steps.length (SSl.mk ⟨some ⟨rb, roff, none⟩, rc⟩ ⟨some ⟨cb, coff, none⟩, cc⟩ ps).p.cap], .agg #[.int .i64 u.lo, .int .i64 u.hi], .int .i64 (r : Int)] W fun e w' => e = .returned (.agg #[.int .i64 (warmV S (rmD S.rooms r) u).lo, .int .i64 (warmV S (rmD S.rooms r) u).hi]) ∧ Below W.heap.size W w' := fun W hW r hr u hu => hourR_any (HS.out.below hW) hr HCK.out.rates (HCK.out.room hr).1 hu
  have HHR := Lib.hid hHR
  have hAT : ∀ W, Ext2 w W → ∀ h : Int, Calls Tryz.prog 40 #[.agg #[.slice (SSl.mk ⟨some ⟨rb, roff, none⟩, rc⟩ ⟨some ⟨cb, coff, none⟩, cc⟩ ps).r.a S.rooms.length (SSl.mk ⟨some ⟨rb, roff, none⟩, rc⟩ ⟨some ⟨cb, coff, none⟩, cc⟩ ps).r.cap, .slice (SSl.mk ⟨some ⟨rb, roff, none⟩, rc⟩ ⟨some ⟨cb, coff, none⟩, cc⟩ ps).c.a S.cans.length (SSl.mk ⟨some ⟨rb, roff, none⟩, rc⟩ ⟨some ⟨cb, coff, none⟩, cc⟩ ps).c.cap, .int .i64 S.rlo, .int .i64 S.rhi, .slice (SSl.mk ⟨some ⟨rb, roff, none⟩, rc⟩ ⟨some ⟨cb, coff, none⟩, cc⟩ ps).p.a S.steps.length (SSl.mk ⟨some ⟨rb, roff, none⟩, rc⟩ ⟨some ⟨cb, coff, none⟩, cc⟩ ps).p.cap], .slice sl.a M.length sl.cap, .int .i64 (c : Int), .int .i64 h] W fun e w' => e = .returned (.int .i64 (atV S M c h)) ∧ Below W.heap.size W w' := fun W hW h => atR_any (HS.out.below hW).cn (HL.out.below hW) hc
  have HAT := Lib.hid hAT
  clear q4c q4f hg2 d1 d2 c3 i0 i1 i2 i3 i0' i1' i2' i3' nn9 hn9 hHR hAT
  go_wp2_with (fail)
  go_loopw [10] (fun z wr => ∃ k : Nat, z = .int .i64 (k : Int) ∧ k ≤ n ∧ Below w.heap.size w wr ∧ wr.heap[n4]? = some (Obj.cells #[.slice (SSl.mk ⟨some ⟨rb, roff, none⟩, rc⟩ ⟨some ⟨cb, coff, none⟩, cc⟩ ps).r.a S.rooms.length (SSl.mk ⟨some ⟨rb, roff, none⟩, rc⟩ ⟨some ⟨cb, coff, none⟩, cc⟩ ps).r.cap, .slice (SSl.mk ⟨some ⟨rb, roff, none⟩, rc⟩ ⟨some ⟨cb, coff, none⟩, cc⟩ ps).c.a S.cans.length (SSl.mk ⟨some ⟨rb, roff, none⟩, rc⟩ ⟨some ⟨cb, coff, none⟩, cc⟩ ps).c.cap, .int .i64 S.rlo, .int .i64 S.rhi, .slice (SSl.mk ⟨some ⟨rb, roff, none⟩, rc⟩ ⟨some ⟨cb, coff, none⟩, cc⟩ ps).p.a S.steps.length (SSl.mk ⟨some ⟨rb, roff, none⟩, rc⟩ ⟨some ⟨cb, coff, none⟩, cc⟩ ps).p.cap] 28) ∧ wr.heap[n8]? = some (Obj.cells #[.int .i64 0, .int .i64 0] 25) ∧ wr.heap[n9]? = some (Obj.cells #[.int .i64 (ownT S M c k).lo, .int .i64 (ownT S M c k).hi] 25)) (fun z _ => n - (intOf z).toNat)
  case atStart => exact ⟨0, rfl, by omega, HE2.out, X42.out, X82.out, by rw [X92.out, ownT, HR0.out, Int.toNat_natCast, ← HR.out]⟩
  case round =>
    obtain ⟨k, rfl, hk, hB, x4, x8, x9⟩ := hrel
    have HB := Lib.hid hB; have X4' := Lib.hid x4; have X8' := Lib.hid x8; have X9' := Lib.hid x9
    by_cases hlt : k < n
    · go_light
      have i2 : (k : Int) < (n : Int) := by omega
      have w3' : IntKind.i64.wrap ((k : Int) + 1) = (k : Int) + 1 := IntWalk.i64_in _ (by omega)
      have hti := HCK.out.own HM.out hc k
      obtain ⟨T, hT⟩ : ∃ T, T = ownT S M c k := ⟨_, rfl⟩
      rw [← hT] at x9 hti
      obtain ⟨g1, g2⟩ := HCK.out.atIn HM.out hc (k : Int)
      obtain ⟨q, hq⟩ : ∃ q : Nat, atV S M c (k : Int) = (q : Int) := ⟨(atV S M c (k : Int)).toNat, by omega⟩
      have hql : q < S.rooms.length := by omega
      obtain ⟨T2, hT2⟩ : ∃ T2, T2 = warmV S (rmD S.rooms q) T := ⟨_, rfl⟩
      have e2 : ownT S M c (k + 1) = T2 := by rw [hT2, ownT, ← hT]; unfold rmAt; rw [hq, Int.toNat_natCast]
      have HAK : Hid (∀ W, Ext2 wr W → Calls Tryz.prog 40 #[.agg #[.slice (SSl.mk ⟨some ⟨rb, roff, none⟩, rc⟩ ⟨some ⟨cb, coff, none⟩, cc⟩ ps).r.a S.rooms.length (SSl.mk ⟨some ⟨rb, roff, none⟩, rc⟩ ⟨some ⟨cb, coff, none⟩, cc⟩ ps).r.cap, .slice (SSl.mk ⟨some ⟨rb, roff, none⟩, rc⟩ ⟨some ⟨cb, coff, none⟩, cc⟩ ps).c.a S.cans.length (SSl.mk ⟨some ⟨rb, roff, none⟩, rc⟩ ⟨some ⟨cb, coff, none⟩, cc⟩ ps).c.cap, .int .i64 S.rlo, .int .i64 S.rhi, .slice (SSl.mk ⟨some ⟨rb, roff, none⟩, rc⟩ ⟨some ⟨cb, coff, none⟩, cc⟩ ps).p.a S.steps.length (SSl.mk ⟨some ⟨rb, roff, none⟩, rc⟩ ⟨some ⟨cb, coff, none⟩, cc⟩ ps).p.cap], .slice sl.a M.length sl.cap, .int .i64 (c : Int), .int .i64 (k : Int)] W fun e w' => e = .returned (.int .i64 (q : Int)) ∧ Below W.heap.size W w') := Lib.hid fun W hW => by rw [← hq]; exact HAT.out W (below_ext HB.out hW) _
      have HHK : Hid (∀ W, Ext2 wr W → Calls Tryz.prog 41 #[.agg #[.slice (SSl.mk ⟨some ⟨rb, roff, none⟩, rc⟩ ⟨some ⟨cb, coff, none⟩, cc⟩ ps).r.a S.rooms.length (SSl.mk ⟨some ⟨rb, roff, none⟩, rc⟩ ⟨some ⟨cb, coff, none⟩, cc⟩ ps).r.cap, .slice (SSl.mk ⟨some ⟨rb, roff, none⟩, rc⟩ ⟨some ⟨cb, coff, none⟩, cc⟩ ps).c.a S.cans.length (SSl.mk ⟨some ⟨rb, roff, none⟩, rc⟩ ⟨some ⟨cb, coff, none⟩, cc⟩ ps).c.cap, .int .i64 S.rlo, .int .i64 S.rhi, .slice (SSl.mk ⟨some ⟨rb, roff, none⟩, rc⟩ ⟨some ⟨cb, coff, none⟩, cc⟩ ps).p.a S.steps.length (SSl.mk ⟨some ⟨rb, roff, none⟩, rc⟩ ⟨some ⟨cb, coff, none⟩, cc⟩ ps).p.cap], .agg #[.int .i64 T.lo, .int .i64 T.hi], .int .i64 (q : Int)] W fun e w' => e = .returned (.agg #[.int .i64 T2.lo, .int .i64 T2.hi]) ∧ Below W.heap.size W w') := Lib.hid fun W hW => by rw [hT2]; exact HHR.out W (below_ext HB.out hW) q hql T hti
      have HE2' := Lib.hid e2
      have q4c := cell_blk x4
      have q4f := frz_blk x4
      have q9c := cell_blk x9
      have q9f := frz_blk x9
      clear hB x4 x8 x9 hti hT hq hT2 e2 g1 g2
      go_wp2_with (fail)
      refine region_ev [] [0, 1, 2, 3, 4, 5, 6, 7] [] [8] (by kernel_rfl) (by kernel_rfl) (by intro c a d v w h; cases d <;> exact h) ?_
      simp only [picks, List.drop_succ_cons, List.drop_zero]
      repeat (refine wpQ0_step (fun K hK => ?_); go_simp; (refine hK _ ?_; clear hK K))
      refine wpQ0_nil ?_
      repeat ((with_reducible refine wpQ2_step (fun K hK => ?_)); go_simp; first | ((with_reducible refine hK _ ?_); clear hK K) | (apply Exists.intro; refine ⟨fun x => ?_, hK _ ?_⟩; (first | (with_reducible exact HAK.out x.1 x.2) | (with_reducible exact HHK.out x.1 x.2)); clear hK K))
      refine wpQ2_nil ?_
      refine Events.none_ fun w5 hg5 => ?_
      simp only [picks, List.drop_succ_cons, List.drop_zero]
      have HB5 := Lib.hid (below_ext HB.out hg5)
      have X45 := Lib.hid (Ext2.blk hg5 X4'.out); have X85 := Lib.hid (Ext2.blk hg5 X8'.out); have x9 := Ext2.blk hg5 X9'.out
      have X95 := Lib.hid x9
      clear q4c q4f q9c q9f hg5
      have q9c := cell_blk x9
      have q9f := frz_blk x9
      clear x9
      go_wp2_with (fail)
      go_roundw
      case rel => exact ⟨k + 1, by go_num, by omega, below_set (below_set HB5.out (by omega)) (by omega), blk_set_ne (blk_set_ne X45.out (by omega)) (by omega), blk_set_ne (blk_set_ne X85.out (by omega)) (by omega), by rw [HE2'.out]; exact Eq.trans (blk_set (blk_set X95.out _ _) _ _) rfl⟩
      case measure => simp [intOf]; omega
    · obtain rfl : k = n := by omega
      have r1 : ¬ (k : Int) < (k : Int) := by omega
      have q9c := cell_blk x9
      have q9f := frz_blk x9
      have q8c := cell_blk x8
      have q8f := frz_blk x8
      have y8 := Eq.trans (blk_set (blk_set x8 0 (.int .i64 (ownT S M c k).lo)) 1 (.int .i64 (ownT S M c k).hi)) rfl
      have c8 := cell_blk y8
      clear hB x4 x8 x9
      go_wp2_with (fail)
      refine bodyPost_ret (v := .agg #[.int .i64 (ownT S M c k).lo, .int .i64 (ownT S M c k).hi]) ?_ rfl ⟨rfl, below_set (below_set HB.out l8) l8⟩
      simp [results, Tryz.results39, go_sem, c8]
end Go.Proofs.YtfpaihjcbpaneaaGreatDoor
