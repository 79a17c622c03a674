/-
  ref.Near.
-/
import Derived.Test.YtfpaihjcbpaneaaGreatDoorVRefP
namespace Go.Proofs.YtfpaihjcbpaneaaGreatDoor
open Go.RowKit D
set_option linter.unusedVariables false
set_option linter.unusedSimpArgs false
attribute [local go_sem high] run_minI run_maxI
attribute [local go_sem] upon2 cls_cell cls_frozen forall_const exists_eq_left'
attribute [local go_sem] FirstUpon
theorem near_bad {S : Site} {wh : List Int} {k : Nat} (h1 : (checkV S).2.2 = 0) (h2 : (wh.length : Int) = S.cans.length) (hk : k < wh.length) (hb : outR S (intD wh k) = true) (ha : ∀ j, j < k → outR S (intD wh j) = false) : nearE S wh = 4 := by
  unfold nearE
  rw [if_neg (by simpa using h1), if_neg (by simpa using h2), if_pos]
  unfold anyF
  rw [firstN_at (k := k) ha hb hk]
  exact decide_eq_true hk
theorem near_good {S : Site} {wh : List Int} (h1 : (checkV S).2.2 = 0) (h2 : (wh.length : Int) = S.cans.length) (ha : ∀ j, j < wh.length → outR S (intD wh j) = false) : nearE S wh = 0 := by
  unfold nearE
  rw [if_neg (by simpa using h1), if_neg (by simpa using h2), if_neg]
  unfold anyF
  rw [firstN_none ha]
  simp
set_option maxRecDepth 100000 in
set_option maxHeartbeats 8000000 in
theorem nearAR_any {S : Site} {s : SSl} {wh : List Int} {sl : Sl} {w : World} (hS : SiteAt w S s) (hL : IntsS w sl wh) :
    Calls Tryz.prog 24 #[.agg #[.slice s.r.a S.rooms.length s.r.cap, .slice s.c.a S.cans.length s.c.cap, .int .i64 S.rlo, .int .i64 S.rhi, .slice s.p.a S.steps.length s.p.cap], .slice sl.a wh.length sl.cap] w (NearOut w S wh) := by
  have HS := Lib.hid hS; have HL := Lib.hid hL
  have hll := hL.le; have hlm := hL.max
  have hrl := hS.rm.le; have hrm := hS.rm.max; have hcl := hS.cn.le; have hcm := hS.cn.max
  obtain ⟨la, lc⟩ := sl
  dsimp only at hll hlm
  obtain ⟨v1, hv1⟩ : ∃ v, v = (checkV S).2.2 := ⟨_, rfl⟩
  have HV1 := Lib.hid hv1
  have H1 : Hid (∀ W, Ext2 w W → Calls Tryz.prog 52 #[.agg #[.slice s.r.a S.rooms.length s.r.cap, .slice s.c.a S.cans.length s.c.cap, .int .i64 S.rlo, .int .i64 S.rhi, .slice s.p.a S.steps.length s.p.cap]] W fun e w' => e = .returned (.int .i64 v1) ∧ Below W.heap.size W w') := Lib.hid fun W hW => by rw [hv1]; exact validR_any (HS.out.below hW)
  clear hv1 hS hL
  go_enter Tryz.func24, Tryz.ntmps24
  go_wp2_with (fail)
  refine calls_name ?_
  intro w1 hw1
  obtain ⟨n2, hn2⟩ : ∃ n, n = w.heap.size := ⟨_, rfl⟩
  have hE1 : Ext2 w w1 := by rw [hw1]; exact below_alloc' _ _
  have X2 : Hid (w1.heap[n2]? = some (Obj.cells #[.slice s.r.a S.rooms.length s.r.cap, .slice s.c.a S.cans.length s.c.cap, .int .i64 S.rlo, .int .i64 S.rhi, .slice s.p.a S.steps.length s.p.cap] 28)) := Lib.hid (by rw [hw1, hn2]; exact blk_new _ _)
  rw [← hn2]
  (with_reducible refine (H1.out _ hE1).mono ?_)
  rintro e w2 ⟨rfl, hb2⟩
  have HE2 := Lib.hid (ext_trans hE1 hb2)
  have X22 := Lib.hid (Ext2.blk hb2 X2.out)
  have x2 := X22.out
  have q2c := cell_blk x2
  have q2f := frz_blk x2
  clear hw1 hn2 hE1 hb2 x2
  have HNO : Hid (∀ (W : World) (x : Int), nearE S wh = x → x ≠ 0 → Ext2 w W → NearOut w S wh (.returned (.tuple #[.slice none 0 0, .int .i64 x])) W) := Lib.hid fun W x hx h0 hW =>
    ⟨_, by rw [hx], by rw [hx, if_neg h0]; exact own_nil _ _ _ _ _, hW⟩
  by_cases h1 : v1 = 0
  case neg =>
    have hd : (v1 == 0) = false := beq_eq_false_iff_ne.2 h1
    have hd2 : (v1 != 0) = true := by simp [h1]
    have HN := Lib.hid h1
    clear h1
    go_wp2_with (fail)
    go_loopw [6, 7] (fun f6 z wr => f6 = .int .i64 v1 ∧ z = .int .i64 0 ∧ wr = w2) (fun _ _ _ => 0)
    case atStart => exact ⟨rfl, rfl, rfl⟩
    case round =>
      obtain ⟨rfl, rfl, rfl⟩ := hrel
      by_cases hl0 : (0 : Int) < (wh.length : Int)
      · go_wp2_with (fail)
        refine bodyPost_ret (v := .tuple #[.slice none 0 0, .int .i64 v1]) ?_ rfl ?_
        · simp [results, Tryz.results24, go_sem]
        exact HNO.out _ _ (by unfold nearE; rw [← HV1.out, if_pos HN.out]) HN.out HE2.out
      · go_wp2_with (fail)
        refine bodyPost_ret (v := .tuple #[.slice none 0 0, .int .i64 v1]) ?_ rfl ?_
        · simp [results, Tryz.results24, go_sem]
        exact HNO.out _ _ (by unfold nearE; rw [← HV1.out, if_pos HN.out]) HN.out HE2.out
  subst h1
  have hd : ((0 : Int) == 0) = true := rfl
  by_cases h6 : (wh.length : Int) = (S.cans.length : Int)
  case neg =>
    have b6 : ((wh.length : Int) != (S.cans.length : Int)) = true := by simp only [bne_iff_ne, ne_eq]; exact h6
    have HN := Lib.hid h6
    clear h6
    go_wp2_with (fail)
    go_loopw [6, 7] (fun f6 z wr => f6 = .int .i64 2 ∧ z = .int .i64 0 ∧ wr = w2) (fun _ _ _ => 0)
    case atStart => exact ⟨rfl, rfl, rfl⟩
    case round =>
      obtain ⟨rfl, rfl, rfl⟩ := hrel
      by_cases hl0 : (0 : Int) < (wh.length : Int)
      · go_wp2_with (fail)
        refine bodyPost_ret (v := .tuple #[.slice none 0 0, .int .i64 2]) ?_ rfl ?_
        · simp [results, Tryz.results24, go_sem]
        exact HNO.out _ _ (by unfold nearE; rw [← HV1.out, if_neg (by simp), if_pos HN.out]) (by decide) HE2.out
      · go_wp2_with (fail)
        refine bodyPost_ret (v := .tuple #[.slice none 0 0, .int .i64 2]) ?_ rfl ?_
        · simp [results, Tryz.results24, go_sem]
        exact HNO.out _ _ (by unfold nearE; rw [← HV1.out, if_neg (by simp), if_pos HN.out]) (by decide) HE2.out
  have b6 : ((wh.length : Int) != (S.cans.length : Int)) = false := by rw [h6]; simp
  have H6 := Lib.hid h6
  go_wp2_with (fail)
  clear hd b6 h6 q2c q2f
  go_loopw [6, 7] (fun f6 z wr => ∃ (k : Nat) (x : Int), z = .int .i64 (k : Int) ∧ k ≤ wh.length ∧ f6 = .int .i64 x ∧ Ext2 w2 wr ∧ ((x = 0 ∧ ∀ j, j < k → outR S (intD wh j) = false) ∨ (x = 4 ∧ nearE S wh = 4))) (fun _ z _ => wh.length - (intOf z).toNat)
  case atStart => exact ⟨0, 0, rfl, by omega, rfl, Below.refl _ _, .inl ⟨rfl, fun j h => absurd h (by omega)⟩⟩
  case round =>
    obtain ⟨k, x, rfl, hk, rfl, hB, hcase⟩ := hrel
    have HB := Lib.hid hB
    have HE3 := Lib.hid (ext_trans HE2.out hB)
    rcases hcase with ⟨rfl, hall⟩ | ⟨rfl, hx⟩
    case inr =>
      have HX := Lib.hid hx
      clear hx hB
      by_cases hl0 : (k : Int) < (wh.length : Int)
      · go_wp2_with (fail)
        refine bodyPost_ret (v := .tuple #[.slice none 0 0, .int .i64 4]) ?_ rfl ?_
        · simp [results, Tryz.results24, go_sem]
        exact HNO.out _ _ HX.out (by decide) HE3.out
      · go_wp2_with (fail)
        refine bodyPost_ret (v := .tuple #[.slice none 0 0, .int .i64 4]) ?_ rfl ?_
        · simp [results, Tryz.results24, go_sem]
        exact HNO.out _ _ HX.out (by decide) HE3.out
    have HAL := Lib.hid hall
    clear hall
    have hd : ((0 : Int) == 0) = true := rfl
    have hd2 : ((0 : Int) != 0) = false := rfl
    have x2 := Ext2.blk hB X22.out
    have q2c := cell_blk x2
    have q2f := frz_blk x2
    clear x2
    by_cases hlt : k < wh.length
    case neg =>
      obtain rfl : k = wh.length := by omega
      have r1 : ¬ (wh.length : Int) < (wh.length : Int) := by omega
      have hck : Chk S := chk_iff.1 HV1.out.symm
      have hlen : wh.length = S.cans.length := by have := H6.out; omega
      have HG := Lib.hid (near_good HV1.out.symm H6.out HAL.out)
      have hnr := nearR_any (s := s) (t := ⟨la, lc⟩) (wh := wh) (w := wr) (HS.out.below HE3.out) hck.nrOk (fun i hi => (hck.step hi).1.1.1) (HL.out.below HE3.out) hlen
      have e9 : Value.slice la S.cans.length lc = Value.slice la wh.length lc := by rw [hlen]
      rw [e9] at hnr
      have HNR := Lib.hid hnr
      clear hB hck hlen hnr e9
      go_wp2_with (fail)
      (with_reducible refine HNR.out.mono ?_)
      rintro e w4 ⟨v, rfl, hO, hb4⟩
      have HO := Lib.hid hO; have HE4 := Lib.hid (ext_trans HE3.out hb4)
      have hs4 := HE3.out.size
      clear hO hb4 q2c q2f
      go_wp2_with (fail)
      refine bodyPost_ret (v := .tuple #[v, .int .i64 0]) ?_ rfl ?_
      · simp [results, Tryz.results24, go_sem]
      exact ⟨v, by rw [HG.out], by rw [HG.out, if_pos rfl]; exact HO.out.base hs4, HE4.out⟩
    have i2 : (k : Int) < (wh.length : Int) := by omega
    have i0 : (0 : Int) ≤ (k : Int) := by omega
    have i2' : decide ((k : Int) < (wh.length : Int)) = true := decide_eq_true i2
    have i0' : decide ((0 : Int) ≤ (k : Int)) = true := decide_eq_true i0
    have w3' : IntKind.i64.wrap ((k : Int) + 1) = (k : Int) + 1 := IntWalk.i64_in _ (by omega)
    have w5' : IntKind.i64.wrap ((S.rooms.length : Int) - 1) = (S.rooms.length : Int) - 1 := IntWalk.i64_in _ (by omega)
    obtain ⟨b, off, h1, d0⟩ := int_cell (HL.out.below HE3.out) hlt
    dsimp only at h1
    subst h1
    obtain ⟨m, hm⟩ : ∃ m, m = intD wh k := ⟨_, rfl⟩
    rw [← hm] at d0
    have HM := Lib.hid hm
    obtain ⟨u1, hu1⟩ : ∃ v, v = inB m 0 ((S.rooms.length : Int) - 1) := ⟨_, rfl⟩
    have I1 : Hid (∀ W, Calls Tryz.prog 37 #[.int .i64 m, .int .i64 0, .int .i64 ((S.rooms.length : Int) - 1)] W fun e w' => e = .returned (.bool u1) ∧ Below W.heap.size W w') := Lib.hid fun W => by rw [hu1]; exact in_b _ _ _ W
    have HOU : Hid (outR S (intD wh k) = !u1) := Lib.hid (by rw [← hm]; unfold outR; rw [outB_in, hu1])
    have HLT := Lib.hid hlt
    clear hm hu1 hB
    go_wp2_with (fail)
    refine region_ev [] [0, 1, 2, 3, 4, 5, 6, 7, 8, 9] [] [] (by kernel_rfl) (by kernel_rfl) (by intro c a d v w h; cases d <;> exact h) ?_
    simp only [picks, List.drop_succ_cons, List.drop_zero]
    repeat (refine wpQ0_step (fun K hK => ?_); go_simp; (refine hK _ ?_; clear hK K))
    refine wpQ0_nil ?_
    repeat ((with_reducible refine wpQ2_step (fun K hK => ?_)); go_simp; first | ((with_reducible refine hK _ ?_); clear hK K) | (apply Exists.intro; refine ⟨fun x => ?_, hK _ ?_⟩; ((with_reducible exact I1.out x.1)); clear hK K))
    refine wpQ2_nil ?_
    refine Events.none_ fun w5 hg5 => ?_
    simp only [picks, List.drop_succ_cons, List.drop_zero]
    have HB5 := Lib.hid (ext_trans HB.out hg5)
    clear q2c q2f d0 hg5
    cases u1
    case false =>
      go_wp2_with (fail)
      go_roundw
      case rel => exact ⟨k + 1, 4, by go_num, by omega, rfl, HB5.out, .inr ⟨rfl, near_bad HV1.out.symm H6.out HLT.out (by rw [HOU.out]; rfl) HAL.out⟩⟩
      case measure => simp [intOf]; omega
    case true =>
      go_wp2_with (fail)
      go_roundw
      case rel => exact ⟨k + 1, 0, by go_num, by omega, rfl, HB5.out, .inl ⟨rfl, fun j hj => by
        by_cases hjk : j = k
        · rw [hjk, HOU.out]; rfl
        · exact HAL.out j (by omega)⟩⟩
      case measure => simp [intOf]; omega
end Go.Proofs.YtfpaihjcbpaneaaGreatDoor
