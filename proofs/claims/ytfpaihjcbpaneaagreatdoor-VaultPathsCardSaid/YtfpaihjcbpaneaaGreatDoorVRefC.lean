/-
  ref.Check.
-/
import Derived.Test.YtfpaihjcbpaneaaGreatDoorVRefA
namespace Go.Proofs.YtfpaihjcbpaneaaGreatDoor
open Go.RowKit D
set_option linter.unusedVariables false
set_option linter.unusedSimpArgs false
attribute [local go_sem high] run_minI run_maxI
attribute [local go_sem] upon2 cls_cell cls_frozen forall_const exists_eq_left'
attribute [local go_sem] FirstUpon
theorem StrsS.of_own {w : World} {base : Nat} {e : TypeId} {v : Value} {l : List ByteArray} (h : OwnR w base e 1 v l.length (strC l)) : ∃ s : Sl, v = .slice s.a l.length s.cap ∧ StrsS w s l := h.sl
set_option maxRecDepth 100000 in
set_option maxHeartbeats 8000000 in
theorem checkR_any {S : Site} {s : SSl} {w : World} (hS : SiteAt w S s) : Calls Tryz.prog 80 #[.agg #[.slice s.r.a S.rooms.length s.r.cap, .slice s.c.a S.cans.length s.c.cap, .int .i64 S.rlo, .int .i64 S.rhi, .slice s.p.a S.steps.length s.p.cap]] w (ChkOut w S) := by
  have HS := Lib.hid hS
  have hrl := hS.rm.le; have hrm := hS.rm.max; have hcl := hS.cn.le; have hcm := hS.cn.max; have hpl := hS.st.le; have hpm := hS.st.max
  obtain ⟨E, hE⟩ : ∃ E, E = checkV S := ⟨_, rfl⟩
  have hout : ∀ W, Below w.heap.size w W → ChkOut w S (.returned (.tuple #[.int .i64 E.1, .int .i64 E.2.1, .int .i64 E.2.2])) W := fun W hW => by rw [hE]; exact ⟨rfl, hW⟩
  have HOUT := Lib.hid hout
  unfold checkV at hE
  obtain ⟨v1, hv1⟩ : ∃ v, v = inB (S.rooms.length : Int) 1 12 := ⟨_, rfl⟩
  have HO1 : Hid (∀ W, Calls Tryz.prog 37 #[.int .i64 (S.rooms.length : Int), .int .i64 1, .int .i64 12] W fun e w' => e = .returned (.bool v1) ∧ W = w') := Lib.hid fun W => by rw [hv1]; exact in_any _ _ _ W
  rw [← hv1] at hE
  have HE := Lib.hid hE; have HV1 := Lib.hid hv1
  clear hS hE hout hv1
  go_enter Tryz.func80, Tryz.ntmps80
  go_wp2_with (fail)
  refine calls_name ?_
  intro w1 h1
  obtain ⟨b1, hb1⟩ : ∃ b, b = w.heap.size := ⟨_, rfl⟩
  have x1 : w1.heap[b1]? = some (Obj.cells #[.slice s.r.a S.rooms.length s.r.cap, .slice s.c.a S.cans.length s.c.cap, .int .i64 S.rlo, .int .i64 S.rhi, .slice s.p.a S.steps.length s.p.cap] 28) := by rw [h1, hb1]; exact blk_new _ _
  have hB1 : Below w.heap.size w w1 := by rw [h1]; exact below_alloc _ _
  rw [← hb1]
  have X1 := Lib.hid x1
  clear h1 hb1
  (with_reducible refine (HO1.out _).mono ?_)
  rintro e w' ⟨rfl, rfl⟩
  have q1c := cell_blk x1
  have q1f := frz_blk x1
  cases v1
  case false =>
    have hF := HOUT.out w1 hB1
    have hE2 : E = (1, 0, 3) := by rw [HE.out]; rfl
    rw [hE2] at hF
    have HF := Lib.hid hF
    clear hF hE2
    go_wp2_with (fail)
    go_ret3
    exact HF.out
  case true =>
  have hr12 := inB_iff.1 HV1.out.symm
  by_cases hc30 : 30 < S.cans.length
  · have hF := HOUT.out w1 hB1
    have hE2 : E = (1, 0, 3) := by rw [HE.out, decide_eq_false (by omega : ¬ S.cans.length ≤ 30)]; rfl
    rw [hE2] at hF
    have HF := Lib.hid hF
    clear hF hE2
    go_wp2_with (fail)
    go_ret3
    exact HF.out
  by_cases hs8 : 8 < S.steps.length
  · have hF := HOUT.out w1 hB1
    have hE2 : E = (1, 0, 3) := by rw [HE.out, decide_eq_false (by omega : ¬ S.steps.length ≤ 8)]; simp
    rw [hE2] at hF
    have HF := Lib.hid hF
    clear hF hE2
    go_wp2_with (fail)
    go_ret3
    exact HF.out
  have hE2 := HE.out
  rw [decide_eq_true (by omega : S.cans.length ≤ 30), decide_eq_true (by omega : S.steps.length ≤ 8), if_neg (by simp)] at hE2
  have HE2 := Lib.hid hE2
  clear hE2 HE HV1 HO1
  obtain ⟨⟨ra, rc⟩, ⟨ca, cc⟩, ⟨pa, pc⟩⟩ := s
  obtain ⟨rb, roff, hra, -⟩ := rm_cells HS.out.rm (i := 0) (by omega)
  dsimp only at hra
  subst hra
  dsimp only at hpl hpm hrl hrm hcl hcm x1 X1
  go_wp2_with (fail)
  clear q1c q1f x1
  go_loopw [5, 6] (fun v z wr => ∃ k : Nat, z = .int .i64 (k : Int) ∧ k ≤ S.rooms.length ∧ Below w.heap.size w wr ∧ wr.heap[b1]? = some (Obj.cells #[.slice (some ⟨rb, roff, none⟩) S.rooms.length rc, .slice ca S.cans.length cc, .int .i64 S.rlo, .int .i64 S.rhi, .slice pa S.steps.length pc] 28) ∧ OwnR wr w.heap.size 9 1 v (namesR S.rooms k).length (strC (namesR S.rooms k)) ∧ ∀ j, j < k → (rmE S.rooms j != 0) = false) (fun _ z _ => S.rooms.length - (intOf z).toNat)
  case atStart => exact ⟨0, rfl, by omega, hB1, X1.out, own_nil _ _ _ _ _, fun j hj => absurd hj (Nat.not_lt_zero j)⟩
  case round =>
    clear hB1 X1
    obtain ⟨k, rfl, hk, hB, x1, hO, hall⟩ := hrel
    have HALL := Lib.hid hall; have HO := Lib.hid hO; have X1 := Lib.hid x1
    clear hall hO
    have hnl : (namesR S.rooms k).length = k := by simp [namesR]
    by_cases hlt : k < S.rooms.length
    · go_light
      obtain ⟨_, _, hra, hc⟩ := rm_cells (HS.out.below hB).rm hlt
      obtain ⟨rfl, rfl⟩ : rb = _ ∧ roff = _ := by simpa using hra
      obtain ⟨c0, c1, c2, c3, c4, c5, c6, c7, c8, c9⟩ := hc
      obtain ⟨x, hx⟩ : ∃ x, x = rmD S.rooms k := ⟨_, rfl⟩
      have hsz := HS.out.rsize k hlt
      have hre := rmE_name S.rooms k
      rw [← hx] at c0 c1 c2 c3 c4 c5 c6 c7 c8 c9 hsz hre
      obtain ⟨sl, rfl, hst⟩ := StrsS.of_own HO.out
      have hnm := nameRf_any hst hsz (by omega)
      obtain ⟨Y, hY⟩ : ∃ Y, Y = nameE x.name (namesR S.rooms k) := ⟨_, rfl⟩
      obtain ⟨Z, hZ⟩ : ∃ Z, Z = roomE x := ⟨_, rfl⟩
      have hrm := room_any
      rw [← hY, ← hZ] at hre
      rw [← hY, hnl] at hnm
      have HNM := Lib.hid hnm; have HX := Lib.hid hx; have HRE := Lib.hid hre
      have HRM : Hid (∀ W, Calls Tryz.prog 95 #[.agg #[.string x.name, .int .i64 x.tlo, .int .i64 x.thi, .int .i64 x.dlo, .int .i64 x.dhi, .bool x.people, .bool x.allows, .int .i64 x.most, .int .i64 x.x, .int .i64 x.y]] W fun e w' => e = .returned (.int .i64 Z) ∧ Below W.heap.size W w') := Lib.hid fun W => by rw [hZ]; exact roomR_any x W
      have hbad : ∀ W, Below w.heap.size w W → rmE S.rooms k ≠ 0 → ChkOut w S (.returned (.tuple #[.int .i64 2, .int .i64 (k : Int), .int .i64 (rmE S.rooms k)])) W := fun W hW h0 => by
        have hF := HOUT.out W hW
        have hf : fstR S = k := firstN_at HALL.out (by simp [h0]) hlt
        have hE9 : E = ((2 : Int), ((k : Nat) : Int), rmE S.rooms k) := by rw [HE2.out, hf, if_pos hlt]
        rw [hE9] at hF
        exact hF
      have HBAD := Lib.hid hbad
      have p0 : (0 : Int) ≤ (k : Int) := by omega
      have p1 : (k : Int) < (S.rooms.length : Int) := by omega
      have w3' : IntKind.i64.wrap ((k : Int) + 1) = (k : Int) + 1 := IntWalk.i64_in _ (by omega)
      have HNL := Lib.hid hnl
      clear hx hra hsz hre hst hnm hY hZ hbad hrm
      rw [hnl] at HO ⊢
      clear hnl
      have q1c := cell_blk x1
      have q1f := frz_blk x1
      go_wp2_with (fail)
      (with_reducible refine HNM.out.mono ?_)
      rintro e w' ⟨rfl, rfl⟩
      by_cases hy : Y = 0
      · have hyb : (Y == 0) = true := by simp [hy]
        have HY := Lib.hid hy
        clear hy
        go_wp2_with (fail)
        (with_reducible refine (HRM.out _).mono ?_)
        rintro e w4 ⟨rfl, hb4⟩
        have hB4 := below_ext hB hb4
        have HO4 := Lib.hid (HO.out.below hb4)
        have x4 := Ext2.blk hb4 X1.out
        have d0 := ext_cell hb4 c0
        have X4 := Lib.hid x4
        clear q1c q1f x1 X1 c0 c1 c2 c3 c4 c5 c6 c7 c8 c9 hb4 HO hB
        have q1c := cell_blk x4
        have q1f := frz_blk x4
        by_cases hz : Z = 0
        · have hzb : (Z != 0) = false := by simp [hz]
          have HZ : Hid (rmE S.rooms k = 0) := Lib.hid (by rw [HRE.out, HY.out, if_neg (by simp), hz])
          clear hz
          go_wp2_with (at_builtin; refine app_one [.string x.name] elStr rfl _ _ rfl w.heap.size rfl (HO4.out.below (below_alloc' _ _)) w4.heap.size 1 rfl (blk_new _ _) (by simp [Value.oneCell']) (by omega) (by have := hB4.size; simp; omega) ?_; intro v' w5 hO5 hg5)
          have hB5 := below_app hB4 HO4.out hB4.size hg5
          have x5 := app_blk HO4.out hg5 X4.out (by decide)
          have X5 := Lib.hid x5
          have hO6 : OwnR w5 w.heap.size 9 1 v' (namesR S.rooms (k + 1)).length (strC (namesR S.rooms (k + 1))) := by
            have hl1 : (namesR S.rooms (k + 1)).length = k + 1 := by simp [namesR]
            rw [hl1]
            refine hO5.congr fun i j hi hj => ?_
            replace hj : j < 1 := by simpa using hj
            obtain rfl : j = 0 := by omega
            simp only [strC]
            rw [namesR_at hi]
            rcases Nat.lt_or_ge i k with h | h
            · rw [upd_lt h]; simp only [strC]; rw [namesR_at h]
            · obtain rfl : i = k := by omega
              rw [upd_at, ← HX.out]; rfl
          have HO6 := Lib.hid hO6
          clear hO5 hO6 hg5 q1c q1f x4 x5 d0
          go_wp2_with (fail)
          go_roundw
          case rel =>
            refine ⟨k + 1, by go_num, by omega, hB5, X5.out, HO6.out, fun j hj => ?_⟩
            rcases Nat.lt_or_ge j k with h | h
            · exact HALL.out j h
            · obtain rfl : j = k := by omega
              rw [HZ.out]; rfl
          case measure => simp [intOf]; omega
        · have hzb : (Z != 0) = true := by simp [hz]
          have hF := HBAD.out w4 hB4 (by rw [HRE.out, HY.out, if_neg (by simp)]; exact hz)
          rw [show rmE S.rooms k = Z by rw [HRE.out, HY.out, if_neg (by simp)]] at hF
          have HF := Lib.hid hF
          clear hF hz
          go_wp2_with (fail)
          go_ret3
          exact HF.out
      · have hyb : (Y == 0) = false := by simp [hy]
        have hyb2 : (Y != 0) = true := by simp [hy]
        have hF := HBAD.out wr hB (by rw [HRE.out, if_pos hy]; exact hy)
        rw [show rmE S.rooms k = Y by rw [HRE.out, if_pos hy]] at hF
        have HF := Lib.hid hF
        clear hF hy
        go_wp2_with (fail)
        go_ret3
        exact HF.out
    · obtain rfl : k = S.rooms.length := by omega
      have hE3 := HE2.out
      rw [if_neg (show ¬ fstR S < _ from (first_all (p := rmE S.rooms)).2 (fun i hi => by have := HALL.out i hi; simpa using this))] at hE3
      have HE3 := Lib.hid hE3
      have HRALL : Hid (∀ i, i < S.rooms.length → rmE S.rooms i = 0) := Lib.hid fun i hi => by have := HALL.out i hi; simpa using this
      have r9 : ¬ (S.rooms.length : Int) < (S.rooms.length : Int) := by omega
      clear hE3 hlt HO HE2 HALL hnl
      have q1c := cell_blk x1
      have q1f := frz_blk x1
      clear x1
      go_wp2_with (fail)
      clear q1c q1f
      obtain ⟨wo, hwo⟩ : ∃ wo, wo = wr := ⟨_, rfl⟩
      go_loopw [5, 8] (fun v z wr => ∃ k : Nat, z = .int .i64 (k : Int) ∧ k ≤ S.cans.length ∧ Below w.heap.size w wr ∧ wr.heap[b1]? = some (Obj.cells #[.slice (some ⟨rb, roff, none⟩) S.rooms.length rc, .slice ca S.cans.length cc, .int .i64 S.rlo, .int .i64 S.rhi, .slice pa S.steps.length pc] 28) ∧ OwnR wr w.heap.size 9 1 v (namesC S.cans k).length (strC (namesC S.cans k)) ∧ ∀ j, j < k → (cnE S j != 0) = false) (fun _ z _ => S.cans.length - (intOf z).toNat)
      case atStart => exact ⟨0, rfl, by omega, hB, X1.out, own_nil _ _ _ _ _, fun j hj => absurd hj (Nat.not_lt_zero j)⟩
      case round =>
        clear hB X1
        obtain ⟨k, rfl, hk, hB, x1, hO, hall⟩ := hrel
        have HALL := Lib.hid hall; have HO := Lib.hid hO; have X1 := Lib.hid x1
        clear hall hO
        have hnl : (namesC S.cans k).length = k := by simp [namesC]
        by_cases hlt : k < S.cans.length
        · go_light
          obtain ⟨cb, coff, hca, c0, c1, c2, c3⟩ := cn_cells (HS.out.below hB).cn hlt
          dsimp only at hca
          subst hca
          obtain ⟨x, hx⟩ : ∃ x, x = cnD S.cans k := ⟨_, rfl⟩
          have hsz := HS.out.csize k hlt
          have hre := cnE_name S k
          rw [← hx] at c0 c1 c2 c3 hsz hre
          obtain ⟨sl, rfl, hst⟩ := StrsS.of_own HO.out
          have hnm := fun W (hW : Ext2 wr W) => nameRf_any (StrsS.of_own (HO.out.below hW)).choose_spec.2 hsz (by omega)
          clear hnm
          have hnm : ∀ W, Ext2 wr W → Calls Tryz.prog 94 #[.string x.name, .slice sl.a (namesC S.cans k).length sl.cap] W fun e w' => e = .returned (.int .i64 (nameE x.name (namesC S.cans k))) ∧ W = w' := fun W hW => nameRf_any (hst.below hW) hsz (by omega)
          obtain ⟨Y, hY⟩ : ∃ Y, Y = nameE x.name (namesC S.cans k) := ⟨_, rfl⟩
          obtain ⟨v1, hv1⟩ : ∃ v, v = inB x.base 1 3 := ⟨_, rfl⟩
          obtain ⟨v2, hv2⟩ : ∃ v, v = inB x.frames 1 200000 := ⟨_, rfl⟩
          obtain ⟨v3, hv3⟩ : ∃ v, v = inB x.room 0 (S.rooms.length - 1) := ⟨_, rfl⟩
          have H1 : Hid (∀ W, Calls Tryz.prog 37 #[.int .i64 x.base, .int .i64 1, .int .i64 3] W fun e w' => e = .returned (.bool v1) ∧ W = w') := Lib.hid fun W => by rw [hv1]; exact in_any _ _ _ W
          have H2 : Hid (∀ W, Calls Tryz.prog 37 #[.int .i64 x.frames, .int .i64 1, .int .i64 200000] W fun e w' => e = .returned (.bool v2) ∧ W = w') := Lib.hid fun W => by rw [hv2]; exact in_any _ _ _ W
          have H3 : Hid (∀ W, Calls Tryz.prog 37 #[.int .i64 x.room, .int .i64 0, .int .i64 ((S.rooms.length : Int) - 1)] W fun e w' => e = .returned (.bool v3) ∧ W = w') := Lib.hid fun W => by rw [hv3]; exact in_any _ _ _ W
          unfold canE at hre
          rw [← hY, ← hv1, ← hv2, ← hv3] at hre
          rw [hnl] at hnm
          rw [← hY] at hnm
          have HNM := Lib.hid hnm; have HX := Lib.hid hx; have HRE := Lib.hid hre
          have hbad : ∀ W, Below w.heap.size w W → cnE S k ≠ 0 → ChkOut w S (.returned (.tuple #[.int .i64 3, .int .i64 (k : Int), .int .i64 (cnE S k)])) W := fun W hW h0 => by
            have hF := HOUT.out W hW
            have hf : fstC S = k := firstN_at HALL.out (by simp [h0]) hlt
            have hE9 : E = ((3 : Int), ((k : Nat) : Int), cnE S k) := by rw [HE3.out, hf, if_pos hlt]
            rw [hE9] at hF
            exact hF
          have HBAD := Lib.hid hbad
          have p0 : (0 : Int) ≤ (k : Int) := by omega
          have p1 : (k : Int) < (S.cans.length : Int) := by omega
          have w3' : IntKind.i64.wrap ((k : Int) + 1) = (k : Int) + 1 := IntWalk.i64_in _ (by omega)
          have l1 := blk_lt x1
          have n1 : ¬ b1 = wr.heap.size := by omega
          clear hx hsz hre hst hnm hY hv1 hv2 hv3 hbad
          rw [hnl] at HO ⊢
          clear hnl
          have q1c := cell_blk x1
          have q1f := frz_blk x1
          go_wp2_with (fail)
          refine calls_name ?_
          intro w4 h4
          obtain ⟨b9, hb9⟩ : ∃ b, b = wr.heap.size := ⟨_, rfl⟩
          have hE4 : Ext2 wr w4 := by rw [h4]; exact below_alloc' _ _
          have y9 : w4.heap[b9]? = some (Obj.cells #[.string x.name, .int .i64 x.base, .int .i64 x.frames, .int .i64 x.room] 124) := by rw [h4, hb9]; exact blk_new _ _
          have hB4 := below_ext hB hE4
          have HO4 := Lib.hid (HO.out.below hE4)
          have x4 := Ext2.blk hE4 X1.out
          have X4 := Lib.hid x4
          have HNM4 := Lib.hid (HNM.out w4 hE4)
          rw [← hb9]
          clear h4 hb9 q1c q1f x1 X1 c0 c1 c2 c3 hE4 HO hB HNM l1 n1
          have q1c := cell_blk x4
          have q1f := frz_blk x4
          have q9c := cell_blk y9
          have q9f := frz_blk y9
          (with_reducible refine HNM4.out.mono ?_)
          rintro e w' ⟨rfl, rfl⟩
          by_cases hy : Y = 0
          · have hyb : (Y == 0) = true := by simp [hy]
            have HY := Lib.hid hy
            have wl : IntKind.i64.wrap ((S.rooms.length : Int) - 1) = (S.rooms.length : Int) - 1 := IntWalk.i64_in _ (by omega)
            have hre := HRE.out
            rw [if_neg (not_not_intro hy)] at hre
            have HCE := Lib.hid hre
            clear hy hre HRE
            go_wp2_with (fail)
            (with_reducible refine (H1.out _).mono ?_)
            rintro e w' ⟨rfl, rfl⟩
            cases v1
            case false =>
              have hce : cnE S k = 2 := by rw [HCE.out, if_pos rfl]
              have hF := HBAD.out w4 hB4 (by rw [hce]; omega)
              rw [hce] at hF
              have HF := Lib.hid hF
              clear hF hce
              go_wp2_with (fail)
              go_ret3
              exact HF.out
            case true =>
            go_wp2_with (fail)
            (with_reducible refine (H2.out _).mono ?_)
            rintro e w' ⟨rfl, rfl⟩
            cases v2
            case false =>
              have hce : cnE S k = 7 := by rw [HCE.out, if_neg (by simp), if_pos rfl]
              have hF := HBAD.out w4 hB4 (by rw [hce]; omega)
              rw [hce] at hF
              have HF := Lib.hid hF
              clear hF hce
              go_wp2_with (fail)
              go_ret3
              exact HF.out
            case true =>
            go_wp2_with (fail)
            (with_reducible refine (H3.out _).mono ?_)
            rintro e w' ⟨rfl, rfl⟩
            cases v3
            case false =>
              have hce : cnE S k = 4 := by rw [HCE.out, if_neg (by simp), if_neg (by simp), if_pos rfl]
              have hF := HBAD.out w4 hB4 (by rw [hce]; omega)
              rw [hce] at hF
              have HF := Lib.hid hF
              clear hF hce
              go_wp2_with (fail)
              go_ret3
              exact HF.out
            case true =>
            have HZ : Hid (cnE S k = 0) := Lib.hid (by rw [HCE.out, if_neg (by simp), if_neg (by simp), if_neg (by simp)])
            clear HCE
            have hyz : (Y != 0) = false := by simp [HY.out]
            go_wp2_with (at_builtin; refine app_one [.string x.name] elStr rfl _ _ rfl w.heap.size rfl (HO4.out.below (below_alloc' _ _)) w4.heap.size 1 rfl (blk_new _ _) (by simp [Value.oneCell']) (by omega) (by have := hB4.size; simp; omega) ?_; intro v' w5 hO5 hg5)
            have hB5 := below_app hB4 HO4.out hB4.size hg5
            have x5 := app_blk HO4.out hg5 X4.out (by decide)
            have X5 := Lib.hid x5
            have hO6 : OwnR w5 w.heap.size 9 1 v' (namesC S.cans (k + 1)).length (strC (namesC S.cans (k + 1))) := by
              have hl1 : (namesC S.cans (k + 1)).length = k + 1 := by simp [namesC]
              rw [hl1]
              refine hO5.congr fun i j hi hj => ?_
              replace hj : j < 1 := by simpa using hj
              obtain rfl : j = 0 := by omega
              simp only [strC]
              rw [namesC_at hi]
              rcases Nat.lt_or_ge i k with h | h
              · rw [upd_lt h]; simp only [strC]; rw [namesC_at h]
              · obtain rfl : i = k := by omega
                rw [upd_at, ← HX.out]; rfl
            have HO6 := Lib.hid hO6
            clear hO5 hO6 hg5 q1c q1f q9c q9f x4 x5 y9
            go_wp2_with (fail)
            go_roundw
            case rel =>
              refine ⟨k + 1, by go_num, by omega, hB5, X5.out, HO6.out, fun j hj => ?_⟩
              rcases Nat.lt_or_ge j k with h | h
              · exact HALL.out j h
              · obtain rfl : j = k := by omega
                rw [HZ.out]; rfl
            case measure => simp [intOf]; omega
          · have hyb : (Y == 0) = false := by simp [hy]
            have hyb2 : (Y != 0) = true := by simp [hy]
            have hF := HBAD.out w4 hB4 (by rw [HRE.out, if_pos hy]; exact hy)
            rw [show cnE S k = Y by rw [HRE.out, if_pos hy]] at hF
            have HF := Lib.hid hF
            clear hF hy
            go_wp2_with (fail)
            go_ret3
            exact HF.out
        · obtain rfl : k = S.cans.length := by omega
          have hE4 := HE3.out
          rw [if_neg (show ¬ fstC S < _ from (first_all (p := cnE S)).2 (fun i hi => by have := HALL.out i hi; simpa using this))] at hE4
          have HE4 := Lib.hid hE4
          have HCALL : Hid (∀ i, i < S.cans.length → cnE S i = 0) := Lib.hid fun i hi => by have := HALL.out i hi; simpa using this
          have r9 : ¬ (S.cans.length : Int) < (S.cans.length : Int) := by omega
          clear hE4 hlt HO HE3 HALL hnl
          obtain ⟨v1, hv1⟩ : ∃ v, v = inB S.rlo 1 100 := ⟨_, rfl⟩
          obtain ⟨v2, hv2⟩ : ∃ v, v = inB S.rhi 1 100 := ⟨_, rfl⟩
          have H1 : Hid (∀ W, Calls Tryz.prog 37 #[.int .i64 S.rlo, .int .i64 1, .int .i64 100] W fun e w' => e = .returned (.bool v1) ∧ W = w') := Lib.hid fun W => by rw [hv1]; exact in_any _ _ _ W
          have H2 : Hid (∀ W, Calls Tryz.prog 37 #[.int .i64 S.rhi, .int .i64 1, .int .i64 100] W fun e w' => e = .returned (.bool v2) ∧ W = w') := Lib.hid fun W => by rw [hv2]; exact in_any _ _ _ W
          have hE5 := HE4.out
          rw [← hv1, ← hv2] at hE5
          have HE5 := Lib.hid hE5
          clear hE5 HE4 hv1 hv2
          have q1c := cell_blk x1
          have q1f := frz_blk x1
          clear x1
          go_wp2_with (fail)
          (with_reducible refine (H1.out _).mono ?_)
          rintro e w' ⟨rfl, rfl⟩
          cases v1
          case false =>
            have hF := HOUT.out wr hB
            rw [show E = ((4 : Int), (0 : Int), (7 : Int)) by rw [HE5.out]; rfl] at hF
            have HF := Lib.hid hF
            clear hF
            go_wp2_with (fail)
            go_ret3
            exact HF.out
          case true =>
          go_wp2_with (fail)
          (with_reducible refine (H2.out _).mono ?_)
          rintro e w' ⟨rfl, rfl⟩
          cases v2
          case false =>
            have hF := HOUT.out wr hB
            rw [show E = ((4 : Int), (0 : Int), (7 : Int)) by rw [HE5.out]; rfl] at hF
            have HF := Lib.hid hF
            clear hF
            go_wp2_with (fail)
            go_ret3
            exact HF.out
          case true =>
          by_cases hrr : S.rhi < S.rlo
          · have hF := HOUT.out wr hB
            rw [show E = ((4 : Int), (0 : Int), (2 : Int)) by rw [HE5.out, if_neg (by simp), if_pos hrr]] at hF
            have HF := Lib.hid hF
            clear hF
            go_wp2_with (fail)
            go_ret3
            exact HF.out
          have hEL : E = lateV S := by rw [HE5.out, if_neg (by simp), if_neg hrr]; rfl
          have HEL := Lib.hid hEL
          clear hEL HE5
          go_wp2_with (fail)
          clear q1c q1f
          obtain ⟨wo2, hwo2⟩ : ∃ wo, wo = wr := ⟨_, rfl⟩
          go_loopw [11] (fun z wr => ∃ k : Nat, z = .int .i64 (k : Int) ∧ k ≤ S.steps.length ∧ Below w.heap.size w wr ∧ wr.heap[b1]? = some (Obj.cells #[.slice (some ⟨rb, roff, none⟩) S.rooms.length rc, .slice ca S.cans.length cc, .int .i64 S.rlo, .int .i64 S.rhi, .slice pa S.steps.length pc] 28) ∧ ∀ j, j < k → (stE S.steps j != 0) = false) (fun z _ => S.steps.length - (intOf z).toNat)
          case atStart => exact ⟨0, rfl, by omega, hB, X1.out, fun j hj => absurd hj (Nat.not_lt_zero j)⟩
          case round =>
            clear hB X1
            obtain ⟨k, rfl, hk, hB, x1, hall⟩ := hrel
            have HALL := Lib.hid hall; have X1 := Lib.hid x1
            clear hall
            by_cases hlt : k < S.steps.length
            · go_light
              obtain ⟨pb, poff, hpa, c0, c1⟩ := st_cells (HS.out.below hB).st hlt
              dsimp only at hpa
              subst hpa
              obtain ⟨x, hx⟩ : ∃ x, x = stD S.steps k := ⟨_, rfl⟩
              obtain ⟨v1, hv1⟩ : ∃ v, v = inB x.over 0 10000000 := ⟨_, rfl⟩
              obtain ⟨v2, hv2⟩ : ∃ v, v = inB x.metres 0 10000 := ⟨_, rfl⟩
              have H1 : Hid (∀ W, Calls Tryz.prog 37 #[.int .i64 x.over, .int .i64 0, .int .i64 10000000] W fun e w' => e = .returned (.bool v1) ∧ W = w') := Lib.hid fun W => by rw [hv1]; exact in_any _ _ _ W
              have H2 : Hid (∀ W, Calls Tryz.prog 37 #[.int .i64 x.metres, .int .i64 0, .int .i64 10000] W fun e w' => e = .returned (.bool v2) ∧ W = w') := Lib.hid fun W => by rw [hv2]; exact in_any _ _ _ W
              have hst : stE S.steps k = if (v1 && v2) = false then 7 else if 0 < k ∧ (x.over ≤ (stD S.steps (k - 1)).over ∨ x.metres < (stD S.steps (k - 1)).metres) then 2 else 0 := by unfold stE; rw [← hx, ← hv1, ← hv2]
              rw [← hx] at c0 c1
              have HST := Lib.hid hst; have HX := Lib.hid hx
              have hbad : ∀ W, Below w.heap.size w W → stE S.steps k ≠ 0 → ChkOut w S (.returned (.tuple #[.int .i64 5, .int .i64 (k : Int), .int .i64 (stE S.steps k)])) W := fun W hW h0 => by
                have hF := HOUT.out W hW
                have hf : fstS S = k := firstN_at HALL.out (by simp [h0]) hlt
                have hE9 : E = ((5 : Int), ((k : Nat) : Int), stE S.steps k) := by rw [HEL.out]; unfold lateV; rw [hf, if_pos hlt]
                rw [hE9] at hF
                exact hF
              have hbad2 : ∀ W, Below w.heap.size w W → stE S.steps k = 2 → ChkOut w S (.returned (.tuple #[.int .i64 5, .int .i64 (k : Int), .int .i64 2])) W := fun W hW h0 => by
                have := hbad W hW (by rw [h0]; omega)
                rw [h0] at this; exact this
              have HBAD := Lib.hid hbad; have HBAD2 := Lib.hid hbad2
              have p0 : (0 : Int) ≤ (k : Int) := by omega
              have p1 : (k : Int) < (S.steps.length : Int) := by omega
              have w3' : IntKind.i64.wrap ((k : Int) + 1) = (k : Int) + 1 := IntWalk.i64_in _ (by omega)
              have l1 := blk_lt x1
              have n1 : ¬ b1 = wr.heap.size := by omega
              clear hx hv1 hv2 hst hbad hbad2
              have q1c := cell_blk x1
              have q1f := frz_blk x1
              go_wp2_with (fail)
              refine calls_name ?_
              intro w4 h4
              obtain ⟨b12, hb12⟩ : ∃ b, b = wr.heap.size := ⟨_, rfl⟩
              have hE4 : Ext2 wr w4 := by rw [h4]; exact below_alloc' _ _
              have y12 : w4.heap[b12]? = some (Obj.cells #[.int .i64 x.over, .int .i64 x.metres] 128) := by rw [h4, hb12]; exact blk_new _ _
              have hB4 := below_ext hB hE4
              have x4 := Ext2.blk hE4 X1.out
              have X4 := Lib.hid x4
              rw [← hb12]
              clear h4 hb12 q1c q1f x1 X1 c0 c1 hE4 hB l1 n1
              have q1c := cell_blk x4
              have q1f := frz_blk x4
              have q12c := cell_blk y12
              have q12f := frz_blk y12
              (with_reducible refine (H1.out _).mono ?_)
              rintro e w' ⟨rfl, rfl⟩
              cases v1
              case false =>
                have h7 : stE S.steps k = 7 := by rw [HST.out]; rfl
                have hF := HBAD.out w4 hB4 (by rw [h7]; omega)
                rw [h7] at hF
                have HF := Lib.hid hF
                clear h7 hF
                go_wp2_with (fail)
                go_ret3
                exact HF.out
              case true =>
              go_wp2_with (fail)
              (with_reducible refine (H2.out _).mono ?_)
              rintro e w' ⟨rfl, rfl⟩
              cases v2
              case false =>
                have h7 : stE S.steps k = 7 := by rw [HST.out]; rfl
                have hF := HBAD.out w4 hB4 (by rw [h7]; omega)
                rw [h7] at hF
                have HF := Lib.hid hF
                clear h7 hF
                go_wp2_with (fail)
                go_ret3
                exact HF.out
              case true =>
              have hst2 := HST.out
              rw [if_neg (by simp)] at hst2
              have HST2 := Lib.hid hst2
              clear hst2 HST H1 H2
              go_wp2_with (fail)
              by_cases hk0 : 0 < k
              · obtain ⟨_, _, hpa, c0, c1⟩ := st_cells (HS.out.below hB4).st (i := k - 1) (by omega)
                obtain ⟨rfl, rfl⟩ : pb = _ ∧ poff = _ := by simpa using hpa
                obtain ⟨y, hy⟩ : ∃ y, y = stD S.steps (k - 1) := ⟨_, rfl⟩
                rw [← hy] at c0 c1
                have HY := Lib.hid hy
                have g0 : decide ((0 : Int) < (k : Int)) = true := decide_eq_true (by omega)
                have g1 : (0 : Int) ≤ (k : Int) - 1 := by omega
                have g2 : (k : Int) - 1 < (S.steps.length : Int) := by omega
                have pw1 : IntKind.i64.wrap ((k : Int) - 1) = (k : Int) - 1 := IntWalk.i64_in _ (by omega)
                have pw2 : (1 : Int) ≤ (k : Int) := by omega
                have pw3 : ((k : Int) - 1).toNat = k - 1 := by omega
                clear hpa hy
                by_cases hov : x.over ≤ y.over
                · have d1 : decide (x.over ≤ y.over) = true := decide_eq_true hov
                  have HCE : Hid (stE S.steps k = 2) := Lib.hid (by rw [HST2.out, ← HY.out, if_pos ⟨hk0, .inl hov⟩])
                  clear hov
                  refine region_ev [] [0, 1, 2, 3, 4, 5, 6, 7, 8, 9, 10, 11, 12, 13, 14, 15, 16, 17, 18, 19, 20, 21, 22, 23, 24, 25] [] [] (by kernel_rfl) (by kernel_rfl) (by intro c a d v w h; cases d <;> exact h) ?_
                  simp only [picks, List.drop_succ_cons, List.drop_zero]
                  repeat (refine wpQ0_step (fun K hK => ?_); go_simp; (refine hK _ ?_; clear hK K))
                  refine wpQ0_nil ?_
                  repeat ((with_reducible refine wpQ2_step (fun K hK => ?_)); go_simp; first | ((with_reducible refine hK _ ?_); clear hK K) | (apply Exists.intro; refine ⟨fun x => ?_, hK _ ?_⟩; (fail); clear hK K))
                  refine wpQ2_nil ?_
                  refine Events.none_ fun w5 hg5 => ?_
                  simp only [picks, List.drop_succ_cons, List.drop_zero]
                  have HF := Lib.hid (HBAD2.out _ (below_ext hB4 hg5) HCE.out)
                  clear q1c q1f q12c q12f x4 y12
                  go_wp2_with (fail)
                  go_ret3
                  exact HF.out
                · have d1 : decide (x.over ≤ y.over) = false := decide_eq_false hov
                  by_cases hme : x.metres < y.metres
                  · have d2 : decide (x.metres < y.metres) = true := decide_eq_true hme
                    have HCE : Hid (stE S.steps k = 2) := Lib.hid (by rw [HST2.out, ← HY.out, if_pos ⟨hk0, .inr hme⟩])
                    clear hov hme
                    refine region_ev [] [0, 1, 2, 3, 4, 5, 6, 7, 8, 9, 10, 11, 12, 13, 14, 15, 16, 17, 18, 19, 20, 21, 22, 23, 24, 25] [] [] (by kernel_rfl) (by kernel_rfl) (by intro c a d v w h; cases d <;> exact h) ?_
                    simp only [picks, List.drop_succ_cons, List.drop_zero]
                    repeat (refine wpQ0_step (fun K hK => ?_); go_simp; (refine hK _ ?_; clear hK K))
                    refine wpQ0_nil ?_
                    repeat ((with_reducible refine wpQ2_step (fun K hK => ?_)); go_simp; first | ((with_reducible refine hK _ ?_); clear hK K) | (apply Exists.intro; refine ⟨fun x => ?_, hK _ ?_⟩; (fail); clear hK K))
                    refine wpQ2_nil ?_
                    refine Events.none_ fun w5 hg5 => ?_
                    simp only [picks, List.drop_succ_cons, List.drop_zero]
                    have HF := Lib.hid (HBAD2.out _ (below_ext hB4 hg5) HCE.out)
                    clear q1c q1f q12c q12f x4 y12
                    go_wp2_with (fail)
                    go_ret3
                    exact HF.out
                  · have d2 : decide (x.metres < y.metres) = false := decide_eq_false hme
                    have HCE : Hid (stE S.steps k = 0) := Lib.hid (by rw [HST2.out, ← HY.out, if_neg (fun h => h.2.elim hov hme)])
                    clear hov hme
                    refine region_ev [] [0, 1, 2, 3, 4, 5, 6, 7, 8, 9, 10, 11, 12, 13, 14, 15, 16, 17, 18, 19, 20, 21, 22, 23, 24, 25] [] [] (by kernel_rfl) (by kernel_rfl) (by intro c a d v w h; cases d <;> exact h) ?_
                    simp only [picks, List.drop_succ_cons, List.drop_zero]
                    repeat (refine wpQ0_step (fun K hK => ?_); go_simp; (refine hK _ ?_; clear hK K))
                    refine wpQ0_nil ?_
                    repeat ((with_reducible refine wpQ2_step (fun K hK => ?_)); go_simp; first | ((with_reducible refine hK _ ?_); clear hK K) | (apply Exists.intro; refine ⟨fun x => ?_, hK _ ?_⟩; (fail); clear hK K))
                    refine wpQ2_nil ?_
                    refine Events.none_ fun w5 hg5 => ?_
                    simp only [picks, List.drop_succ_cons, List.drop_zero]
                    have hB5 := below_ext hB4 hg5
                    have X5 := Lib.hid (Ext2.blk hg5 X4.out)
                    clear q1c q1f q12c q12f x4 y12
                    go_wp2_with (fail)
                    go_roundw
                    case rel =>
                      refine ⟨k + 1, by go_num, by omega, hB5, X5.out, fun j hj => ?_⟩
                      rcases Nat.lt_or_ge j k with h | h
                      · exact HALL.out j h
                      · obtain rfl : j = k := by omega
                        rw [HCE.out]; rfl
                    case measure => simp [intOf]; omega
              · have g0 : decide ((0 : Int) < (k : Int)) = false := decide_eq_false (by omega)
                have HCE : Hid (stE S.steps k = 0) := Lib.hid (by rw [HST2.out, if_neg (fun h => hk0 h.1)])
                refine region_ev [] [0, 1, 2, 3, 4, 5, 6, 7, 8, 9, 10, 11, 12, 13, 14, 15, 16, 17, 18, 19, 20, 21, 22, 23, 24, 25] [] [] (by kernel_rfl) (by kernel_rfl) (by intro c a d v w h; cases d <;> exact h) ?_
                simp only [picks, List.drop_succ_cons, List.drop_zero]
                repeat (refine wpQ0_step (fun K hK => ?_); go_simp; (refine hK _ ?_; clear hK K))
                refine wpQ0_nil ?_
                repeat ((with_reducible refine wpQ2_step (fun K hK => ?_)); go_simp; first | ((with_reducible refine hK _ ?_); clear hK K) | (apply Exists.intro; refine ⟨fun x => ?_, hK _ ?_⟩; (fail); clear hK K) | (refine ite_undef (fun h => (by have h_ : (none : Option Bool) = some _ := h; cases h_)) ?_; (with_reducible refine hK _ ?_); clear hK K))
                (with_reducible refine wpQ2_nil ?_)
                refine Events.none_ fun w5 hg5 => ?_
                simp only [picks, List.drop_succ_cons, List.drop_zero]
                have hB5 := below_ext hB4 hg5
                have X5 := Lib.hid (Ext2.blk hg5 X4.out)
                clear q1c q1f q12c q12f x4 y12
                go_wp2_with (fail)
                go_roundw
                case rel =>
                  refine ⟨k + 1, by go_num, by omega, hB5, X5.out, fun j hj => ?_⟩
                  rcases Nat.lt_or_ge j k with h | h
                  · exact HALL.out j h
                  · obtain rfl : j = k := by omega
                    rw [HCE.out]; rfl
                case measure => simp [intOf]; omega
            · obtain rfl : k = S.steps.length := by omega
              have hST : ∀ i, i < S.steps.length → stE S.steps i = 0 := fun i hi => by have := HALL.out i hi; simpa using this
              have hEO : E = if fstO S < S.cans.length then ((6 : Int), ((fstO S : Nat) : Int), (9 : Int)) else if nears S (firstW S.cans) ≠ [] then (7, 0, 9) else (0, 0, 0) := by
                rw [HEL.out]; unfold lateV; rw [if_neg (show ¬ fstS S < _ from first_all.2 hST)]
              have HEO := Lib.hid hEO
              have HNK := Lib.hid (nrOk_of (by omega) (by omega) (by omega) HRALL.out HCALL.out hST)
              have HST := Lib.hid hST
              have HFI := Lib.hid (firstR_any (s := ⟨⟨some ⟨rb, roff, none⟩, rc⟩, ⟨ca, cc⟩, ⟨pa, pc⟩⟩) (HS.out.below hB).cn (by omega))
              have r9 : ¬ (S.steps.length : Int) < (S.steps.length : Int) := by omega
              clear hST hEO HALL hlt HEL
              have q1c := cell_blk x1
              have q1f := frz_blk x1
              clear x1
              go_wp2_with (fail)
              (with_reducible refine HFI.out.mono ?_)
              rintro e w5 ⟨⟨tv, rfl, hO⟩, hb5⟩
              obtain ⟨⟨ta, tc⟩, rfl, hr5⟩ := hO.sl
              have hfl : (firstW S.cans).length = S.cans.length := by simp [firstW]
              have hT : IntsS w5 ⟨ta, tc⟩ (firstW S.cans) := by unfold IntsS; rw [hfl]; exact hr5
              have htl := hT.le; have htm := hT.max
              dsimp only at htl htm
              rw [hfl] at htl
              have HT := Lib.hid hT; have HFL := Lib.hid hfl
              have hB5 := below_ext hB hb5
              have X5 := Lib.hid (Ext2.blk hb5 X1.out)
              clear hO hr5 hT hfl hb5 X1 q1c q1f hB HFI
              dsimp only
              go_wp2_with (fail)
              go_loopw [14] (fun z wr => ∃ k : Nat, z = .int .i64 (k : Int) ∧ k ≤ S.cans.length ∧ Ext2 w5 wr ∧ wr.heap[b1]? = some (Obj.cells #[.slice (some ⟨rb, roff, none⟩) S.rooms.length rc, .slice ca S.cans.length cc, .int .i64 S.rlo, .int .i64 S.rhi, .slice pa S.steps.length pc] 28) ∧ ∀ j, j < k → overB S j = false) (fun z _ => S.cans.length - (intOf z).toNat)
              case atStart => exact ⟨0, rfl, by omega, Below.refl _ _, X5.out, fun j hj => absurd hj (Nat.not_lt_zero j)⟩
              case round =>
                obtain ⟨k, rfl, hk, hE, x1, hall⟩ := hrel
                have HALL := Lib.hid hall; have X1 := Lib.hid x1
                have hB := below_ext hB5 hE
                clear hall
                by_cases hlt : k < S.cans.length
                · go_light
                  obtain ⟨cb, coff, hca, c0, c1, c2, c3⟩ := cn_cells (HS.out.below hB).cn hlt
                  dsimp only at hca
                  subst hca
                  obtain ⟨tb, toff, hta, -⟩ := int_cell HT.out (i := k) (by rw [HFL.out]; exact hlt)
                  dsimp only at hta
                  subst hta
                  have hrm0 := HNK.out.cans.room k hlt
                  obtain ⟨r, hr0⟩ : ∃ r : Nat, (cnD S.cans k).room = (r : Int) := ⟨(cnD S.cans k).room.toNat, by omega⟩
                  rw [hr0] at c3 hrm0
                  obtain ⟨_, _, hra, hc⟩ := rm_cells (HS.out.below hB).rm (i := r) (by omega)
                  obtain ⟨rfl, rfl⟩ : rb = _ ∧ roff = _ := by simpa using hra
                  have d6' := hc.c6; have d7' := hc.c7
                  obtain ⟨al, hal⟩ : ∃ al, al = (rmD S.rooms r).allows := ⟨_, rfl⟩
                  obtain ⟨mo, hmo⟩ : ∃ mo, mo = (rmD S.rooms r).most := ⟨_, rfl⟩
                  rw [← hal] at d6'
                  rw [← hmo] at d7'
                  obtain ⟨A, hA⟩ : ∃ A, A = amtK S.cans (firstW S.cans) (r : Int) (k + 1) := ⟨_, rfl⟩
                  obtain ⟨x, hx⟩ : ∃ x, x = cnD S.cans k := ⟨_, rfl⟩
                  have hov : overB S k = decide (x.base = 1 ∧ (al = false ∨ mo < A)) := by unfold overB; rw [hr0, Int.toNat_natCast, ← hal, ← hmo, ← hA, ← hx]
                  rw [← hx] at c0 c1 c2
                  have HAM : Hid (∀ W, Ext2 w5 W → Calls Tryz.prog 86 #[(.agg #[.slice (some ⟨rb, roff, none⟩) S.rooms.length rc, .slice (some ⟨cb, coff, none⟩) S.cans.length cc, .int .i64 S.rlo, .int .i64 S.rhi, .slice pa S.steps.length pc]), .slice (some ⟨tb, toff, none⟩) (k + 1) tc, .int .i64 (r : Int)] W fun e w' => e = .returned (.int .i64 A) ∧ Below W.heap.size W w') := Lib.hid fun W hW => by
                    have hTk : IntsS W ⟨some ⟨tb, toff, none⟩, tc⟩ ((firstW S.cans).take (k + 1)) := by
                      have h0 := HT.out.below hW
                      have hlk : ((firstW S.cans).take (k + 1)).length = k + 1 := by rw [List.length_take, HFL.out]; omega
                      unfold IntsS
                      rw [hlk]
                      refine ⟨by show k + 1 ≤ tc; omega, h0.max, fun i j hi hj => ?_⟩
                      obtain ⟨b, off, e1, e2⟩ := h0.cell i j (by rw [HFL.out]; omega) hj
                      refine ⟨b, off, e1, e2.trans ?_⟩
                      simp only [intC, intD]
                      rw [List.getD_eq_getElem?_getD, List.getD_eq_getElem?_getD, List.getElem?_take_of_lt hi]
                    have hlk : ((firstW S.cans).take (k + 1)).length = k + 1 := by rw [List.length_take, HFL.out]; omega
                    have h := amountR_any (s := ⟨⟨some ⟨rb, roff, none⟩, rc⟩, ⟨some ⟨cb, coff, none⟩, cc⟩, ⟨pa, pc⟩⟩) (r := (r : Int)) (HS.out.below (below_ext hB5 hW)).cn HNK.out.cans (by omega) hTk (by rw [hlk]; omega)
                    rw [hlk] at h
                    have e : amtK S.cans ((firstW S.cans).take (k + 1)) (r : Int) (k + 1) = A := by
                      rw [hA]
                      refine amtK_congr fun i hi => .inl ?_
                      simp only [intD]
                      rw [List.getD_eq_getElem?_getD, List.getD_eq_getElem?_getD, List.getElem?_take_of_lt hi]
                    rw [e] at h
                    exact h
                  have HOV := Lib.hid hov
                  have hbad : ∀ W, Below w.heap.size w W → overB S k = true → ChkOut w S (.returned (.tuple #[.int .i64 6, .int .i64 (k : Int), .int .i64 9])) W := fun W hW h0 => by
                    have hF := HOUT.out W hW
                    have hf : fstO S = k := firstN_at HALL.out h0 hlt
                    have hE9 : E = ((6 : Int), ((k : Nat) : Int), (9 : Int)) := by rw [HEO.out, hf, if_pos hlt]
                    rw [hE9] at hF
                    exact hF
                  have HBAD := Lib.hid hbad
                  have p0 : (0 : Int) ≤ (k : Int) := by omega
                  have p1 : (k : Int) < (S.cans.length : Int) := by omega
                  have p2 : (0 : Int) ≤ (r : Int) := by omega
                  have p3 : (r : Int) < (S.rooms.length : Int) := by omega
                  have w3' : IntKind.i64.wrap ((k : Int) + 1) = (k : Int) + 1 := IntWalk.i64_in _ (by omega)
                  have w4' : (0 : Int) ≤ (k : Int) + 1 := by omega
                  have w5' : ((k : Int) + 1).toNat = k + 1 := by omega
                  have w6' : (k : Int) + 1 ≤ (tc : Int) := by omega
                  have l1 := blk_lt x1
                  have n1 : ¬ b1 = wr.heap.size := by omega
                  clear hr0 hra hc hal hmo hA hx hov hbad
                  have q1c := cell_blk x1
                  have q1f := frz_blk x1
                  go_wp2_with (fail)
                  refine wp_name ?_
                  intro w6 h6
                  obtain ⟨b15, hb15⟩ : ∃ b, b = wr.heap.size := ⟨_, rfl⟩
                  have hE6' : Ext2 wr w6 := by rw [h6]; exact below_alloc' _ _
                  have y15 : w6.heap[b15]? = some (Obj.cells #[.string x.name, .int .i64 x.base, .int .i64 x.frames, .int .i64 (r : Int)] 124) := by rw [h6, hb15]; exact blk_new _ _
                  have hE6 := ext_trans hE hE6'
                  have hB6 := below_ext hB5 hE6
                  have x6 := Ext2.blk hE6' X1.out
                  have X6 := Lib.hid x6
                  have d6 := ext_cell hE6' d6'; have d7 := ext_cell hE6' d7'
                  have HAM6 : Hid (∀ W, Ext2 w6 W → Calls Tryz.prog 86 #[(.agg #[.slice (some ⟨rb, roff, none⟩) S.rooms.length rc, .slice (some ⟨cb, coff, none⟩) S.cans.length cc, .int .i64 S.rlo, .int .i64 S.rhi, .slice pa S.steps.length pc]), .slice (some ⟨tb, toff, none⟩) (k + 1) tc, .int .i64 (r : Int)] W fun e w' => e = .returned (.int .i64 A) ∧ Below W.heap.size W w') := hid_ext2 HAM hE6
                  rw [← hb15]
                  clear h6 hb15 q1c q1f x1 X1 c0 c1 c2 c3 d6' d7' hE6' HAM l1 n1
                  have q1c := cell_blk x6
                  have q1f := frz_blk x6
                  have q15c := cell_blk y15
                  have q15f := frz_blk y15
                  by_cases hbs : x.base = 1
                  · have hb1 : (x.base == 1) = true := by simp [hbs]
                    have HBS := Lib.hid hbs; clear hbs
                    cases al
                    case false =>
                      have HV : Hid (overB S k = true) := Lib.hid (by rw [HOV.out]; exact decide_eq_true ⟨HBS.out, .inl rfl⟩)
                      refine region_ev [] [0, 1, 2, 3, 4, 5, 6, 7, 8, 9, 10, 11, 12, 13, 14, 15, 16, 17, 18, 19, 20, 21, 22, 23, 24, 25, 26, 27, 28, 29, 30] [] [] (by kernel_rfl) (by kernel_rfl) (by intro c a d v w h; cases d <;> exact h) ?_
                      simp only [picks, List.drop_succ_cons, List.drop_zero]
                      repeat (refine wpQ0_step (fun K hK => ?_); go_simp; (refine hK _ ?_; clear hK K))
                      refine wpQ0_nil ?_
                      repeat ((with_reducible refine wpQ2_step (fun K hK => ?_)); go_simp; first | ((with_reducible refine hK _ ?_); clear hK K) | (apply Exists.intro; refine ⟨fun x => ?_, hK _ ?_⟩; (fail); clear hK K))
                      refine wpQ2_nil ?_
                      refine Events.none_ fun w7 hg7 => ?_
                      simp only [picks, List.drop_succ_cons, List.drop_zero]
                      have HF := Lib.hid (HBAD.out _ (below_ext hB6 hg7) HV.out)
                      clear q1c q1f q15c q15f x6 y15 d6 d7
                      go_wp2_with (fail)
                      go_ret3
                      exact HF.out
                    case true =>
                      by_cases hmx : mo < A
                      · have HV : Hid (overB S k = true) := Lib.hid (by rw [HOV.out]; exact decide_eq_true ⟨HBS.out, .inr hmx⟩)
                        have hd : decide (mo < A) = true := decide_eq_true hmx
                        clear hmx
                        refine region_ev [] [0, 1, 2, 3, 4, 5, 6, 7, 8, 9, 10, 11, 12, 13, 14, 15, 16, 17, 18, 19, 20, 21, 22, 23, 24, 25, 26, 27, 28, 29, 30] [] [] (by kernel_rfl) (by kernel_rfl) (by intro c a d v w h; cases d <;> exact h) ?_
                        simp only [picks, List.drop_succ_cons, List.drop_zero]
                        repeat (refine wpQ0_step (fun K hK => ?_); go_simp; (refine hK _ ?_; clear hK K))
                        refine wpQ0_nil ?_
                        repeat ((with_reducible refine wpQ2_step (fun K hK => ?_)); go_simp; first | ((with_reducible refine hK _ ?_); clear hK K) | (apply Exists.intro; refine ⟨fun x => ?_, hK _ ?_⟩; ((with_reducible exact HAM6.out x.1 x.2)); clear hK K))
                        refine wpQ2_nil ?_
                        refine Events.none_ fun w7 hg7 => ?_
                        simp only [picks, List.drop_succ_cons, List.drop_zero]
                        have HF := Lib.hid (HBAD.out _ (below_ext hB6 hg7) HV.out)
                        clear q1c q1f q15c q15f x6 y15 d6 d7
                        go_wp2_with (fail)
                        go_ret3
                        exact HF.out
                      · have HV : Hid (overB S k = false) := Lib.hid (by rw [HOV.out]; refine decide_eq_false fun h => h.2.elim (fun h2 => by cases h2) hmx)
                        have hd : decide (mo < A) = false := decide_eq_false hmx
                        clear hmx
                        refine region_ev [] [0, 1, 2, 3, 4, 5, 6, 7, 8, 9, 10, 11, 12, 13, 14, 15, 16, 17, 18, 19, 20, 21, 22, 23, 24, 25, 26, 27, 28, 29, 30] [] [] (by kernel_rfl) (by kernel_rfl) (by intro c a d v w h; cases d <;> exact h) ?_
                        simp only [picks, List.drop_succ_cons, List.drop_zero]
                        repeat (refine wpQ0_step (fun K hK => ?_); go_simp; (refine hK _ ?_; clear hK K))
                        refine wpQ0_nil ?_
                        repeat ((with_reducible refine wpQ2_step (fun K hK => ?_)); go_simp; first | ((with_reducible refine hK _ ?_); clear hK K) | (apply Exists.intro; refine ⟨fun x => ?_, hK _ ?_⟩; ((with_reducible exact HAM6.out x.1 x.2)); clear hK K))
                        refine wpQ2_nil ?_
                        refine Events.none_ fun w7 hg7 => ?_
                        simp only [picks, List.drop_succ_cons, List.drop_zero]
                        have hE7 := ext_trans hE6 hg7
                        have X7 := Lib.hid (Ext2.blk hg7 X6.out)
                        clear q1c q1f q15c q15f x6 y15 d6 d7
                        go_wp2_with (fail)
                        go_roundw
                        case rel =>
                          refine ⟨k + 1, by go_num, by omega, hE7, X7.out, fun j hj => ?_⟩
                          rcases Nat.lt_or_ge j k with h | h
                          · exact HALL.out j h
                          · obtain rfl : j = k := by omega
                            exact HV.out
                        case measure => simp [intOf]; omega
                  · have hb1 : (x.base == 1) = false := by simp [hbs]
                    have HV : Hid (overB S k = false) := Lib.hid (by rw [HOV.out]; exact decide_eq_false fun h => hbs h.1)
                    clear hbs
                    refine region_ev [] [0, 1, 2, 3, 4, 5, 6, 7, 8, 9, 10, 11, 12, 13, 14, 15, 16, 17, 18, 19, 20, 21, 22, 23, 24, 25, 26, 27, 28, 29, 30] [] [] (by kernel_rfl) (by kernel_rfl) (by intro c a d v w h; cases d <;> exact h) ?_
                    simp only [picks, List.drop_succ_cons, List.drop_zero]
                    repeat (refine wpQ0_step (fun K hK => ?_); go_simp; (refine hK _ ?_; clear hK K))
                    refine wpQ0_nil ?_
                    repeat ((with_reducible refine wpQ2_step (fun K hK => ?_)); go_simp; first | ((with_reducible refine hK _ ?_); clear hK K) | (apply Exists.intro; refine ⟨fun x => ?_, hK _ ?_⟩; (fail); clear hK K) | (refine ite_undef (fun h => (by have h_ : (none : Option Bool) = some _ := h; cases h_)) ?_; (with_reducible refine hK _ ?_); clear hK K))
                    (with_reducible refine wpQ2_nil ?_)
                    refine Events.none_ fun w7 hg7 => ?_
                    simp only [picks, List.drop_succ_cons, List.drop_zero]
                    have hE7 := ext_trans hE6 hg7
                    have X7 := Lib.hid (Ext2.blk hg7 X6.out)
                    clear q1c q1f q15c q15f x6 y15 d6 d7
                    go_wp2_with (fail)
                    go_roundw
                    case rel =>
                      refine ⟨k + 1, by go_num, by omega, hE7, X7.out, fun j hj => ?_⟩
                      rcases Nat.lt_or_ge j k with h | h
                      · exact HALL.out j h
                      · obtain rfl : j = k := by omega
                        exact HV.out
                    case measure => simp [intOf]; omega
                · obtain rfl : k = S.cans.length := by omega
                  have hEN : E = if nears S (firstW S.cans) ≠ [] then ((7 : Int), (0 : Int), (9 : Int)) else (0, 0, 0) := by
                    rw [HEO.out, if_neg (show ¬ fstO S < _ from first_allB.2 HALL.out)]
                  have HEN := Lib.hid hEN
                  have HNE := Lib.hid (nearR_any (HS.out.below hB) HNK.out (fun i hi => (st_iff.1 (HST.out i hi)).1.1.1) (HT.out.below hE) HFL.out)
                  have r8 : ¬ (S.cans.length : Int) < (S.cans.length : Int) := by omega
                  clear hEN HALL hlt HEO
                  have q1c := cell_blk x1
                  have q1f := frz_blk x1
                  clear x1
                  go_wp2_with (fail)
                  (with_reducible refine HNE.out.mono ?_)
                  rintro e w12 ⟨v, rfl, hO3, hb12⟩
                  obtain ⟨sl, rfl, -⟩ := hO3.sl
                  have hF := HOUT.out w12 (below_ext hB hb12)
                  clear hO3 hb12
                  by_cases hne : nears S (firstW S.cans) = []
                  · have hE9 : E = ((0 : Int), (0 : Int), (0 : Int)) := by rw [HEN.out, if_neg (not_not_intro hne)]
                    rw [hE9] at hF
                    have HF := Lib.hid hF
                    have hl0 : (nears S (firstW S.cans)).length = 0 := by rw [hne]; rfl
                    rw [hl0]
                    clear hF hE9 hne hl0
                    go_wp2_with (fail)
                    go_ret3
                    exact HF.out
                  · have hE9 : E = ((7 : Int), (0 : Int), (9 : Int)) := by rw [HEN.out, if_pos hne]
                    rw [hE9] at hF
                    have HF := Lib.hid hF
                    have hl0 : 0 < (nears S (firstW S.cans)).length := List.length_pos_iff.2 hne
                    obtain ⟨q, hq⟩ : ∃ q, q = (nears S (firstW S.cans)).length := ⟨_, rfl⟩
                    rw [← hq] at hl0 ⊢
                    clear hF hE9 hne hq
                    go_wp2_with (fail)
                    go_ret3
                    exact HF.out
end Go.Proofs.YtfpaihjcbpaneaaGreatDoor
