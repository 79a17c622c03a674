/-
  vault.Check.
-/
import Derived.Test.YtfpaihjcbpaneaaGreatDoorVNamesA
namespace Go.Proofs.YtfpaihjcbpaneaaGreatDoor.D
set_option linter.unusedVariables false
theorem whereV_nil (S : Site) (h : Int) : whereV S [] h = firstW S.cans := by
  apply List.ext_getElem?
  intro i
  unfold whereV firstW
  rw [List.getElem?_map, List.getElem?_map]
  by_cases hi : i < S.cans.length
  · simp [hi, atV, atK, cnD]
  · rw [List.getElem?_eq_none (by simp; omega), List.getElem?_eq_none (by omega)]; rfl
theorem nrOk_of {S : Site} (h1 : S.rooms.length ≤ 12) (h2 : S.cans.length ≤ 30) (h3 : S.steps.length ≤ 8) (hr : ∀ i, i < S.rooms.length → rmE S.rooms i = 0) (hc : ∀ i, i < S.cans.length → cnE S i = 0) (hs : ∀ i, i < S.steps.length → stE S.steps i = 0) : NrOk S :=
  ⟨⟨fun i hi => (can_iff.1 (cn_iff.1 (hc i hi)).2.2).1, fun i hi => (can_iff.1 (cn_iff.1 (hc i hi)).2.2).2.1, fun i hi => (can_iff.1 (cn_iff.1 (hc i hi)).2.2).2.2⟩, h1, h2, h3,
   fun i hi => ⟨(room_iff.1 (rm_iff.1 (hr i hi)).2.2).2.2.2.2.1, (room_iff.1 (rm_iff.1 (hr i hi)).2.2).2.2.2.2.2⟩, fun i hi => (st_iff.1 (hs i hi)).1.2⟩
/-- What is compared with the step at i. -/
def befO (l : List Stp) (i : Nat) : Int := if i = 0 then -1 else (stD l (i - 1)).over
def befM (l : List Stp) (i : Nat) : Int := if i = 0 then 0 else (stD l (i - 1)).metres
theorem stE_bef {l : List Stp} {i : Nat} : stE l i = if (inB (stD l i).over 0 10000000 && inB (stD l i).metres 0 10000) = false then 7 else if (stD l i).over ≤ befO l i ∨ (stD l i).metres < befM l i then 2 else 0 := by
  unfold stE
  by_cases h : (inB (stD l i).over 0 10000000 && inB (stD l i).metres 0 10000) = false
  · rw [if_pos h, if_pos h]
  · rw [if_neg h, if_neg h]
    simp only [Bool.not_eq_false, Bool.and_eq_true, inB_iff] at h
    unfold befO befM
    cases i with
    | zero => rw [if_neg (by omega), if_neg (by simp; omega)]
    | succ i => simp
end Go.Proofs.YtfpaihjcbpaneaaGreatDoor.D
namespace Go.Proofs.YtfpaihjcbpaneaaGreatDoor
open Go.RowKit D
set_option linter.unusedVariables false
set_option linter.unusedSimpArgs false
attribute [local go_sem high] run_minI run_maxI
attribute [local go_sem] upon2 cls_cell cls_frozen forall_const exists_eq_left'
attribute [local go_sem] FirstUpon
theorem cell_set_ne (w : World) (b b' o o' : Nat) {v : Value} (h : b' ≠ b) : (w.setCell ⟨b', o', none⟩ v).cell? ⟨b, o, none⟩ = w.cell? ⟨b, o, none⟩ := by
  unfold World.cell?; simp [World.setCell, Array.getElem?_modify, h]
theorem ext_cell {w W : World} (h : Ext2 w W) {b o : Nat} {x : Value} (hc : w.cell? ⟨b, o, none⟩ = some x) : W.cell? ⟨b, o, none⟩ = some x := (Below.cell (p := ⟨b, o, none⟩) h (cell_lt hc)).trans hc
def ChkOut (w : World) (S : Site) (e : Ending) (w' : World) : Prop := e = .returned (.tuple #[.int .i64 (checkV S).1, .int .i64 (checkV S).2.1, .int .i64 (checkV S).2.2]) ∧ Below w.heap.size w w'
/-- Check behind its names and numbers: the steps, the nitrate, what is too near. -/
def lateV (S : Site) : Int × Int × Int :=
  if fstS S < S.steps.length then (5, (fstS S : Nat), stE S.steps (fstS S))
  else if fstO S < S.cans.length then (6, (fstO S : Nat), 9)
  else if nears S (firstW S.cans) ≠ [] then (7, 0, 9)
  else (0, 0, 0)
set_option maxRecDepth 100000 in
set_option maxHeartbeats 8000000 in
theorem check_any {S : Site} {s : SSl} {w : World} (hS : SiteAt w S s) (hm : MaxAt w) : Calls Tryz.prog 48 #[.agg #[.slice s.r.a S.rooms.length s.r.cap, .slice s.c.a S.cans.length s.c.cap, .int .i64 S.rlo, .int .i64 S.rhi, .slice s.p.a S.steps.length s.p.cap]] w (ChkOut w S) := by
  have HS := Lib.hid hS; have HM := Lib.hid hm
  have hrl := hS.rm.le; have hrm := hS.rm.max; have hcl := hS.cn.le; have hcm := hS.cn.max; have hpl := hS.st.le; have hpm := hS.st.max
  obtain ⟨E, hE⟩ : ∃ E, E = checkV S := ⟨_, rfl⟩
  have hout : ∀ W, Below w.heap.size w W → ChkOut w S (.returned (.tuple #[.int .i64 E.1, .int .i64 E.2.1, .int .i64 E.2.2])) W := fun W hW => by rw [hE]; exact ⟨rfl, hW⟩
  have HOUT := Lib.hid hout
  unfold checkV at hE
  obtain ⟨v1, hv1⟩ : ∃ v, v = outB (S.rooms.length : Int) 1 12 := ⟨_, rfl⟩
  have hi1 : inB (S.rooms.length : Int) 1 12 = !v1 := by rw [hv1, outB_in, Bool.not_not]
  have HO1 : Hid (∀ W, Calls Tryz.prog 33 #[.int .i64 (S.rooms.length : Int), .int .i64 1, .int .i64 12] W fun e w' => e = .returned (.bool v1) ∧ W = w') := Lib.hid fun W => by rw [hv1]; exact out_any _ _ _ W
  rw [hi1] at hE
  have HE := Lib.hid hE; have HI1 := Lib.hid hi1
  have HNR := Lib.hid fun (W : World) (hW : Below w.heap.size w W) (h : S.rooms.length ≤ 30) => namedR_any (hS.below hW) (hm.below hW) h
  have HNC := Lib.hid fun (W : World) (hW : Below w.heap.size w W) (b : Nat) (h : S.cans.length ≤ 30) (hb : W.heap[b]? = some (Obj.cells #[.slice s.r.a S.rooms.length s.r.cap, .slice s.c.a S.cans.length s.c.cap, .int .i64 S.rlo, .int .i64 S.rhi, .slice s.p.a S.steps.length s.p.cap] 28)) (h2 : S.rooms.length ≤ 12) => namedC_any (hS.below hW) (hm.below hW) h hb h2
  clear hS hm hE hout hi1 hv1
  go_enter Tryz.func48, Tryz.ntmps48
  go_wp2_with (fail)
  refine calls_name ?_
  intro w1 h1
  obtain ⟨b1, hb1⟩ : ∃ b, b = w.heap.size := ⟨_, rfl⟩
  have x1 : w1.heap[b1]? = some (Obj.cells #[.slice s.r.a S.rooms.length s.r.cap, .slice s.c.a S.cans.length s.c.cap, .int .i64 S.rlo, .int .i64 S.rhi, .slice s.p.a S.steps.length s.p.cap] 28) := by rw [h1, hb1]; exact blk_new _ _
  have hB1 : Below w.heap.size w w1 := by rw [h1]; exact below_alloc _ _
  have HB1L : Hid (w.heap.size ≤ b1) := Lib.hid (by omega)
  rw [← hb1]
  have X1 := Lib.hid x1
  clear h1 hb1
  (with_reducible refine (HO1.out _).mono ?_)
  rintro e w' ⟨rfl, rfl⟩
  have q1c := cell_blk x1
  have q1f := frz_blk x1
  cases v1
  case true =>
    have hF := HOUT.out w1 hB1
    have hE2 : E = (1, 0, 3) := by rw [HE.out]; rfl
    rw [hE2] at hF
    have HF := Lib.hid hF
    clear hF hE2
    go_wp2_with (fail)
    go_ret3
    exact HF.out
  case false =>
  have hr12 := inB_iff.1 HI1.out
  by_cases hc30 : 30 < S.cans.length
  · have hF := HOUT.out w1 hB1
    have hE2 : E = (1, 0, 3) := by rw [HE.out, decide_eq_false (by omega : ¬ S.cans.length ≤ 30)]; rfl
    rw [hE2] at hF
    have HF := Lib.hid hF
    clear hF hE2
    go_wp2_with (fail)
    go_ret3
    exact HF.out
  by_cases hs8 : 8 < S.steps.length
  · have hF := HOUT.out w1 hB1
    have hE2 : E = (1, 0, 3) := by rw [HE.out, decide_eq_false (by omega : ¬ S.steps.length ≤ 8)]; simp
    rw [hE2] at hF
    have HF := Lib.hid hF
    clear hF hE2
    go_wp2_with (fail)
    go_ret3
    exact HF.out
  have hE2 := HE.out
  rw [decide_eq_true (by omega : S.cans.length ≤ 30), decide_eq_true (by omega : S.steps.length ≤ 8), if_neg (by simp)] at hE2
  have HE2 := Lib.hid hE2
  clear hE2 HE HI1 HO1
  go_wp2_with (fail)
  (with_reducible refine (HNR.out _ hB1 (by omega)).mono ?_)
  rintro e w2 ⟨rfl, hb2⟩
  have hB2 := below_ext hB1 hb2
  have x2 := Ext2.blk hb2 X1.out
  have X2 := Lib.hid x2
  clear q1c q1f x1 X1 hb2 hB1 HNR
  have q1c := cell_blk x2
  have q1f := frz_blk x2
  by_cases hR : fstR S < S.rooms.length
  · have hne := first_ne hR
    have hE3 : E = ((2 : Int), ((fstR S : Nat) : Int), rmE S.rooms (fstR S)) := by rw [HE2.out, if_pos hR]
    have hF := HOUT.out w2 hB2
    rw [hE3] at hF
    rw [if_pos hR, if_pos hR]
    have HF := Lib.hid hF
    obtain ⟨K, hK⟩ : ∃ K : Int, K = ((fstR S : Nat) : Int) := ⟨_, rfl⟩
    obtain ⟨Y, hY⟩ : ∃ Y, Y = rmE S.rooms (fstR S) := ⟨_, rfl⟩
    have hne' : Y ≠ 0 := by rw [hY]; exact hne
    have hnb : (Y != 0) = true := by simp [hne']
    rw [← hK, ← hY] at HF ⊢
    clear hE3 hF hK hY hne hne' hR
    go_wp2_with (fail)
    go_ret3
    exact HF.out
  rw [if_neg hR, if_neg hR]
  have hE3 := HE2.out
  rw [if_neg hR] at hE3
  have HE3 := Lib.hid hE3
  have HRALL : Hid (∀ i, i < S.rooms.length → rmE S.rooms i = 0) := Lib.hid (first_all.1 hR)
  clear hE3 HE2 hR
  go_wp2_with (fail)
  (with_reducible refine (HNC.out _ hB2 b1 (by omega) X2.out (by omega)).mono ?_)
  rintro e w3 ⟨rfl, hb3⟩
  have hB3 := below_ext hB2 hb3
  have x3 := Ext2.blk hb3 X2.out
  have X3 := Lib.hid x3
  clear q1c q1f x2 X2 hb3 hB2 HNC
  have q1c := cell_blk x3
  have q1f := frz_blk x3
  by_cases hC : fstC S < S.cans.length
  · have hne := first_ne (p := cnE S) hC
    have hE3 : E = ((3 : Int), ((fstC S : Nat) : Int), cnE S (fstC S)) := by rw [HE3.out, if_pos hC]
    have hF := HOUT.out w3 hB3
    rw [hE3] at hF
    rw [if_pos hC, if_pos hC]
    have HF := Lib.hid hF
    obtain ⟨K, hK⟩ : ∃ K : Int, K = ((fstC S : Nat) : Int) := ⟨_, rfl⟩
    obtain ⟨Y, hY⟩ : ∃ Y, Y = cnE S (fstC S) := ⟨_, rfl⟩
    have hne' : Y ≠ 0 := by rw [hY]; exact hne
    have hnb : (Y != 0) = true := by simp [hne']
    rw [← hK, ← hY] at HF ⊢
    clear hE3 hF hK hY hne hne' hC
    go_wp2_with (fail)
    go_ret3
    exact HF.out
  rw [if_neg hC, if_neg hC]
  have hE4 := HE3.out
  rw [if_neg hC] at hE4
  have HE4 := Lib.hid hE4
  have HCALL : Hid (∀ i, i < S.cans.length → cnE S i = 0) := Lib.hid (first_all.1 hC)
  clear hE4 HE3 hC
  obtain ⟨Y, hY⟩ : ∃ Y, Y = oddV S.rlo S.rhi 1 100 := ⟨_, rfl⟩
  have HOD : Hid (∀ W, Calls Tryz.prog 79 #[.agg #[.int .i64 S.rlo, .int .i64 S.rhi], .int .i64 1, .int .i64 100] W fun e w' => e = .returned (.int .i64 Y) ∧ Below W.heap.size W w') := Lib.hid fun W => by rw [hY]; exact odd_any _ _ _ _ W
  have hE5 : (Y ≠ 0 → E = (4, 0, Y)) ∧ (Y = 0 → E = lateV S) := by
    have hE4 := HE4.out
    unfold oddV at hY
    rw [outB_in, outB_in] at hY
    cases h1 : inB S.rlo 1 100 <;> cases h2 : inB S.rhi 1 100 <;> rw [h1, h2] at hY hE4 <;> simp only [Bool.not_true, Bool.not_false, Bool.or_true, Bool.or_false, Bool.true_or, Bool.false_or, if_true, Bool.false_eq_true, if_false, Bool.and_true, Bool.and_false, Bool.true_and, Bool.false_and, Bool.true_eq_false] at hY hE4
    · exact ⟨fun _ => by rw [hE4, hY], fun h => by omega⟩
    · exact ⟨fun _ => by rw [hE4, hY], fun h => by omega⟩
    · exact ⟨fun _ => by rw [hE4, hY], fun h => by omega⟩
    · by_cases h3 : S.rhi < S.rlo
      · rw [if_pos h3] at hY hE4
        exact ⟨fun _ => by rw [hE4, hY], fun h => by omega⟩
      · rw [if_neg h3] at hY hE4
        exact ⟨fun h => absurd hY h, fun _ => hE4⟩
  have HE5 := Lib.hid hE5
  clear hY hE5 HE4
  go_wp2_with (fail)
  (with_reducible refine (HOD.out _).mono ?_)
  rintro e w4 ⟨rfl, hb4⟩
  have hB4 := below_ext hB3 hb4
  have x4 := Ext2.blk hb4 X3.out
  have X4 := Lib.hid x4
  clear q1c q1f x3 X3 hb4 hB3
  by_cases hy : Y = 0
  · have hyb : (Y != 0) = false := by simp [hy]
    have hEL := HE5.out.2 hy
    have HEL := Lib.hid hEL
    clear hy hEL HE5
    have l4 := blk_lt x4
    have n4 : ¬ b1 = w4.heap.size := by omega
    have q1c := cell_blk x4
    have q1f := frz_blk x4
    go_wp2_with (fail)
    refine wp_name ?_
    intro w5 h5
    obtain ⟨b5, hb5⟩ : ∃ b, b = w4.heap.size := ⟨_, rfl⟩
    have hE5' : Ext2 w4 w5 := by rw [h5]; exact below_alloc' _ _
    have y5 : w5.heap[b5]? = some (Obj.cells #[.int .i64 (befO S.steps 0), .int .i64 (befM S.steps 0)] 128) := by rw [h5, hb5]; exact blk_new _ _
    have x5 := Ext2.blk hE5' x4
    have hB5 := below_ext hB4 hE5'
    have X5 := Lib.hid x5; have Y5 := Lib.hid y5
    have hne15 : b1 ≠ b5 := by rw [hb5]; omega
    have hle5 : w.heap.size ≤ b5 := by rw [hb5]; exact hB4.size
    rw [← hb5]
    obtain ⟨⟨ra, rc⟩, ⟨ca, cc⟩, ⟨pa, pc⟩⟩ := s
    obtain ⟨rb, roff, hra, -⟩ := rm_cells HS.out.rm (i := 0) (by omega)
    dsimp only at hra
    subst hra
    dsimp only at hpl hpm hrl hrm hcl hcm x5 X5
    clear h5 hb5 x4 X4 l4 n4 q1c q1f hE5' x5 y5 hB4
    go_loopw [59] (fun z wr => ∃ k : Nat, z = .int .i64 (k : Int) ∧ k ≤ S.steps.length ∧ Below w.heap.size w wr ∧ wr.heap[b1]? = some (Obj.cells #[.slice (some ⟨rb, roff, none⟩) S.rooms.length rc, .slice ca S.cans.length cc, .int .i64 S.rlo, .int .i64 S.rhi, .slice pa S.steps.length pc] 28) ∧ wr.heap[b5]? = some (Obj.cells #[.int .i64 (befO S.steps k), .int .i64 (befM S.steps k)] 128) ∧ ∀ j, j < k → (stE S.steps j != 0) = false) (fun z _ => S.steps.length - (intOf z).toNat)
    case atStart => exact ⟨0, rfl, by omega, hB5, X5.out, Y5.out, fun j hj => absurd hj (Nat.not_lt_zero j)⟩
    case round =>
      obtain ⟨k, rfl, hk, hB, x1, y1, hall⟩ := hrel
      have HALL := Lib.hid hall
      clear hall
      by_cases hlt : k < S.steps.length
      · go_light
        obtain ⟨pb, poff, hpa, c0, c1⟩ := st_cells (HS.out.below hB).st hlt
        dsimp only at hpa
        subst hpa
        obtain ⟨x, hx⟩ : ∃ x, x = stD S.steps k := ⟨_, rfl⟩
        rw [← hx] at c0 c1
        have hst := stE_bef (l := S.steps) (i := k)
        obtain ⟨bo, hbo⟩ : ∃ b, b = befO S.steps k := ⟨_, rfl⟩
        obtain ⟨bm, hbm⟩ : ∃ b, b = befM S.steps k := ⟨_, rfl⟩
        rw [← hbo, ← hbm] at y1
        rw [← hbo, ← hbm, ← hx] at hst
        obtain ⟨v1, hv1⟩ : ∃ v, v = outB x.over 0 10000000 := ⟨_, rfl⟩
        obtain ⟨v2, hv2⟩ : ∃ v, v = outB x.metres 0 10000 := ⟨_, rfl⟩
        rw [show inB x.over 0 10000000 = !v1 by rw [hv1, outB_in, Bool.not_not], show inB x.metres 0 10000 = !v2 by rw [hv2, outB_in, Bool.not_not]] at hst
        have HST := Lib.hid hst; have HX := Lib.hid hx
        have HO1 : Hid (∀ W, Calls Tryz.prog 33 #[.int .i64 x.over, .int .i64 0, .int .i64 10000000] W fun e w' => e = .returned (.bool v1) ∧ W = w') := Lib.hid fun W => by rw [hv1]; exact out_any _ _ _ W
        have HO2 : Hid (∀ W, Calls Tryz.prog 33 #[.int .i64 x.metres, .int .i64 0, .int .i64 10000] W fun e w' => e = .returned (.bool v2) ∧ W = w') := Lib.hid fun W => by rw [hv2]; exact out_any _ _ _ W
        have r0 : (0 : Int) ≤ (k : Int) := by omega
        have r1 : (k : Int) < (S.steps.length : Int) := by omega
        have w3' : IntKind.i64.wrap ((k : Int) + 1) = (k : Int) + 1 := IntWalk.i64_in _ (by omega)
        have hbad : ∀ W, Below w.heap.size w W → stE S.steps k ≠ 0 → ChkOut w S (.returned (.tuple #[.int .i64 5, .int .i64 (k : Int), .int .i64 (stE S.steps k)])) W := fun W hW h0 => by
          have hF := HOUT.out W hW
          have hf : fstS S = k := firstN_at HALL.out (by simp [h0]) hlt
          have hE9 : E = ((5 : Int), ((k : Nat) : Int), stE S.steps k) := by rw [HEL.out]; unfold lateV; rw [hf, if_pos hlt]
          rw [hE9] at hF
          exact hF
        have HBAD := Lib.hid hbad
        clear hx hv1 hv2 hst hbo hbm hbad
        go_wp2_with (fail)
        refine calls_name ?_
        intro w6 h6
        obtain ⟨b7, hb7⟩ : ∃ b, b = wr.heap.size := ⟨_, rfl⟩
        have hE6 : Ext2 wr w6 := by rw [h6]; exact below_alloc' _ _
        have y7 : w6.heap[b7]? = some (Obj.cells #[.int .i64 x.over, .int .i64 x.metres] 128) := by rw [h6, hb7]; exact blk_new _ _
        have x6 := Ext2.blk hE6 x1; have y6 := Ext2.blk hE6 y1
        have hB6 := below_ext hB hE6
        have hne57 : ¬ b5 = b7 := by rw [hb7]; have := blk_lt y1; omega
        rw [← hb7]
        have X6 := Lib.hid x6; have Y6 := Lib.hid y6; have Y7 := Lib.hid y7
        clear h6 hb7 c0 c1 x1 y1 hB hE6 x6
        have q5c := cell_blk y6
        have q5f := frz_blk y6
        have q7c := cell_blk y7
        have q7f := frz_blk y7
        (with_reducible refine (HO1.out _).mono ?_)
        rintro e w' ⟨rfl, rfl⟩
        cases v1
        case true =>
          have h7 : stE S.steps k = 7 := by rw [HST.out]; rfl
          have hF := HBAD.out w6 hB6 (by rw [h7]; omega)
          rw [h7] at hF
          have HF := Lib.hid hF
          clear h7 hF
          go_wp2_with (fail)
          go_ret3
          exact HF.out
        case false =>
        go_wp2_with (fail)
        (with_reducible refine (HO2.out _).mono ?_)
        rintro e w' ⟨rfl, rfl⟩
        cases v2
        case true =>
          have h7 : stE S.steps k = 7 := by rw [HST.out]; rfl
          have hF := HBAD.out w6 hB6 (by rw [h7]; omega)
          rw [h7] at hF
          have HF := Lib.hid hF
          clear h7 hF
          go_wp2_with (fail)
          go_ret3
          exact HF.out
        case false =>
        have hst2 := HST.out
        rw [if_neg (by simp)] at hst2
        by_cases hbb : x.over ≤ bo ∨ x.metres < bm
        · rw [if_pos hbb] at hst2
          have hF := HBAD.out w6 hB6 (by rw [hst2]; omega)
          rw [hst2] at hF
          have HF := Lib.hid hF
          clear hst2 hF
          by_cases h1 : x.over ≤ bo
          · clear hbb
            go_wp2_with (fail)
            go_ret3
            exact HF.out
          · have h2 : x.metres < bm := by omega
            clear hbb
            go_wp2_with (fail)
            go_ret3
            exact HF.out
        · rw [if_neg hbb] at hst2
          have HST2 := Lib.hid hst2
          have h1 : ¬ x.over ≤ bo := by omega
          have h2 : ¬ x.metres < bm := by omega
          clear hst2 hbb
          go_wp2_with (fail)
          go_roundw
          case rel =>
            refine ⟨k + 1, by go_num, by omega, below_set (below_set hB6 hle5) hle5, ?_, ?_, fun j hj => ?_⟩
            · exact blk_set_ne (blk_set_ne X6.out (Ne.symm hne15)) (Ne.symm hne15)
            · refine Eq.trans (blk_set (blk_set Y6.out _ _) _ _) ?_
              rw [show befO S.steps (k + 1) = x.over by rw [HX.out]; rfl, show befM S.steps (k + 1) = x.metres by rw [HX.out]; rfl]; rfl
            · rcases Nat.lt_or_ge j k with h | h
              · exact HALL.out j h
              · obtain rfl : j = k := by omega
                rw [HST2.out]; rfl
          case measure => simp [intOf]; omega
      · obtain rfl : k = S.steps.length := by omega
        have hST : ∀ i, i < S.steps.length → stE S.steps i = 0 := fun i hi => by have := HALL.out i hi; simpa using this
        have hEO : E = if fstO S < S.cans.length then ((6 : Int), ((fstO S : Nat) : Int), (9 : Int)) else if nears S (firstW S.cans) ≠ [] then (7, 0, 9) else (0, 0, 0) := by
          rw [HEL.out]; unfold lateV; rw [if_neg (show ¬ fstS S < _ from first_all.2 hST)]
        have HEO := Lib.hid hEO
        have HNK := Lib.hid (nrOk_of (by omega) (by omega) (by omega) HRALL.out HCALL.out hST)
        have r9 : ¬ (S.steps.length : Int) < (S.steps.length : Int) := by omega
        clear hST hEO HALL hlt y1
        obtain ⟨n, hn⟩ : ∃ n, n = S.rooms.length := ⟨_, rfl⟩
        have HN := Lib.hid hn
        have l1 := blk_lt x1
        have n1 : ¬ b1 = wr.heap.size := by omega
        have n1' : ¬ b1 = wr.heap.size + 1 := by omega
        clear hn
        have q1c := cell_blk x1
        have q1f := frz_blk x1
        go_wp2_with (at_make; refine wpList_mk elInt rfl _ rfl S.rooms.length rfl (by omega) ?_)
        refine wp_name ?_
        intro w7 h7
        obtain ⟨b8, hb8⟩ : ∃ b, b = wr.heap.size := ⟨_, rfl⟩
        obtain ⟨g, hg⟩ : ∃ b, b = wr.heap.size + 1 := ⟨_, rfl⟩
        have hE7 : Ext2 wr w7 := by rw [h7]; exact (Below.alloc (below_alloc' _ _) (by simp) _)
        have y8 : w7.heap[b8]? = some (Obj.cells #[.slice (some ⟨rb, roff, none⟩) S.rooms.length rc, .slice ca S.cans.length cc, .int .i64 S.rlo, .int .i64 S.rhi, .slice pa S.steps.length pc, .slice none 0 0] 76) := by rw [h7, hb8]; exact blk_alloc (blk_new _ _) _
        have hO7 : OwnR w7 w.heap.size 3 1 (.slice (some ⟨g, 0, none⟩) S.rooms.length S.rooms.length) S.rooms.length (fun r _ => .int .i64 (amtK S.cans (firstW S.cans) (r : Int) 0)) := OwnR.congr (own_made (z := #[.int .i64 0]) rfl (by omega) (by unfold maxLen; omega) (by have := hB.size; omega) (by rw [h7, hg, Nat.mul_one]; exact blk_new' _ _ (by simp))) fun i j hi hj => by
          obtain rfl : j = 0 := by omega
          rfl
        have HO7 := Lib.hid hO7
        have x7 := Ext2.blk hE7 x1
        have hB7 := below_ext hB hE7
        have hle8 : w.heap.size ≤ b8 := by rw [hb8]; exact hB.size
        have hne18 : b1 ≠ b8 := by omega
        have hgb : b8 < g := by omega
        have hg1 : b1 < g := by omega
        rw [← hg, ← hb8]
        have X7 := Lib.hid x7; have Y8 := Lib.hid y8
        clear h7 hO7 hg hb8 q1c q1f l1 n1 n1' x1 hE7 x7 y8 hB
        obtain ⟨wo, hwo⟩ : ∃ wo, wo = wr := ⟨_, rfl⟩
        go_loopw [99] (fun z wr => ∃ k : Nat, z = .int .i64 (k : Int) ∧ k ≤ S.cans.length ∧ Below w.heap.size w wr ∧ wr.heap[b1]? = some (Obj.cells #[.slice (some ⟨rb, roff, none⟩) S.rooms.length rc, .slice ca S.cans.length cc, .int .i64 S.rlo, .int .i64 S.rhi, .slice pa S.steps.length pc] 28) ∧ wr.heap[b8]? = some (Obj.cells #[.slice (some ⟨rb, roff, none⟩) S.rooms.length rc, .slice ca S.cans.length cc, .int .i64 S.rlo, .int .i64 S.rhi, .slice pa S.steps.length pc, .slice none 0 0] 76) ∧ OwnR wr w.heap.size 3 1 (.slice (some ⟨g, 0, none⟩) S.rooms.length S.rooms.length) S.rooms.length (fun r _ => .int .i64 (amtK S.cans (firstW S.cans) (r : Int) k)) ∧ ∀ j, j < k → overB S j = false) (fun z _ => S.cans.length - (intOf z).toNat)
        case atStart => exact ⟨0, rfl, by omega, hB7, X7.out, Y8.out, HO7.out, fun j hj => absurd hj (Nat.not_lt_zero j)⟩
        case round =>
          obtain ⟨k, rfl, hk, hB, x1, y8, hO, hall⟩ := hrel
          have HALL := Lib.hid hall; have HO := Lib.hid hO
          clear hall hO
          by_cases hlt : k < S.cans.length
          · go_light
            obtain ⟨cb, coff, hca, c0, c1, c2, c3⟩ := cn_cells (HS.out.below hB).cn hlt
            dsimp only at hca
            subst hca
            have hrm0 := HNK.out.cans.room k hlt
            have hfr := HNK.out.cans.frames k hlt
            have hac := amtK_nonneg HNK.out.cans (wh := firstW S.cans) (r := (cnD S.cans k).room) (k := k) (by omega)
            obtain ⟨r, hr0⟩ : ∃ r : Nat, (cnD S.cans k).room = (r : Int) := ⟨(cnD S.cans k).room.toNat, by omega⟩
            rw [hr0] at c3 hrm0 hac
            have hrn : r < S.rooms.length := by omega
            obtain ⟨_, _, hra, hc⟩ := rm_cells (HS.out.below hB).rm hrn
            obtain ⟨rfl, rfl⟩ : rb = _ ∧ roff = _ := by simpa using hra
            have d6 := hc.c6; have d7 := hc.c7
            obtain ⟨al, hal⟩ : ∃ al, al = (rmD S.rooms r).allows := ⟨_, rfl⟩
            obtain ⟨mo, hmo⟩ : ∃ mo, mo = (rmD S.rooms r).most := ⟨_, rfl⟩
            rw [← hal] at d6
            rw [← hmo] at d7
            have hov : overB S k = decide ((cnD S.cans k).base = 1 ∧ (al = false ∨ mo < amtK S.cans (firstW S.cans) (r : Int) (k + 1))) := by unfold overB; rw [hr0, Int.toNat_natCast, ← hal, ← hmo]
            obtain ⟨x, hx⟩ : ∃ x, x = cnD S.cans k := ⟨_, rfl⟩
            obtain ⟨A, hA⟩ : ∃ A, A = amtK S.cans (firstW S.cans) (r : Int) k := ⟨_, rfl⟩
            rw [← hA] at hac
            rw [← hx] at c0 c1 c2 hfr hov
            have hwk : intD (firstW S.cans) k = (r : Int) := by rw [firstW_at hlt, hr0]
            have hA1 : x.base = 1 → amtK S.cans (firstW S.cans) (r : Int) (k + 1) = A + x.frames := fun h => by rw [amtK, hwk, ← hx, if_pos ⟨rfl, h⟩, hA]
            have HWK := Lib.hid hwk; have HA := Lib.hid hA; have HX := Lib.hid hx; have HOV := Lib.hid hov; have HA1 := Lib.hid hA1
            obtain ⟨f0, f1, f2, f3⟩ := HO.out.cell1 hrn
            rw [← hA] at f0
            have p0 : (0 : Int) ≤ (k : Int) := by omega
            have p1 : (k : Int) < (S.cans.length : Int) := by omega
            have p2 : (0 : Int) ≤ (r : Int) := by omega
            have p3 : (r : Int) < (S.rooms.length : Int) := by omega
            have w3' : IntKind.i64.wrap ((k : Int) + 1) = (k : Int) + 1 := IntWalk.i64_in _ (by omega)
            have w4' : IntKind.i64.wrap (A + x.frames) = A + x.frames := IntWalk.i64_in _ (by omega)
            have lgw := f2
            clear hr0 hra hc hal hmo hx hA hov hwk hA1
            by_cases hbs : x.base = 1
            · have hb1 : (x.base != 1) = false := by simp [hbs]
              have HBS := Lib.hid hbs; clear hbs
              go_wp2_with (fail)
              refine wp_name ?_
              intro w8 h8
              obtain ⟨b11, hb11⟩ : ∃ b, b = wr.heap.size := ⟨_, rfl⟩
              have hE8 : Ext2 wr w8 := by rw [h8]; exact below_alloc' _ _
              have y11 : w8.heap[b11]? = some (Obj.cells #[.string x.name, .int .i64 x.base, .int .i64 x.frames, .int .i64 (r : Int)] 124) := by rw [h8, hb11]; exact blk_new _ _
              have hgn : ¬ g = b11 := by omega
              have HO8 := Lib.hid (HO.out.below hE8)
              have hB8 := below_ext hB hE8
              have X8 := Lib.hid (Ext2.blk hE8 x1); have Y8' := Lib.hid (Ext2.blk hE8 y8)
              have e6 := ext_cell hE8 d6
              have e7 := ext_cell hE8 d7
              have lrb : rb < w.heap.size := by
                obtain ⟨_, _, h1, h2⟩ := rm_cells HS.out.rm hrn
                obtain ⟨rfl, rfl⟩ : rb = _ ∧ roff = _ := by simpa using h1
                exact cell_lt h2.c0
              have hlg : w.heap.size ≤ g := f3
              rw [← hb11]
              clear h8 c0 c1 c2 c3 f0 f1 f2 f3 x1 y8 d6 d7 hb11
              obtain ⟨f0, f1, f2, f3⟩ := HO8.out.cell1 hrn
              rw [← HA.out] at f0
              have q11c := cell_blk y11
              have q11f := frz_blk y11
              refine region_ev [] [0, 1, 2, 3, 4, 5, 6, 7, 8] [] [9] (by kernel_rfl) (by kernel_rfl) (by intro c a d v w h; cases d <;> exact h) ?_
              simp only [picks, List.drop_succ_cons, List.drop_zero]
              repeat (refine wpQ0_step (fun K hK => ?_); go_simp; (refine hK _ ?_; clear hK K))
              refine wpQ0_nil ?_
              repeat ((with_reducible refine wpQ2_step (fun K hK => ?_)); go_simp; first | ((with_reducible refine hK _ ?_); clear hK K) | (apply Exists.intro; refine ⟨fun x => ?_, hK _ ?_⟩; (fail); clear hK K))
              refine wpQ2_nil ?_
              refine Events.none_ fun w9 hg9 => ?_
              simp only [picks, List.drop_succ_cons, List.drop_zero]
              have HO9 := Lib.hid (HO8.out.below hg9)
              have X9 := Lib.hid (Ext2.blk hg9 X8.out); have Y9 := Lib.hid (Ext2.blk hg9 Y8'.out); have Y11 := Lib.hid (Ext2.blk hg9 y11)
              have hB9 := below_ext hB8 hg9
              have e6' := ext_cell hg9 e6
              have e7' := ext_cell hg9 e7
              clear q11c q11f f0 f1 f2 f3 y11 e6 e7
              obtain ⟨f0, f1, f2, f3⟩ := HO9.out.cell1 hrn
              go_wp2_with (fail)
              refine wp_name ?_
              intro w10 h10
              have hO10 : OwnR w10 w.heap.size 3 1 (.slice (some ⟨g, 0, none⟩) S.rooms.length S.rooms.length) S.rooms.length (fun r _ => .int .i64 (amtK S.cans (firstW S.cans) (r : Int) (k + 1))) := by
                rw [h10]
                refine HO9.out.set1 hrn _ fun r' hr' => ?_
                by_cases he : r' = r
                · subst he; rw [if_pos rfl, HA1.out HBS.out]
                · rw [if_neg he, amtK, HWK.out, if_neg (fun h => he (by omega)), Int.add_zero]
              have HO10 := Lib.hid hO10
              have hB10 : Below w.heap.size w w10 := by rw [h10]; exact below_set hB9 hlg
              have x10 : w10.heap[b1]? = some (Obj.cells #[.slice (some ⟨rb, roff, none⟩) S.rooms.length rc, .slice (some ⟨cb, coff, none⟩) S.cans.length cc, .int .i64 S.rlo, .int .i64 S.rhi, .slice pa S.steps.length pc] 28) := by rw [h10]; exact blk_set_ne X9.out (by omega)
              have y10 : w10.heap[b8]? = some (Obj.cells #[.slice (some ⟨rb, roff, none⟩) S.rooms.length rc, .slice (some ⟨cb, coff, none⟩) S.cans.length cc, .int .i64 S.rlo, .int .i64 S.rhi, .slice pa S.steps.length pc, .slice none 0 0] 76) := by rw [h10]; exact blk_set_ne Y9.out (by omega)
              have y11 : w10.heap[b11]? = some (Obj.cells #[.string x.name, .int .i64 x.base, .int .i64 x.frames, .int .i64 (r : Int)] 124) := by rw [h10]; exact blk_set_ne Y11.out (by omega)
              have d6 : w10.cell? ⟨rb, roff + r * 10 + 6, none⟩ = some (.bool al) := by rw [h10, cell_set_ne _ _ _ _ _ (by omega)]; exact e6'
              have d7 : w10.cell? ⟨rb, roff + r * 10 + 7, none⟩ = some (.int .i64 mo) := by rw [h10, cell_set_ne _ _ _ _ _ (by omega)]; exact e7'
              have X10 := Lib.hid x10; have Y10 := Lib.hid y10; have Y11' := Lib.hid y11
              clear h10 f0 f1 f2 f3 e6' e7' hO10 HO9 HO8 HO X8 X9 Y8' Y9 Y11 hB8 hB9 x10 y10 y11
              obtain ⟨f0, f1, f2, f3⟩ := HO10.out.cell1 hrn
              rw [HA1.out HBS.out] at f0
              have x10 := X10.out; have y11 := Y11'.out
              have q1c := cell_blk x10
              have q1f := frz_blk x10
              have q11c := cell_blk y11
              have q11f := frz_blk y11
              have hbad : ∀ W, Below w.heap.size w W → overB S k = true → ChkOut w S (.returned (.tuple #[.int .i64 6, .int .i64 (k : Int), .int .i64 9])) W := fun W hW h0 => by
                have hF := HOUT.out W hW
                have hf : fstO S = k := firstN_at HALL.out h0 hlt
                have hE9 : E = ((6 : Int), ((k : Nat) : Int), (9 : Int)) := by rw [HEO.out, hf, if_pos hlt]
                rw [hE9] at hF
                exact hF
              have HBAD := Lib.hid hbad
              clear hbad
              have hovE := HOV.out
              rw [HA1.out HBS.out] at hovE
              have HOVE := Lib.hid hovE
              clear hovE HOV
              cases al
              case false =>
                have hv : overB S k = true := by rw [HOVE.out]; exact decide_eq_true ⟨HBS.out, .inl rfl⟩
                have HV := Lib.hid hv
                clear hv
                refine region_ev [] [0, 1, 2, 3, 4, 5, 6, 7, 8, 9, 10, 11, 12, 13, 14, 15, 16, 17, 18, 19, 20, 21, 22] [] [] (by kernel_rfl) (by kernel_rfl) (by intro c a d v w h; cases d <;> exact h) ?_
                simp only [picks, List.drop_succ_cons, List.drop_zero]
                repeat (refine wpQ0_step (fun K hK => ?_); go_simp; (refine hK _ ?_; clear hK K))
                refine wpQ0_nil ?_
                repeat ((with_reducible refine wpQ2_step (fun K hK => ?_)); go_simp; first | ((with_reducible refine hK _ ?_); clear hK K) | (apply Exists.intro; refine ⟨fun x => ?_, hK _ ?_⟩; (fail); clear hK K))
                refine wpQ2_nil ?_
                refine Events.none_ fun w11 hg11 => ?_
                simp only [picks, List.drop_succ_cons, List.drop_zero]
                have HF := Lib.hid (HBAD.out _ (below_ext hB10 hg11) HV.out)
                clear q1c q1f q11c q11f x10 y11 f0 f1 f2 f3 d6 d7
                go_wp2_with (fail)
                go_ret3
                exact HF.out
              case true =>
                by_cases hmx : mo < A + x.frames
                · have hv : overB S k = true := by rw [HOVE.out]; exact decide_eq_true ⟨HBS.out, .inr hmx⟩
                  have HV := Lib.hid hv
                  have hd : decide (mo < A + x.frames) = true := decide_eq_true hmx
                  clear hv hmx
                  refine region_ev [] [0, 1, 2, 3, 4, 5, 6, 7, 8, 9, 10, 11, 12, 13, 14, 15, 16, 17, 18, 19, 20, 21, 22] [] [] (by kernel_rfl) (by kernel_rfl) (by intro c a d v w h; cases d <;> exact h) ?_
                  simp only [picks, List.drop_succ_cons, List.drop_zero]
                  repeat (refine wpQ0_step (fun K hK => ?_); go_simp; (refine hK _ ?_; clear hK K))
                  refine wpQ0_nil ?_
                  repeat ((with_reducible refine wpQ2_step (fun K hK => ?_)); go_simp; first | ((with_reducible refine hK _ ?_); clear hK K) | (apply Exists.intro; refine ⟨fun x => ?_, hK _ ?_⟩; (fail); clear hK K))
                  refine wpQ2_nil ?_
                  refine Events.none_ fun w11 hg11 => ?_
                  simp only [picks, List.drop_succ_cons, List.drop_zero]
                  have HF := Lib.hid (HBAD.out _ (below_ext hB10 hg11) HV.out)
                  clear q1c q1f q11c q11f x10 y11 f0 f1 f2 f3 d6 d7 hd
                  go_wp2_with (fail)
                  go_ret3
                  exact HF.out
                · have hv : overB S k = false := by
                    rw [HOVE.out]
                    refine decide_eq_false fun h => ?_
                    rcases h.2 with h2 | h2
                    · cases h2
                    · exact hmx h2
                  have HV := Lib.hid hv
                  have hd : decide (mo < A + x.frames) = false := decide_eq_false hmx
                  clear hv hmx
                  refine region_ev [] [0, 1, 2, 3, 4, 5, 6, 7, 8, 9, 10, 11, 12, 13, 14, 15, 16, 17, 18, 19, 20, 21, 22] [] [] (by kernel_rfl) (by kernel_rfl) (by intro c a d v w h; cases d <;> exact h) ?_
                  simp only [picks, List.drop_succ_cons, List.drop_zero]
                  repeat (refine wpQ0_step (fun K hK => ?_); go_simp; (refine hK _ ?_; clear hK K))
                  refine wpQ0_nil ?_
                  repeat ((with_reducible refine wpQ2_step (fun K hK => ?_)); go_simp; first | ((with_reducible refine hK _ ?_); clear hK K) | (apply Exists.intro; refine ⟨fun x => ?_, hK _ ?_⟩; (fail); clear hK K))
                  refine wpQ2_nil ?_
                  refine Events.none_ fun w11 hg11 => ?_
                  simp only [picks, List.drop_succ_cons, List.drop_zero]
                  clear q1c q1f q11c q11f x10 y11 f0 f1 f2 f3 d6 d7 hd
                  go_wp2_with (fail)
                  go_roundw
                  case rel =>
                    refine ⟨k + 1, by go_num, by omega, below_ext hB10 hg11, Ext2.blk hg11 X10.out, Ext2.blk hg11 Y10.out, HO10.out.below hg11, fun j hj => ?_⟩
                    rcases Nat.lt_or_ge j k with h | h
                    · exact HALL.out j h
                    · obtain rfl : j = k := by omega
                      exact HV.out
                  case measure => simp [intOf]; omega
            · have hb1 : (x.base != 1) = true := by simp [hbs]
              have hv : overB S k = false := by rw [HOV.out]; exact decide_eq_false fun h => hbs h.1
              have HV := Lib.hid hv
              have hO1 : OwnR wr w.heap.size 3 1 (.slice (some ⟨g, 0, none⟩) S.rooms.length S.rooms.length) S.rooms.length (fun r _ => .int .i64 (amtK S.cans (firstW S.cans) (r : Int) (k + 1))) := HO.out.congr fun i' j' _ _ => by rw [amtK, ← HX.out, if_neg (fun h => hbs h.2), Int.add_zero]
              have HO1 := Lib.hid hO1
              clear hbs hv hO1
              go_wp2_with (fail)
              go_roundw
              case rel =>
                refine ⟨k + 1, by go_num, by omega, Below.alloc hB hB.size _, blk_alloc x1 _, blk_alloc y8 _, HO1.out.below (below_alloc' _ _), fun j hj => ?_⟩
                rcases Nat.lt_or_ge j k with h | h
                · exact HALL.out j h
                · obtain rfl : j = k := by omega
                  exact HV.out
              case measure => simp [intOf]; omega
          · obtain rfl : k = S.cans.length := by omega
            have hEN : E = if nears S (firstW S.cans) ≠ [] then ((7 : Int), (0 : Int), (9 : Int)) else (0, 0, 0) := by
              rw [HEO.out, if_neg (show ¬ fstO S < _ from first_allB.2 HALL.out)]
            have HEN := Lib.hid hEN
            have hV : VltAt wr S ⟨⟨some ⟨rb, roff, none⟩, rc⟩, ⟨ca, cc⟩, ⟨pa, pc⟩⟩ b8 [] ⟨none, 0⟩ := ⟨y8, HS.out.below hB, ⟨Nat.le_refl _, by simp, fun i j hi => absurd hi (Nat.not_lt_zero i)⟩⟩
            have HV := Lib.hid hV
            have r8 : ¬ (S.cans.length : Int) < (S.cans.length : Int) := by omega
            have hwh := where_any (h := -1) hV (by omega) (fun m hm => by cases hm) (by simp)
            rw [whereV_nil] at hwh
            have HWH := Lib.hid hwh
            clear hEN hV hwh hlt HALL HO y8 x1
            go_wp2_with (fail)
            (with_reducible refine HWH.out.mono ?_)
            rintro e w11 ⟨g2, cap2, rfl, hO2, hb11⟩
            have hB11 := below_ext hB hb11
            have hfl : (firstW S.cans).length = S.cans.length := by simp [firstW]
            have HNE := Lib.hid (near_any (HV.out.below hb11) HNK.out (hO2.sl2 hfl) hfl (fun i hi => by rw [firstW_at hi]; exact HNK.out.cans.room i hi))
            clear hO2 hb11 hfl
            go_wp2_with (fail)
            (with_reducible refine HNE.out.mono ?_)
            rintro e w12 ⟨v, rfl, hO3, hb12⟩
            obtain ⟨sl, rfl, -⟩ := hO3.sl
            have hF := HOUT.out w12 (below_ext hB11 hb12)
            clear hO3 hb12
            by_cases hne : nears S (firstW S.cans) = []
            · have hE9 : E = ((0 : Int), (0 : Int), (0 : Int)) := by rw [HEN.out, if_neg (not_not_intro hne)]
              rw [hE9] at hF
              have HF := Lib.hid hF
              have hl0 : (nears S (firstW S.cans)).length = 0 := by rw [hne]; rfl
              rw [hl0]
              clear hF hE9 hne hl0
              go_wp2_with (fail)
              go_ret3
              exact HF.out
            · have hE9 : E = ((7 : Int), (0 : Int), (9 : Int)) := by rw [HEN.out, if_pos hne]
              rw [hE9] at hF
              have HF := Lib.hid hF
              have hl0 : 0 < (nears S (firstW S.cans)).length := List.length_pos_iff.2 hne
              obtain ⟨q, hq⟩ : ∃ q, q = (nears S (firstW S.cans)).length := ⟨_, rfl⟩
              rw [← hq] at hl0 ⊢
              clear hF hE9 hne hq
              go_wp2_with (fail)
              go_ret3
              exact HF.out
  · have hyb : (Y != 0) = true := by simp [hy]
    have hF := HOUT.out w4 hB4
    rw [HE5.out.1 hy] at hF
    have HF := Lib.hid hF
    clear hy hF
    go_wp2_with (fail)
    go_ret3
    exact HF.out
end Go.Proofs.YtfpaihjcbpaneaaGreatDoor
