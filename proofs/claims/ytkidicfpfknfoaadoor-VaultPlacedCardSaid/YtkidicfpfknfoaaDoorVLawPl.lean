/-
  The law VaultPlaced, walked.
-/
import Derived.Test.YtkidicfpfknfoaaDoorVAwake
import Derived.Test.YtkidicfpfknfoaaDoorVAirA
import Derived.Test.YtkidicfpfknfoaaDoorVRefC
import Derived.Test.YtkidicfpfknfoaaDoorVPathA
import Derived.Test.YtkidicfpfknfoaaDoorVPlBst
namespace Go.Proofs.YtkidicfpfknfoaaDoor
open Go.RowKit D
set_option linter.unusedVariables false
set_option linter.unusedSimpArgs false
attribute [local go_sem high] run_minI run_maxI
attribute [local go_sem] upon2 cls_cell cls_frozen forall_const exists_eq_left'
attribute [local go_sem] FirstUpon
theorem nearE_zero {S : Site} {wh : List Int} (hC : Chk S) (hl : wh.length = S.cans.length) (hw : ∀ i, i < S.cans.length → 0 ≤ intD wh i ∧ intD wh i < S.rooms.length) : nearE S wh = 0 := by
  unfold nearE
  rw [if_neg (by rw [chk_iff.2 hC]; decide), if_neg (by rw [hl]; simp)]
  have : anyF (fun i => outR S (intD wh i)) wh.length = false := by
    unfold anyF
    rw [firstN_none fun i hi => ?_]
    · simp
    · unfold outR
      rw [outB_in, inB_iff.2 (by have := hw i (by omega); omega)]; rfl
  rw [this]; simp
set_option maxRecDepth 100000 in
set_option maxHeartbeats 8000000 in
theorem lawPlaced_any {S : Site} {s : SSl} {L : List Mv} {sl : Sl} {hr : Int} {w : World} (hS : SiteAt w S s) (hL : MovesS w sl L) (hx : 0 ≤ hr ∧ hr ≤ 65535) (hm : MaxAt w) :
    Calls Tryd.prog 9 #[.agg #[.slice s.r.a S.rooms.length s.r.cap, .slice s.c.a S.cans.length s.c.cap, .int .i64 S.rlo, .int .i64 S.rhi, .slice s.p.a S.steps.length s.p.cap], .slice sl.a L.length sl.cap, .int .u16 hr] w fun e w' => e = .returned (.bool true) ∧ Below w.heap.size w w' := by
  have HS := Lib.hid hS; have HL := Lib.hid hL; have HM := Lib.hid hm
  have hll := hL.le; have hlm := hL.max
  have hrl := hS.rm.le; have hrm := hS.rm.max
  have hcl := hS.cn.le; have hcm := hS.cn.max
  obtain ⟨⟨ra, rc⟩, ⟨ca, cc⟩, ps⟩ := s
  obtain ⟨hx0, hx1⟩ := hx
  dsimp only at hrl hrm hcl hcm
  clear hS hL hm
  go_enter Tryd.func9, Tryd.ntmps9
  go_wp2_with (fail)
  refine calls_name ?_
  intro w1 hw1
  obtain ⟨n3, hn3⟩ : ∃ n, n = w.heap.size := ⟨_, rfl⟩
  have hE1 : Ext2 w w1 := by rw [hw1]; exact below_alloc' _ _
  have X3 : Hid (w1.heap[n3]? = some (Obj.cells #[.slice (SSl.mk ⟨ra, rc⟩ ⟨ca, cc⟩ ps).r.a S.rooms.length (SSl.mk ⟨ra, rc⟩ ⟨ca, cc⟩ ps).r.cap, .slice (SSl.mk ⟨ra, rc⟩ ⟨ca, cc⟩ ps).c.a S.cans.length (SSl.mk ⟨ra, rc⟩ ⟨ca, cc⟩ ps).c.cap, .int .i64 S.rlo, .int .i64 S.rhi, .slice (SSl.mk ⟨ra, rc⟩ ⟨ca, cc⟩ ps).p.a S.steps.length (SSl.mk ⟨ra, rc⟩ ⟨ca, cc⟩ ps).p.cap] 28)) := Lib.hid (by rw [hw1, hn3]; exact blk_new _ _)
  have HE1 := Lib.hid hE1
  rw [← hn3]
  clear hw1 hn3 hE1
  refine (playA_any (HS.out.below HE1.out) (HL.out.below HE1.out) (HM.out.below HE1.out)).mono ?_
  rintro e w2 ⟨⟨ma, mc⟩, ⟨wa, wc⟩, rfl, hMs, hWs, hb2⟩
  have HE2 := Lib.hid (ext_trans HE1.out hb2)
  have X32 := Lib.hid (Ext2.blk hb2 X3.out)
  have HMS := Lib.hid hMs
  have hMc := hMs.le; have hMm := hMs.max; have hWc := hWs.le; have hWm := hWs.max
  dsimp only at hMc hMm hWc hWm
  obtain ⟨E, hE⟩ : ∃ E, E = movedE S L := ⟨_, rfl⟩
  rw [← hE]
  have HEL := Lib.hid hE
  have x3 := X32.out
  have q3c := cell_blk x3
  have q3f := frz_blk x3
  clear hb2 hMs hWs hE x3
  go_wp2_with (fail)
  refine (checkR_any (HS.out.below HE2.out)).mono ?_
  rintro e w3 ⟨rfl, hb3⟩
  have HE3 := Lib.hid (ext_trans HE2.out hb3)
  have X33 := Lib.hid (Ext2.blk hb3 X32.out)
  have HMS3 := Lib.hid (HMS.out.below hb3)
  clear hb3 q3c q3f
  obtain ⟨c1, c2, c3, hc⟩ : ∃ a b c, checkV S = (a, b, c) := ⟨_, _, _, rfl⟩
  rw [hc]
  have HC := Lib.hid hc
  dsimp only
  clear hc
  by_cases hE0 : E = 0
  case neg =>
    have hd : (E != 0) = true := by simp [hE0]
    clear hE0
    go_wp2_with (fail)
    refine (awake_any (HM.out.below HE3.out)).mono ?_
    rintro e w4 ⟨rfl, hb4⟩
    go_wp2_with (fail)
    go_ret
    exact ⟨rfl, ext_trans HE3.out hb4⟩
  subst hE0
  obtain ⟨hck, h60, hval⟩ := movedE_ok HEL.out.symm
  have hc3 : c3 = 0 := by have := chk_iff.2 hck; rw [HC.out] at this; exact this
  subst hc3
  have hd0 : ((0 : Int) != 0) = false := rfl
  have e1 : playMv S L = (playV S L).1 := by unfold playMv; rw [← HEL.out, if_pos rfl]
  have e2 : playWy S L = (playV S L).2 := by unfold playWy; rw [← HEL.out, if_pos rfl]
  have hpl := played hval (Nat.le_refl L.length)
  rw [e1] at HMS3 hMc ⊢; rw [e2] at hWc ⊢
  obtain ⟨M, hM⟩ : ∃ M, M = (playV S L).1 := ⟨_, rfl⟩
  have hwl : (playV S L).2.length = L.length := hpl.len
  have hkp : Kept S M := by rw [hM]; exact hpl.kept
  have hml : M.length ≤ L.length := by rw [hM]; exact hpl.le
  rw [← hM] at HMS3 hMc ⊢
  rw [hwl] at hWc ⊢
  obtain ⟨h, hh⟩ : ∃ h : Nat, h = hr.toNat % 2401 := ⟨_, rfl⟩
  have hrem : hr.tmod 2401 = (h : Int) := by
    rw [Int.tmod_eq_emod_of_nonneg hx0, hh, Int.natCast_emod]
    congr 1
    omega
  have hh24 : h ≤ 2400 := by have := Nat.mod_lt hr.toNat (show 0 < 2401 by omega); omega
  have whr : IntKind.i64.wrap hr = hr := IntWalk.i64_in _ (by omega)
  have wh : IntKind.i64.wrap (h : Int) = (h : Int) := IntWalk.i64_in _ (by omega)
  have HCK := Lib.hid hck; have HKP := Lib.hid hkp; have HMP := Lib.hid hM
  have hcn30 := hck.len.2.1; have hrm12 := hck.len.1.2
  have x3 := X33.out
  have q3c := cell_blk x3
  have q3f := frz_blk x3
  clear hck hval e1 e2 hpl hM hwl hkp hh x3 HMS
  go_wp2_with (fail)
  have hWh := whereA_any (h := (h : Int)) (HS.out.below HE3.out) (HL.out.below HE3.out) (HM.out.below HE3.out)
  have e3 : whereE S L (h : Int) = 0 := whereE_zero HEL.out.symm ⟨by omega, by omega⟩
  have e4 : whereA S L (h : Int) = whereV S M (h : Int) := by unfold whereA; rw [if_pos e3, HMP.out]
  refine hWh.mono ?_
  clear hWh
  rintro e w4 ⟨⟨qa, qc⟩, rfl, hQ, hb4⟩
  rw [e3, e4, whereV_len]
  rw [e4] at hQ
  have hQc := hQ.le; have hQm := hQ.max
  rw [whereV_len] at hQc
  dsimp only at hQc hQm
  have HQ := Lib.hid hQ
  have HE4 := Lib.hid (ext_trans HE3.out hb4)
  have X34 := Lib.hid (Ext2.blk hb4 X33.out)
  have HMS4 := Lib.hid (HMS3.out.below hb4)
  have HS4 := Lib.hid (HS.out.below HE4.out)
  obtain ⟨n, hn⟩ : ∃ n, n = S.rooms.length := ⟨_, rfl⟩
  obtain ⟨m, hmm⟩ : ∃ m, m = S.cans.length := ⟨_, rfl⟩
  have HN := Lib.hid hn; have HMM := Lib.hid hmm
  have b1 : ((m : Int) != (m : Int)) = false := by simp
  have b2 : ((L.length : Int) != (L.length : Int)) = false := by simp
  have x3 := X34.out
  simp only [← hn, ← hmm] at x3 hrl hrm12 hcl hcn30 hQc b1 ⊢
  have X3' := Lib.hid x3
  have q3c := cell_blk x3
  have q3f := frz_blk x3
  clear hb4 q3c q3f hQ e3 e4 x3 hn hmm
  have q3c := cell_blk X3'.out
  have q3f := frz_blk X3'.out
  go_wp2_with (at_make; refine wpList_mk elInt rfl _ rfl n rfl (by omega) ?_)
  clear q3c q3f
  refine wp_name ?_
  intro w5 h5
  obtain ⟨g, hg⟩ : ∃ g, g = w4.heap.size := ⟨_, rfl⟩
  have hE5 : Ext2 w4 w5 := by rw [h5]; exact below_alloc' _ _
  have hO5 : OwnR w5 w4.heap.size 3 1 (.slice (some ⟨g, 0, none⟩) n n) n (fun r _ => .int .i64 (amtK S.cans (whereV S M (h : Int)) (r : Int) 0)) := OwnR.congr (own_made (z := #[.int .i64 0]) rfl (by omega) (by unfold maxLen; omega) (by omega) (by rw [h5, hg, Nat.mul_one]; exact blk_new _ _)) fun i j hi hj => by
    obtain rfl : j = 0 := by omega
    rfl
  have HO5 := Lib.hid hO5; have HE5 := Lib.hid hE5
  have lg4 : w4.heap.size ≤ g := by omega
  rw [← hg]
  clear h5 hO5 hE5 hg
  go_loopw [16] (fun p wr => ∃ i : Nat, p = .int .i64 (i : Int) ∧ i ≤ m ∧ Ext2 w4 wr ∧ OwnR wr w4.heap.size 3 1 (.slice (some ⟨g, 0, none⟩) n n) n (fun r _ => .int .i64 (amtK S.cans (whereV S M (h : Int)) (r : Int) i))) (fun p _ => m - (intOf p).toNat)
  case atStart => exact ⟨0, rfl, by omega, HE5.out, HO5.out⟩
  case round =>
    obtain ⟨i, rfl, hi, hE, hO⟩ := hrel
    have HO := Lib.hid hO; have HE := Lib.hid hE; clear hO
    by_cases hlt : i < m
    · have hlc : i < S.cans.length := by rw [← HMM.out]; exact hlt
      obtain ⟨cb, coff, hca, k0, k1, k2, k3⟩ := cn_cells (HS4.out.below hE).cn hlc
      dsimp only at hca
      subst hca
      obtain ⟨c, hc⟩ : ∃ c, c = cnD S.cans i := ⟨_, rfl⟩
      rw [← hc] at k0 k1 k2 k3
      have HCI := Lib.hid hc
      have x3 := Ext2.blk hE X3'.out
      have p0 : (0 : Int) ≤ (i : Int) := by omega
      have p1 : (i : Int) < (m : Int) := by omega
      have q3c := cell_blk x3
      have q3f := frz_blk x3
      clear hE hc x3
      go_wp2_with (fail)
      clear q3c q3f k0 k1 k2 k3 p0 p1
      go_loopw [17, 18] (fun v z wr => ∃ k : Nat, z = .int .i64 (k : Int) ∧ v = .int .i64 (atK S M i (h : Int) k) ∧ k ≤ M.length ∧ Ext2 w4 wr ∧ OwnR wr w4.heap.size 3 1 (.slice (some ⟨g, 0, none⟩) n n) n (fun r _ => .int .i64 (amtK S.cans (whereV S M (h : Int)) (r : Int) i))) (fun _ z _ => M.length - (intOf z).toNat)
      case atStart => exact ⟨0, rfl, by rw [HCI.out]; rfl, by omega, HE.out, HO.out⟩
      case round =>
        obtain ⟨k, rfl, rfl, hk, hE, hO⟩ := hrel
        have HO2 := Lib.hid hO; have HE2' := Lib.hid hE; clear hO
        by_cases hkl : k < M.length
        · go_light
          obtain ⟨mb, moff, hma, d0, d1, d2⟩ := mv_cells (HMS4.out.below hE) hkl
          dsimp only at hma
          subst hma
          obtain ⟨v, hv⟩ : ∃ v, v = mvD M k := ⟨_, rfl⟩
          rw [← hv] at d0 d1 d2
          have HV := Lib.hid hv
          have p0 : (0 : Int) ≤ (k : Int) := by omega
          have p1 : (k : Int) < (M.length : Int) := by omega
          have p2 : IntKind.i64.wrap ((k : Int) + 1) = (k : Int) + 1 := IntWalk.i64_in _ (by omega)
          obtain ⟨A, hA⟩ : ∃ A, A = atK S M i (h : Int) k := ⟨_, rfl⟩
          rw [← hA]
          have HA := Lib.hid hA
          clear hE hv hA
          by_cases hci : v.can = (i : Int)
          · have c1 : (v.can == (i : Int)) = true := beq_iff_eq.2 hci
            have HCA := Lib.hid hci
            clear hci
            by_cases hvh : v.hour ≤ (h : Int)
            · have HVH := Lib.hid hvh
              go_wp2_with (fail)
              go_roundw
              case rel => exact ⟨k + 1, by go_num, by rw [atK, ← HV.out, if_pos ⟨HCA.out, HVH.out⟩], by omega, HE2'.out, HO2.out⟩
              case measure => simp [intOf]; omega
            · have HVH := Lib.hid hvh
              have hvh' : (h : Int) < v.hour := by omega
              clear hvh
              go_wp2_with (fail)
              go_roundw
              case rel => exact ⟨k + 1, by go_num, by rw [atK, ← HV.out, if_neg (fun h' => HVH.out h'.2), HA.out], by omega, HE2'.out, HO2.out⟩
              case measure => simp [intOf]; omega
          · have c1 : (v.can == (i : Int)) = false := beq_eq_false_iff_ne.2 hci
            have HCA := Lib.hid hci
            clear hci
            go_wp2_with (fail)
            go_roundw
            case rel => exact ⟨k + 1, by go_num, by rw [atK, ← HV.out, if_neg (fun h' => HCA.out h'.1), HA.out], by omega, HE2'.out, HO2.out⟩
            case measure => simp [intOf]; omega
        · obtain rfl : k = M.length := by omega
          have r1 : ¬ ((M.length : Nat) : Int) < (M.length : Int) := by omega
          obtain ⟨qb, qoff, hqa, e0⟩ := int_cell (HQ.out.below hE) (i := i) (by rw [whereV_len]; exact hlc)
          dsimp only at hqa
          subst hqa
          rw [whereV_at hlc] at e0
          have hin := HCK.out.atIn (M := M) HKP.out.valid hlc (h : Int)
          obtain ⟨R, hR⟩ : ∃ R : Nat, atV S M i (h : Int) = (R : Int) := ⟨(atV S M i (h : Int)).toNat, by omega⟩
          have hR2 : atK S M i (h : Int) M.length = (R : Int) := hR
          rw [hR] at e0 hin
          rw [hR2]
          have HR := Lib.hid hR
          rw [← HN.out] at hin
          have r2 : ((R : Int) != (R : Int)) = false := by simp
          have r3 : ¬ (R : Int) < 0 := by omega
          have r4 : (R : Int) < (n : Int) := hin.2
          have r4' : ¬ (n : Int) ≤ (R : Int) := by omega
          have x3 := Ext2.blk hE X3'.out
          have p0 : (0 : Int) ≤ (i : Int) := by omega
          have p1 : (i : Int) < (m : Int) := by omega
          have p2 : IntKind.i64.wrap ((i : Int) + 1) = (i : Int) + 1 := IntWalk.i64_in _ (by omega)
          have hcc := cn_cells (HS4.out.below hE).cn hlc
          obtain ⟨cb', coff', hca', k0, k1, k2, k3⟩ := hcc
          dsimp only at hca'
          obtain ⟨rfl, rfl⟩ : cb = cb' ∧ coff = coff' := by simpa using hca'
          rw [← HCI.out] at k0 k1 k2 k3
          have q3c := cell_blk x3
          have q3f := frz_blk x3
          clear hE x3 hca' hR hR2 hin
          by_cases hbs : c.base = 1
          · have hb1 : (c.base == 1) = true := beq_iff_eq.2 hbs
            have HB := Lib.hid hbs; clear hbs
            go_wp2_with (fail)
            have hrn : R < n := by omega
            obtain ⟨f0, f1, f2, f3⟩ := HO2.out.cell1 hrn
            have hac := amtK_nonneg HCK.out.cans (wh := whereV S M (h : Int)) (r := (R : Int)) (k := i) (by omega)
            have hfr := HCK.out.cans.frames i hlc
            rw [← HCI.out] at hfr
            obtain ⟨A, hA⟩ : ∃ A, A = amtK S.cans (whereV S M (h : Int)) (R : Int) i := ⟨_, rfl⟩
            rw [← hA] at f0 hac
            have HA := Lib.hid hA
            have w4' : IntKind.i64.wrap (A + c.frames) = A + c.frames := IntWalk.i64_in _ (by omega)
            have p3 : (0 : Int) ≤ (R : Int) := by omega
            clear hA hac hfr
            refine region_ev [] [0, 1, 2, 3, 4, 5, 6, 7, 8, 9, 10, 11, 12, 13] [] [14] (by kernel_rfl) (by kernel_rfl) (by intro c a d v w h; cases d <;> exact h) ?_
            simp only [picks, List.drop_succ_cons, List.drop_zero]
            repeat (refine wpQ0_step (fun K hK => ?_); go_simp; (refine hK _ ?_; clear hK K))
            refine wpQ0_nil ?_
            repeat ((with_reducible refine wpQ2_step (fun K hK => ?_)); go_simp; first | ((with_reducible refine hK _ ?_); clear hK K) | (apply Exists.intro; refine ⟨fun x => ?_, hK _ ?_⟩; (fail); clear hK K))
            refine wpQ2_nil ?_
            refine Events.none_ fun w8 hg8 => ?_
            simp only [picks, List.drop_succ_cons, List.drop_zero]
            have HE8 := Lib.hid (ext_trans HE2'.out hg8)
            have HO8 := Lib.hid (HO2.out.below hg8)
            clear f0 f1 f2 f3 q3c q3f k0 k1 k2 k3 e0 hg8
            obtain ⟨f0, f1, f2, f3⟩ := HO8.out.cell1 hrn
            go_wp2_with (fail)
            go_roundw
            case rel =>
              refine ⟨i + 1, by go_num, by omega, below_set HE8.out (by omega), HO8.out.set1 hrn _ fun r' hr' => ?_⟩
              rw [amtK, ← HCI.out, whereV_at hlc, HR.out]
              by_cases he : r' = R
              · subst he; rw [if_pos ⟨rfl, HB.out⟩, if_pos rfl, HA.out]
              · rw [if_neg (fun h => he (by omega)), if_neg he, Int.add_zero]
            case measure => simp [intOf]; omega
          · have hb1 : (c.base == 1) = false := beq_eq_false_iff_ne.2 hbs
            have HB := Lib.hid hbs; clear hbs
            go_wp2_with (fail)
            go_roundw
            case rel =>
              refine ⟨i + 1, by go_num, by omega, HE2'.out, HO2.out.congr fun i' j' hi' hj' => ?_⟩
              rw [amtK, ← HCI.out, if_neg (fun h => HB.out h.2), Int.add_zero]
            case measure => simp [intOf]; omega
    · obtain rfl : i = m := by omega
      have r1 : ¬ ((i : Nat) : Int) < (i : Int) := by omega
      have x3 := Ext2.blk hE X3'.out
      have q3c := cell_blk x3
      have q3f := frz_blk x3
      clear hE x3
      go_wp2_with (fail)
      go_loopw [19] (fun z wr => ∃ k : Nat, z = .int .i64 (k : Int) ∧ k ≤ n ∧ Ext2 w4 wr ∧ OwnR wr w4.heap.size 3 1 (.slice (some ⟨g, 0, none⟩) n n) n (fun r _ => .int .i64 (amtK S.cans (whereV S M (h : Int)) (r : Int) i))) (fun z _ => n - (intOf z).toNat)
      case atStart => exact ⟨0, rfl, by omega, HE.out, HO.out⟩
      case round =>
        obtain ⟨k, rfl, hk, hE, hO⟩ := hrel
        have HO2 := Lib.hid hO; have HE2' := Lib.hid hE; clear hO
        by_cases hkl : k < n
        · go_light
          obtain ⟨f0, f1, f2, f3⟩ := HO2.out.cell1 hkl
          have hgo := good_at HCK.out.cans HCK.out.good (M := M) rfl HKP.out (h : Int)
          have hgk := hgo.1 k
          unfold amt at hgk
          rw [← HMM.out] at hgk
          obtain ⟨A, hA⟩ : ∃ A, A = amtK S.cans (whereV S M (h : Int)) (k : Int) i := ⟨_, rfl⟩
          rw [← hA] at f0 hgk
          obtain ⟨rb, roff, hra, hrc⟩ := rm_cells (HS4.out.below hE).rm (i := k) (by rw [← HN.out]; exact hkl)
          dsimp only at hra
          subst hra
          have d6 := hrc.c6; have d7 := hrc.c7
          obtain ⟨rr, hrr⟩ : ∃ rr, rr = rmD S.rooms k := ⟨_, rfl⟩
          rw [← hrr] at d6 d7 hgk
          have p0 : (0 : Int) ≤ (k : Int) := by omega
          have p1 : (k : Int) < (n : Int) := by omega
          have p0' : decide ((0 : Int) ≤ (k : Int)) = true := decide_eq_true p0
          have p1' : decide ((k : Int) < (n : Int)) = true := decide_eq_true p1
          have p2 : IntKind.i64.wrap ((k : Int) + 1) = (k : Int) + 1 := IntWalk.i64_in _ (by omega)
          have x3 := Ext2.blk hE X3'.out
          clear q3c q3f
          have q3c := cell_blk x3
          have q3f := frz_blk x3
          clear hE hgo hA hrc hrr x3
          go_wp2_with (fail)
          by_cases hA0 : 0 < A
          · obtain ⟨ha, hmo⟩ := hgk hA0
            have c1 : decide (0 < A) = true := decide_eq_true hA0
            have c2 : rr.allows = true := ha
            have c3 : decide (rr.most < A) = false := decide_eq_false (by omega)
            clear hgk hA0 ha hmo
            refine region_ev [] [0, 1, 2, 3, 4, 5, 6, 7, 8, 9, 10, 11, 12, 13, 14, 15, 16, 17, 18, 19, 20, 21, 22, 23, 24, 25, 26] [] [] (by kernel_rfl) (by kernel_rfl) (by intro c a d v w h; cases d <;> exact h) ?_
            simp only [picks, List.drop_succ_cons, List.drop_zero]
            repeat (refine wpQ0_step (fun K hK => ?_); go_simp; (refine hK _ ?_; clear hK K))
            refine wpQ0_nil ?_
            repeat ((with_reducible refine wpQ2_step (fun K hK => ?_)); go_simp; first | ((with_reducible refine hK _ ?_); clear hK K) | (refine ite_undef (fun h => (by have h_ : (none : Option Bool) = some _ := h; cases h_)) ?_; (with_reducible refine hK _ ?_); clear hK K) | (apply Exists.intro; refine ⟨fun x => ?_, hK _ ?_⟩; (fail); clear hK K))
            (with_reducible refine wpQ2_nil ?_)
            refine Events.none_ fun w8 hg8 => ?_
            simp only [picks, List.drop_succ_cons, List.drop_zero]
            have HE8 := Lib.hid (ext_trans HE2'.out hg8)
            have HO8 := Lib.hid (HO2.out.below hg8)
            clear f0 f1 f2 f3 q3c q3f d6 d7 hg8
            go_wp2_with (fail)
            go_roundw
            case rel => exact ⟨k + 1, by go_num, by omega, HE8.out, HO8.out⟩
            case measure => simp [intOf]; omega
          · have c1 : decide (0 < A) = false := decide_eq_false hA0
            clear hgk hA0
            refine region_ev [] [0, 1, 2, 3, 4, 5, 6, 7, 8, 9, 10, 11, 12, 13, 14, 15, 16, 17, 18, 19, 20, 21, 22, 23, 24, 25, 26] [] [] (by kernel_rfl) (by kernel_rfl) (by intro c a d v w h; cases d <;> exact h) ?_
            simp only [picks, List.drop_succ_cons, List.drop_zero]
            repeat (refine wpQ0_step (fun K hK => ?_); go_simp; (refine hK _ ?_; clear hK K))
            refine wpQ0_nil ?_
            repeat ((with_reducible refine wpQ2_step (fun K hK => ?_)); go_simp; first | ((with_reducible refine hK _ ?_); clear hK K) | (refine ite_undef (fun h => (by have h_ : (none : Option Bool) = some _ := h; cases h_)) ?_; (with_reducible refine hK _ ?_); clear hK K) | (apply Exists.intro; refine ⟨fun x => ?_, hK _ ?_⟩; (fail); clear hK K))
            (with_reducible refine wpQ2_nil ?_)
            refine Events.none_ fun w8 hg8 => ?_
            simp only [picks, List.drop_succ_cons, List.drop_zero]
            have HE8 := Lib.hid (ext_trans HE2'.out hg8)
            have HO8 := Lib.hid (HO2.out.below hg8)
            clear f0 f1 f2 f3 q3c q3f d6 d7 hg8
            go_wp2_with (fail)
            go_roundw
            case rel => exact ⟨k + 1, by go_num, by omega, HE8.out, HO8.out⟩
            case measure => simp [intOf]; omega
        · obtain rfl : k = n := by omega
          have r1 : ¬ ((k : Nat) : Int) < (k : Int) := by omega
          have HEF := Lib.hid (ext_trans HE4.out hE)
          have x3 := Ext2.blk hE X3'.out
          have HQF := Lib.hid (HQ.out.below hE)
          clear q3c q3f
          have q3c := cell_blk x3
          have q3f := frz_blk x3
          clear hE x3
          go_wp2_with (fail)
          have hNr := nearA_any (sl := ⟨qa, qc⟩) (HS.out.below HEF.out) HQF.out (HM.out.below HEF.out)
          have hgo := good_at HCK.out.cans HCK.out.good (M := M) rfl HKP.out (h : Int)
          have hne : nearE S (whereV S M (h : Int)) = 0 := nearE_zero HCK.out (whereV_len S M (h : Int)) fun j hj => by
            rw [whereV_at hj]; exact HCK.out.atIn HKP.out.valid hj (h : Int)
          rw [whereV_len, ← HMM.out, ← HN.out] at hNr
          refine hNr.mono ?_
          clear hNr
          rintro e w9 ⟨v, rfl, hOv, hb9⟩
          rw [hne, if_pos rfl, hgo.2] at hOv
          rw [hne]
          have hv : ∃ a c, v = .slice a 0 c := by
            rcases hOv.forms with ⟨rfl, -⟩ | ⟨g', c', rfl, -⟩
            · exact ⟨_, _, rfl⟩
            · exact ⟨_, _, rfl⟩
          obtain ⟨va, vc, rfl⟩ := hv
          have HE9 := Lib.hid (ext_trans HEF.out hb9)
          have c1 : ((0 : Int) == 0) = true := rfl
          clear hOv hb9 hgo hne q3c q3f
          go_wp2_with (fail)
          refine (awake_any (HM.out.below HE9.out)).mono ?_
          rintro e w10 ⟨rfl, hb10⟩
          go_wp2_with (fail)
          go_ret
          exact ⟨rfl, ext_trans HE9.out hb10⟩
end Go.Proofs.YtkidicfpfknfoaaDoor
