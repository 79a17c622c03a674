/-
  amounts.
-/
import Derived.Test.YtkidicfpfknfoaaDoorVWhere
namespace Go.Proofs.YtkidicfpfknfoaaDoor.D
def amtsV (S : Site) (wh : List Int) : List Int := (List.range S.rooms.length).map fun r => amt S wh r
theorem amtsV_at {S : Site} {wh : List Int} {r : Nat} (h : r < S.rooms.length) : intD (amtsV S wh) r = amt S wh r := by
  unfold intD amtsV; rw [List.getD_eq_getElem?_getD, List.getElem?_map]; simp [h]
end Go.Proofs.YtkidicfpfknfoaaDoor.D
namespace Go.Proofs.YtkidicfpfknfoaaDoor
open Go.RowKit D
set_option linter.unusedVariables false
set_option linter.unusedSimpArgs false
attribute [local go_sem high] run_minI run_maxI
attribute [local go_sem] upon2 cls_cell cls_frozen forall_const exists_eq_left'
attribute [local go_sem] FirstUpon
theorem int_cell {w : World} {s : Sl} {l : List Int} (h : IntsS w s l) {i : Nat} (hi : i < l.length) : ∃ b off, s.a = some ⟨b, off, none⟩ ∧ w.cell? ⟨b, off + i, none⟩ = some (.int .i64 (intD l i)) := by
  obtain ⟨b, off, ha, h0⟩ := h.cell i 0 hi (by omega)
  rw [Nat.mul_one, Nat.add_zero] at h0
  exact ⟨b, off, ha, h0⟩
set_option maxRecDepth 100000 in
set_option maxHeartbeats 2000000 in
theorem amounts_any {S : Site} {s : SSl} {b : Nat} {M : List Mv} {k t : Sl} {wh : List Int} {w : World} (hV : VltAt w S s b M k) (hC : CansOk S) (hn : S.cans.length ≤ 30) (hr : S.rooms.length ≤ 12) (hT : IntsS w t wh) (hl : wh.length = S.cans.length) (hw : ∀ i, i < S.cans.length → 0 ≤ intD wh i ∧ intD wh i < S.rooms.length) :
    Calls Tryd.prog 76 #[.pointer (some ⟨b, 0, none⟩), .slice t.a S.cans.length t.cap] w (WhOut w S.rooms.length (amtsV S wh)) := by
  have HV := Lib.hid hV; have HT := Lib.hid hT
  have x0 := hV.blk
  have hb := blk_lt x0
  have hcl := hV.site.cn.le; have hcm := hV.site.cn.max
  have htl := hT.le; have htm := hT.max
  obtain ⟨rs, ⟨ca, cc⟩, ps⟩ := s
  obtain ⟨ta, tc⟩ := t
  dsimp only at hcl hcm htl htm
  have HW := Lib.hid hw; have HL := Lib.hid hl; have HC := Lib.hid hC
  obtain ⟨n, hn'⟩ : ∃ n, n = S.rooms.length := ⟨_, rfl⟩
  have HN := Lib.hid hn'
  simp only [← hn'] at hr x0 ⊢
  obtain ⟨m, hm'⟩ : ∃ m, m = S.cans.length := ⟨_, rfl⟩
  have HMM := Lib.hid hm'
  rw [hl] at htl
  simp only [← hm'] at hcl hn x0 htl ⊢
  clear hw hV hn' hm' hT hl hC
  go_enter Tryd.func76, Tryd.ntmps76
  have q0c := cell_blk x0
  have q0f := frz_blk x0
  go_wp2_with (at_make; refine wpList_mk elInt rfl _ rfl n rfl (by omega) ?_)
  clear q0c q0f
  refine wp_name ?_
  intro w1 h1
  obtain ⟨g, hg⟩ : ∃ g, g = w.heap.size := ⟨_, rfl⟩
  have hE1 : Ext2 w w1 := by rw [h1]; exact below_alloc' _ _
  have hO1 : OwnR w1 w.heap.size 3 1 (.slice (some ⟨g, 0, none⟩) n n) n (fun r _ => .int .i64 (amtK S.cans wh (r : Int) 0)) := OwnR.congr (own_made (z := #[.int .i64 0]) rfl (by omega) (by unfold maxLen; omega) (by omega) (by rw [h1, hg, Nat.mul_one]; exact blk_new _ _)) fun i j hi hj => by
    obtain rfl : j = 0 := by omega
    rfl
  have HO1 := Lib.hid hO1
  have x1 := Ext2.blk hE1 x0
  rw [← hg]
  clear h1 hO1 hg
  have q0c := cell_blk x1
  have q0f := frz_blk x1
  clear x1
  go_wp2_with (fail)
  clear q0c q0f
  go_loopw [21] (fun p wr => ∃ i : Nat, p = .int .i64 (i : Int) ∧ i ≤ m ∧ Ext2 w wr ∧ OwnR wr w.heap.size 3 1 (.slice (some ⟨g, 0, none⟩) n n) n (fun r _ => .int .i64 (amtK S.cans wh (r : Int) i))) (fun p _ => m - (intOf p).toNat)
  case atStart => exact ⟨0, rfl, by omega, hE1, HO1.out⟩
  case round =>
    obtain ⟨i, rfl, hi, hE, hO⟩ := hrel
    have HO := Lib.hid hO; clear hO
    by_cases hlt : i < m
    · go_light
      have hlc : i < S.cans.length := by rw [← HMM.out]; exact hlt
      obtain ⟨cb, coff, hca, c0, c1, c2, c3⟩ := cn_cells (HV.out.site.below hE).cn hlc
      dsimp only at hca
      subst hca
      obtain ⟨c, hc⟩ : ∃ c, c = cnD S.cans i := ⟨_, rfl⟩
      have hfr := HC.out.frames i hlc
      have hac := amtK_nonneg HC.out (wh := wh) (r := intD wh i) (k := i) (by omega)
      rw [← hc] at c0 c1 c2 c3 hfr
      have hwi := HW.out i hlc
      obtain ⟨tb, toff, hta, t0⟩ := int_cell (HT.out.below hE) (i := i) (by rw [HL.out]; exact hlc)
      dsimp only at hta
      subst hta
      obtain ⟨r, hr0⟩ : ∃ r : Nat, intD wh i = (r : Int) := ⟨(intD wh i).toNat, by omega⟩
      rw [hr0] at t0 hwi hac
      have HR0 := Lib.hid hr0
      have HCI := Lib.hid hc
      have hrn : r < n := by rw [HN.out]; omega
      obtain ⟨d0, d1, d2, d3⟩ := HO.out.cell1 hrn
      obtain ⟨A, hA⟩ : ∃ A, A = amtK S.cans wh (r : Int) i := ⟨_, rfl⟩
      rw [← hA] at d0 hac
      have HA := Lib.hid hA
      have hneq : ¬ g = wr.heap.size := by omega
      have p0 : (0 : Int) ≤ (i : Int) := by omega
      have p1 : (i : Int) < (m : Int) := by omega
      have p2 : (0 : Int) ≤ (r : Int) := by omega
      have p3 : (r : Int) < (n : Int) := by omega
      have w3 : IntKind.i64.wrap ((i : Int) + 1) = (i : Int) + 1 := IntWalk.i64_in _ (by omega)
      have w4 : IntKind.i64.wrap (A + c.frames) = A + c.frames := IntWalk.i64_in _ (by omega)
      clear hc hlc hr0 hA hwi
      by_cases hbs : c.base = 1
      · have hb1 : (c.base == 1) = true := by simp [hbs]
        have HB := Lib.hid hbs; clear hbs
        go_wp2_with (fail)
        refine wp_name ?_
        intro w2 h2
        have hB2 : Below wr.heap.size wr w2 := by rw [h2]; exact below_alloc _ _
        have hE2 := ext_trans hE hB2
        have y2 : w2.heap[wr.heap.size]? = some (Obj.cells #[.string c.name, .int .i64 c.base, .int .i64 c.frames, .int .i64 c.room] 36) := by rw [h2]; exact blk_new _ _
        have t2 := (hB2.cell (p := ⟨tb, toff + i, none⟩) (cell_lt t0)).trans t0
        have HO2 := Lib.hid (HO.out.below hB2)
        obtain ⟨f0, f1, f2, f3⟩ := HO2.out.cell1 hrn
        rw [← HA.out] at f0
        obtain ⟨yb, hyb⟩ : ∃ yb, yb = wr.heap.size := ⟨_, rfl⟩
        rw [← hyb] at y2 ⊢
        have hgy : ¬ yb = g := by omega
        clear h2 t0 d0 d1 c0 c1 c2 c3 hyb
        have q0c := cell_blk y2
        have q0f := frz_blk y2
        refine region_ev [] [0, 1, 2, 3, 4, 5, 6, 7, 8, 9, 10] [] [11] (by kernel_rfl) (by kernel_rfl) (by intro c a d v w h; cases d <;> exact h) ?_
        simp only [picks, List.drop_succ_cons, List.drop_zero]
        repeat (refine wpQ0_step (fun K hK => ?_); go_simp; (refine hK _ ?_; clear hK K))
        refine wpQ0_nil ?_
        repeat ((with_reducible refine wpQ2_step (fun K hK => ?_)); go_simp; first | ((with_reducible refine hK _ ?_); clear hK K) | (apply Exists.intro; refine ⟨fun x => ?_, hK _ ?_⟩; (fail); clear hK K))
        refine wpQ2_nil ?_
        refine Events.none_ fun w3 hg3 => ?_
        simp only [picks, List.drop_succ_cons, List.drop_zero]
        have hE3 := ext_trans hE2 hg3
        have HO3 := Lib.hid (HO2.out.below hg3)
        clear f0 f1 f2 f3 q0c q0f t2
        obtain ⟨f0, f1, f2, f3⟩ := HO3.out.cell1 hrn
        go_wp2_with (fail)
        go_roundw
        case rel =>
          refine ⟨i + 1, by go_num, by omega, below_set hE3 f3, HO3.out.set1 hrn _ fun r' hr' => ?_⟩
          rw [amtK, HR0.out, ← HCI.out]
          by_cases he : r' = r
          · subst he; rw [if_pos ⟨rfl, HB.out⟩, if_pos rfl, HA.out]
          · rw [if_neg (fun h => he (by omega)), if_neg he, Int.add_zero]
        case measure => simp [intOf]; omega
      · have hb1 : (c.base == 1) = false := by simp [hbs]
        have HB := Lib.hid hbs; clear hbs
        go_wp2_with (fail)
        go_roundw
        case rel =>
          refine ⟨i + 1, by go_num, by omega, hE.trans (Below.mono (below_alloc' _ _) hE.size), ?_⟩
          refine (HO.out.below (below_alloc' _ _)).congr fun i' j' hi' hj' => ?_
          rw [amtK, ← HCI.out, if_neg (fun h => HB.out h.2), Int.add_zero]
        case measure => simp [intOf]; omega
    · obtain rfl : i = m := by omega
      have hout : WhOut w n (amtsV S wh) (.returned (.slice (some ⟨g, 0, none⟩) n n)) wr := ⟨g, n, rfl, HO.out.congr fun r j hr' hj => by
        unfold intC; rw [amtsV_at (by rw [← HN.out]; exact hr')]; unfold amt; rw [← HMM.out], hE⟩
      have HOUT := Lib.hid hout
      have hr8 : ¬ (i : Int) < (i : Int) := by omega
      clear hout HO
      go_wp2_with (fail)
      go_ret
      exact HOUT.out
end Go.Proofs.YtkidicfpfknfoaaDoor
