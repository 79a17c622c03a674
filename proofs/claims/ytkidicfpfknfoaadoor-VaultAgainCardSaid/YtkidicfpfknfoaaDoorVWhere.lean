/-
  A vault in memory; where, amounts.
-/
import Derived.Test.YtkidicfpfknfoaaDoorVAir
import Derived.Test.YtkidicfpfknfoaaDoorVMade
namespace Go.Proofs.YtkidicfpfknfoaaDoor
open Go.RowKit D
set_option linter.unusedVariables false
set_option linter.unusedSimpArgs false
attribute [local go_sem high] run_minI run_maxI
attribute [local go_sem] upon2 cls_cell cls_frozen forall_const exists_eq_left'
attribute [local go_sem] FirstUpon
structure VltAt (w : World) (S : Site) (s : SSl) (b : Nat) (M : List Mv) (k : Sl) : Prop where
  blk : w.heap[b]? = some (Obj.cells #[.slice s.r.a S.rooms.length s.r.cap, .slice s.c.a S.cans.length s.c.cap, .int .i64 S.rlo, .int .i64 S.rhi, .slice s.p.a S.steps.length s.p.cap, (.slice k.a M.length k.cap)] 113)
  site : SiteAt w S s
  kept : MovesS w k M
theorem VltAt.below {w w' : World} {S : Site} {s : SSl} {b : Nat} {M : List Mv} {k : Sl} (h : VltAt w S s b M k) (hb : Below w.heap.size w w') : VltAt w' S s b M k := ⟨below_blk hb h.blk (blk_lt h.blk), h.site.below hb, h.kept.below hb⟩
theorem elInt : Elem Tryd.prog 51 3 (.int .i64 0) 1 8 := ⟨by kernel_rfl, by kernel_rfl, rfl, by omega, by omega⟩
theorem calls_drop {P : Program} {f : FuncId} {args : Array Value} {w : World} {R : Ending → World → Prop} (h : Calls P f args w R) : Calls P f args w R := h
/-- Where the cans are, in memory. -/
def WhOut (w : World) (n : Nat) (l : List Int) (e : Ending) (w' : World) : Prop := ∃ g cap, e = .returned (.slice (some ⟨g, 0, none⟩) n cap) ∧ OwnR w' w.heap.size 3 1 (.slice (some ⟨g, 0, none⟩) n cap) n (intC l) ∧ Below w.heap.size w w'
set_option maxRecDepth 100000 in
set_option maxHeartbeats 2000000 in
theorem where_any {S : Site} {s : SSl} {b : Nat} {M : List Mv} {k : Sl} {h : Int} {w : World} (hV : VltAt w S s b M k) (hn : S.cans.length ≤ 30) (hM : ∀ m ∈ M, 0 ≤ m.can ∧ m.can < S.cans.length) (hML : M.length ≤ 60) :
    Calls Tryd.prog 49 #[.pointer (some ⟨b, 0, none⟩), .int .i64 h] w (WhOut w S.cans.length (whereV S M h)) := by
  have HV := Lib.hid hV
  have x0 := hV.blk
  have hb := blk_lt x0
  have hcl := hV.site.cn.le; have hcm := hV.site.cn.max
  have hkl := hV.kept.le; have hkm := hV.kept.max
  obtain ⟨rs, ⟨ca, cc⟩, ps⟩ := s
  obtain ⟨ka, kc⟩ := k
  dsimp only at hcl hcm hkl hkm
  have HM := Lib.hid hM
  obtain ⟨n, hn'⟩ : ∃ n, n = S.cans.length := ⟨_, rfl⟩
  have HN := Lib.hid hn'
  simp only [← hn'] at hcl hn x0 ⊢
  clear hM hV hn'
  go_enter Tryd.func49, Tryd.ntmps49
  have q0c := cell_blk x0
  have q0f := frz_blk x0
  go_wp2_with (at_make; refine wpList_mk elInt rfl _ rfl n rfl (by omega) ?_)
  clear q0c q0f
  refine wp_name ?_
  intro w1 h1
  obtain ⟨g, hg⟩ : ∃ g, g = w.heap.size := ⟨_, rfl⟩
  have hE1 : Ext2 w w1 := by rw [h1]; exact below_alloc' _ _
  have hO1 : OwnR w1 w.heap.size 3 1 (.slice (some ⟨g, 0, none⟩) n n) n (fun i' _ => if i' < 0 then .int .i64 (cnD S.cans i').room else .int .i64 0) := OwnR.congr (own_made (z := #[.int .i64 0]) rfl (by omega) (by unfold maxLen; omega) (by omega) (by rw [h1, hg, Nat.mul_one]; exact blk_new _ _)) fun i j hi hj => by
    obtain rfl : j = 0 := by omega
    rfl
  have HO1 := Lib.hid hO1
  have x1 := Ext2.blk hE1 x0
  rw [← hg]
  clear h1 hO1 hg
  have q0c := cell_blk x1
  have q0f := frz_blk x1
  clear x1
  go_wp2_with (fail)
  clear q0c q0f
  go_loopw [23] (fun p wr => ∃ i : Nat, p = .int .i64 (i : Int) ∧ i ≤ n ∧ Ext2 w wr ∧ OwnR wr w.heap.size 3 1 (.slice (some ⟨g, 0, none⟩) n n) n (fun i' _ => if i' < i then .int .i64 (cnD S.cans i').room else .int .i64 0)) (fun p _ => n - (intOf p).toNat)
  case atStart => exact ⟨0, rfl, by omega, hE1, HO1.out⟩
  case round =>
    obtain ⟨i, rfl, hi, hE, hO⟩ := hrel
    have HO := Lib.hid hO; clear hO
    by_cases hlt : i < n
    · go_light
      have hlc : i < S.cans.length := by rw [← HN.out]; exact hlt
      obtain ⟨cb, coff, hca, c0, c1, c2, c3⟩ := cn_cells (HV.out.site.below hE).cn hlc
      dsimp only at hca
      subst hca
      obtain ⟨c, hc⟩ : ∃ c, c = cnD S.cans i := ⟨_, rfl⟩
      rw [← hc] at c0 c1 c2 c3
      have HC := Lib.hid hc
      obtain ⟨d0, d1, d2, d3⟩ := HO.out.cell1 hlt
      have hneq : ¬ g = wr.heap.size := by omega
      have p0 : (0 : Int) ≤ (i : Int) := by omega
      have p1 : (i : Int) < (n : Int) := by omega
      have w3 : IntKind.i64.wrap ((i : Int) + 1) = (i : Int) + 1 := IntWalk.i64_in _ (by omega)
      clear hc hlc
      go_wp2_with (fail)
      go_roundw
      case rel =>
        refine ⟨i + 1, by go_num, by omega, ?_, ?_⟩
        · exact Below.alloc (below_set hE d3) (by have := hE.size; simp; omega) _
        · refine OwnR.below (HO.out.set1 hlt _ fun i' hi' => ?_) (below_alloc' _ _)
          by_cases he : i' = i
          · subst he; rw [if_pos (by omega), if_pos rfl, ← HC.out]
          · rw [if_neg he]
            by_cases h2 : i' < i
            · rw [if_pos h2, if_pos (by omega)]
            · rw [if_neg h2, if_neg (by omega)]
      case measure => simp [intOf]; omega
    · obtain rfl : i = n := by omega
      have hO2 : OwnR wr w.heap.size 3 1 (.slice (some ⟨g, 0, none⟩) i i) i (fun i' _ => .int .i64 (atK S M i' h 0)) := HO.out.congr fun i' j hi' hj => by rw [if_pos hi']; rfl
      have HO2 := Lib.hid hO2
      have x0 := Ext2.blk hE x0
      have hr9 : ¬ (i : Int) < (i : Int) := by omega
      clear hO2 HO hE1 HO1 hlt
      have q0c := cell_blk x0
      have q0f := frz_blk x0
      go_wp2_with (fail)
      clear q0c q0f
      obtain ⟨wo, hwo⟩ : ∃ wo, wo = wr := ⟨_, rfl⟩
      go_loopw [39] (fun p wr => ∃ j : Nat, p = .int .i64 (j : Int) ∧ j ≤ M.length ∧ Ext2 w wr ∧ OwnR wr w.heap.size 3 1 (.slice (some ⟨g, 0, none⟩) i i) i (fun i' _ => .int .i64 (atK S M i' h j))) (fun p _ => M.length - (intOf p).toNat)
      case atStart => exact ⟨0, rfl, by omega, hE, HO2.out⟩
      case round =>
        obtain ⟨j, rfl, hj, hE, hO⟩ := hrel
        have HO := Lib.hid hO; clear hO
        by_cases hlt : j < M.length
        · go_light
          obtain ⟨mb, moff, hka, m0, m1, m2⟩ := mv_cells (HV.out.kept.below hE) hlt
          dsimp only at hka
          subst hka
          have hmc := HM.out _ (mvD_mem hlt)
          obtain ⟨m, hm⟩ : ∃ m, m = mvD M j := ⟨_, rfl⟩
          rw [← hm] at m0 m1 m2 hmc
          have HMJ := Lib.hid hm
          obtain ⟨c, hc⟩ : ∃ c : Nat, m.can = (c : Int) := ⟨m.can.toNat, by omega⟩
          have hcl2 : c < i := by rw [HN.out]; omega
          rw [hc] at m1
          have HCC := Lib.hid hc
          obtain ⟨d0, d1, d2, d3⟩ := HO.out.cell1 hcl2
          have hneq : ¬ g = wr.heap.size := by omega
          have p0 : (0 : Int) ≤ (j : Int) := by omega
          have p1 : (j : Int) < (M.length : Int) := by omega
          have p2 : (0 : Int) ≤ (c : Int) := by omega
          have p3 : (c : Int) < (i : Int) := by omega
          have w3 : IntKind.i64.wrap ((j : Int) + 1) = (j : Int) + 1 := IntWalk.i64_in _ (by omega)
          clear hm hc hmc
          by_cases hh : m.hour ≤ h
          · go_wp2_with (fail)
            go_roundw
            case rel =>
              refine ⟨j + 1, by go_num, by omega, ?_, ?_⟩
              · exact Below.alloc (below_set hE d3) (by have := hE.size; simp; omega) _
              · refine OwnR.below (HO.out.set1 hcl2 _ fun i' hi' => ?_) (below_alloc' _ _)
                rw [atK, ← HMJ.out, HCC.out]
                by_cases he : i' = c
                · subst he; rw [if_pos ⟨rfl, hh⟩, if_pos rfl]
                · rw [if_neg he, if_neg (fun h => he (by omega))]
            case measure => simp [intOf]; omega
          · go_wp2_with (fail)
            go_roundw
            case rel =>
              refine ⟨j + 1, by go_num, by omega, hE.trans (Below.mono (below_alloc' _ _) hE.size), ?_⟩
              refine (HO.out.below (below_alloc' _ _)).congr fun i' j' hi' hj' => ?_
              rw [atK, ← HMJ.out, if_neg (fun h => hh h.2)]
            case measure => simp [intOf]; omega
        · obtain rfl : j = M.length := by omega
          have hout : WhOut w i (whereV S M h) (.returned (.slice (some ⟨g, 0, none⟩) i i)) wr := ⟨g, i, rfl, HO.out.congr fun i' j' hi' hj' => by
            unfold intC; rw [whereV_at (by rw [← HN.out]; exact hi')]; rfl, hE⟩
          have HOUT := Lib.hid hout
          have hr8 : ¬ (M.length : Int) < (M.length : Int) := by omega
          clear hout HO
          go_wp2_with (fail)
          go_ret
          exact HOUT.out
end Go.Proofs.YtkidicfpfknfoaaDoor
