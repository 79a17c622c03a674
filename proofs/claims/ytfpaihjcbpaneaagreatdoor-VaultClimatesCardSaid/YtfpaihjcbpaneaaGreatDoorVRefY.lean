/-
  ref.play, Play, Where, Temp.
-/
import Derived.Test.YtfpaihjcbpaneaaGreatDoorVRefW
import Derived.Test.YtfpaihjcbpaneaaGreatDoorVTempA
namespace Go.Proofs.YtfpaihjcbpaneaaGreatDoor
open Go.RowKit D
set_option linter.unusedVariables false
set_option linter.unusedSimpArgs false
attribute [local go_sem high] run_minI run_maxI
attribute [local go_sem] upon2 cls_cell cls_frozen forall_const exists_eq_left'
attribute [local go_sem] FirstUpon
set_option maxRecDepth 100000 in
set_option maxHeartbeats 8000000 in
theorem playR_any {S : Site} {s : SSl} {L : List Mv} {sl : Sl} {w : World} (hS : SiteAt w S s) (hL : MovesS w sl L) (hC : Chk S) (hV : ∀ i, i < L.length → mvE S (mvD L i) = 0) (hl6 : L.length ≤ 60) :
    Calls Tryz.prog 38 #[.agg #[.slice s.r.a S.rooms.length s.r.cap, .slice s.c.a S.cans.length s.c.cap, .int .i64 S.rlo, .int .i64 S.rhi, .slice s.p.a S.steps.length s.p.cap], .slice sl.a L.length sl.cap] w fun e w' => (∃ v u, e = .returned (.tuple #[v, u]) ∧ OwnR w' w.heap.size 95 3 v (playV S L).1.length (mvC (playV S L).1) ∧ OwnR w' w.heap.size 32 1 u L.length (intC (playV S L).2)) ∧ Below w.heap.size w w' := by
  have HS := Lib.hid hS; have HL := Lib.hid hL; have HCK := Lib.hid hC
  have HPL : Hid (∀ k, k ≤ L.length → Played S L k) := Lib.hid fun k hk => played hV hk
  have HVD := Lib.hid hV
  have hll := hL.le; have hlm := hL.max
  obtain ⟨la, lc⟩ := sl
  dsimp only at hll hlm
  have HWY : Hid (∀ W, Below w.heap.size w W → ∀ (M : List Mv) (q : Sl) (m : Mv), MovesS W q M → (∀ x ∈ M, mvE S x = 0) → M.length ≤ 60 → mvE S m = 0 → Calls Tryz.prog 69 #[.agg #[.slice s.r.a S.rooms.length s.r.cap, .slice s.c.a S.cans.length s.c.cap, .int .i64 S.rlo, .int .i64 S.rhi, .slice s.p.a S.steps.length s.p.cap], .slice q.a M.length q.cap, .agg #[.int .i64 m.hour, .int .i64 m.can, .int .i64 m.to_]] W fun e w' => e = .returned (.int .i64 (whyV S M m)) ∧ Below W.heap.size W w') := Lib.hid fun W hW M q m hq hM h6 hm => whyR_any (HS.out.below hW) hq HCK.out hM h6 hm
  clear hS hL hC hV
  go_enter Tryz.func38, Tryz.ntmps38
  go_wp2_with (fail)
  refine wp_name ?_
  intro w1 hw1
  obtain ⟨n2, hn2⟩ : ∃ n, n = w.heap.size := ⟨_, rfl⟩
  have hE1 : Ext2 w w1 := by rw [hw1]; exact below_alloc' _ _
  have X2 : Hid (w1.heap[n2]? = some (Obj.cells #[.slice s.r.a S.rooms.length s.r.cap, .slice s.c.a S.cans.length s.c.cap, .int .i64 S.rlo, .int .i64 S.rhi, .slice s.p.a S.steps.length s.p.cap] 28)) := Lib.hid (by rw [hw1, hn2]; exact blk_new _ _)
  rw [← hn2]
  have HE1 := Lib.hid hE1
  clear hw1 hn2 hE1
  go_loopw [6, 7, 8] (fun v u z wr => ∃ k : Nat, z = .int .i64 (k : Int) ∧ k ≤ L.length ∧ Below w.heap.size w wr ∧ wr.heap[n2]? = some (Obj.cells #[.slice s.r.a S.rooms.length s.r.cap, .slice s.c.a S.cans.length s.c.cap, .int .i64 S.rlo, .int .i64 S.rhi, .slice s.p.a S.steps.length s.p.cap] 28) ∧ OwnR wr w.heap.size 95 3 v (playK S L k).1.length (mvC (playK S L k).1) ∧ OwnR wr w.heap.size 32 1 u k (intC (playK S L k).2)) (fun _ _ z _ => L.length - (intOf z).toNat)
  case atStart => exact ⟨0, rfl, by omega, HE1.out, X2.out, own_nil _ _ _ _ _, own_nil _ _ _ _ _⟩
  case round =>
    obtain ⟨k, rfl, hk, hB, x2, hO, hU⟩ := hrel
    have HO := Lib.hid hO; have HU := Lib.hid hU; have X2' := Lib.hid x2; have HB := Lib.hid hB
    clear hO hU
    by_cases hlt : k < L.length
    · go_light
      obtain ⟨lb, off, h1, y0, y1, y2⟩ := mv_cells (HL.out.below hB) hlt
      dsimp only at h1
      subst h1
      obtain ⟨⟨va, vc⟩, rfl, hq⟩ := HO.out.sl
      have hq' := HWY.out wr hB (playK S L k).1 ⟨va, vc⟩ (mvD L k) hq (HPL.out k hk).kept.valid (by have := (HPL.out k hk).le; omega) (HVD.out k hlt)
      have hkl := (HPL.out k hk).le
      have hlen2 := (HPL.out k hk).len
      obtain ⟨m, hm⟩ : ∃ m, m = mvD L k := ⟨_, rfl⟩
      rw [← hm] at y0 y1 y2 hq'
      obtain ⟨x, hx⟩ : ∃ x, x = whyV S (playK S L k).1 m := ⟨_, rfl⟩
      rw [← hx] at hq'
      have hst1 : (playK S L (k + 1)).1 = if x = 0 then (playK S L k).1 ++ [m] else (playK S L k).1 := by rw [playK]; simp only; rw [← hm, ← hx]
      have hst2 : (playK S L (k + 1)).2 = (playK S L k).2 ++ [x] := by rw [playK]; simp only; rw [← hm, ← hx]
      obtain ⟨M, hM⟩ : ∃ M, M = (playK S L k).1 := ⟨_, rfl⟩
      obtain ⟨E, hE⟩ : ∃ E, E = (playK S L k).2 := ⟨_, rfl⟩
      rw [← hM] at hq' hst1 HO hkl ⊢
      rw [← hE] at hst2 HU hlen2
      have HW := Lib.hid hq'; have HS1 := Lib.hid hst1; have HS2 := Lib.hid hst2; have HLN := Lib.hid hlen2
      have i0 : (0 : Int) ≤ (k : Int) := by omega
      have i1 : (k : Int) < (L.length : Int) := by omega
      have i0' : decide ((0 : Int) ≤ (k : Int)) = true := decide_eq_true i0
      have i1' : decide ((k : Int) < (L.length : Int)) = true := decide_eq_true i1
      have w3' : IntKind.i64.wrap ((k : Int) + 1) = (k : Int) + 1 := IntWalk.i64_in _ (by omega)
      have Y0 := Lib.hid y0; have Y1 := Lib.hid y1; have Y2 := Lib.hid y2
      have HWx : Hid (∀ W, Ext2 wr W → Calls Tryz.prog 69 #[.agg #[.slice s.r.a S.rooms.length s.r.cap, .slice s.c.a S.cans.length s.c.cap, .int .i64 S.rlo, .int .i64 S.rhi, .slice s.p.a S.steps.length s.p.cap], .slice va M.length vc, .agg #[.int .i64 m.hour, .int .i64 m.can, .int .i64 m.to_]] W fun e w' => e = .returned (.int .i64 x) ∧ Below W.heap.size W w') := Lib.hid fun W hW => by
        have h2 := HWY.out W (below_ext HB.out hW) M ⟨va, vc⟩ m (by rw [hM]; exact hq.below hW) (by rw [hM]; exact (HPL.out k hk).kept.valid) (by omega) (by rw [hm]; exact HVD.out k hlt)
        rw [hM, ← hx] at h2
        rw [hM]; exact h2
      have q2c := cell_blk x2
      have q2f := frz_blk x2
      clear hq hq' hm hx hst1 hst2 hM hE hlen2 hB x2
      go_wp2_with (fail)
      refine region_ev [] [0, 1, 2, 3, 4, 5, 6, 7] [] [] (by kernel_rfl) (by kernel_rfl) (by intro c a d v w h; cases d <;> exact h) ?_
      simp only [picks, List.drop_succ_cons, List.drop_zero]
      repeat (refine wpQ0_step (fun K hK => ?_); go_simp; (refine hK _ ?_; clear hK K))
      refine wpQ0_nil ?_
      repeat ((with_reducible refine wpQ2_step (fun K hK => ?_)); go_simp; first | ((with_reducible refine hK _ ?_); clear hK K) | (apply Exists.intro; refine ⟨fun x => ?_, hK _ ?_⟩; ((with_reducible exact HWx.out x.1 x.2)); clear hK K))
      refine wpQ2_nil ?_
      refine Events.none_ fun w4 hg4 => ?_
      simp only [picks, List.drop_succ_cons, List.drop_zero]
      have hB4 := below_ext HB.out hg4
      have X24 := Lib.hid (Ext2.blk hg4 X2'.out); have HO4 := Lib.hid (HO.out.below hg4); have HU4 := Lib.hid (HU.out.below hg4)
      have y0 := (Below.cell hg4 (cell_lt Y0.out)).trans Y0.out; have y1 := (Below.cell hg4 (cell_lt Y1.out)).trans Y1.out; have y2 := (Below.cell hg4 (cell_lt Y2.out)).trans Y2.out
      have HB4 := Lib.hid hB4
      have l0 := cell_lt y0
      dsimp only at l0
      clear hg4 q2c q2f
      by_cases hx0 : x = 0
      · subst hx0
        go_upto_region 9 with (at_builtin; refine app_one [.int .i64 m.hour, .int .i64 m.can, .int .i64 m.to_] elMv rfl _ _ rfl w.heap.size rfl (HO4.out.below (below_alloc' _ _)) w4.heap.size 1 rfl (blk_new _ _) (by simp [Value.oneCell']) (by omega) (by have := hB4.size; simp; omega) ?_; intro v' w5 hO5 hg5)
        have hB5 := below_app hB4 HO4.out hB4.size hg5
        have X25 := Lib.hid (app_blk HO4.out hg5 X24.out (by decide))
        have HU5 := Lib.hid (own_app HO4.out hg5 HU4.out (by decide))
        have hO6 : OwnR w5 w.heap.size 95 3 v' (M ++ [m]).length (mvC (M ++ [m])) := by
          rw [List.length_append]
          exact hO5.congr fun i j hi hj => mvC_snoc hi hj
        have HO6 := Lib.hid hO6
        clear y0 y1 y2 hO5 hO6 hg5 hB4 l0
        go_wp2_with (at_builtin; refine app_one [.int .i64 0] elErr rfl _ _ rfl w.heap.size rfl (HU5.out.below (below_alloc' _ _)) w5.heap.size 1 rfl (blk_new _ _) (by simp [Value.oneCell']) (by omega) (by have := hB5.size; simp; omega) ?_; intro u' w6 hU6 hg6)
        have HB6 := Lib.hid (below_app hB5 HU5.out hB5.size hg6)
        have X26 := Lib.hid (app_blk HU5.out hg6 X25.out (by decide))
        have HO7 := Lib.hid (own_app HU5.out hg6 HO6.out (by decide))
        have HU6 := Lib.hid hU6
        clear hU6 hg6 hB5
        go_wp2_with (fail)
        go_roundw
        case rel =>
          refine ⟨k + 1, by go_num, by omega, HB6.out, X26.out, ?_, ?_⟩
          · rw [HS1.out, if_pos rfl]; exact HO7.out
          · rw [HS2.out]
            refine HU6.out.congr fun i j hi hj => ?_
            have e := @intC_snoc E 0 i j
            rw [HLN.out] at e
            exact e hi hj
        case measure => simp [intOf]; omega
      · have hd : (x == 0) = false := beq_eq_false_iff_ne.2 hx0
        have HX0 := Lib.hid hx0
        clear hx0 y0 y1 y2 l0
        go_wp2_with (at_builtin; refine app_one [.int .i64 x] elErr rfl _ _ rfl w.heap.size rfl (HU4.out.below (below_alloc' _ _)) w4.heap.size 1 rfl (blk_new _ _) (by simp [Value.oneCell']) (by omega) (by have := hB4.size; simp; omega) ?_; intro u' w6 hU6 hg6)
        have HB6 := Lib.hid (below_app hB4 HU4.out hB4.size hg6)
        have X26 := Lib.hid (app_blk HU4.out hg6 X24.out (by decide))
        have HO7 := Lib.hid (own_app HU4.out hg6 HO4.out (by decide))
        have HU6 := Lib.hid hU6
        clear hU6 hg6 hB4
        go_wp2_with (fail)
        go_roundw
        case rel =>
          refine ⟨k + 1, by go_num, by omega, HB6.out, X26.out, ?_, ?_⟩
          · rw [HS1.out, if_neg HX0.out]; exact HO7.out
          · rw [HS2.out]
            refine HU6.out.congr fun i j hi hj => ?_
            have e := @intC_snoc E x i j
            rw [HLN.out] at e
            exact e hi hj
        case measure => simp [intOf]; omega
    · obtain rfl : k = L.length := by omega
      have r1 : ¬ (L.length : Int) < (L.length : Int) := by omega
      clear hB x2
      go_wp2_with (fail)
      refine bodyPost_ret (v := .tuple #[u6, u7]) ?_ rfl ?_
      · simp [results, Tryz.results38, go_sem]
      exact ⟨⟨u6, u7, rfl, HO.out, HU.out⟩, HB.out⟩
end Go.Proofs.YtfpaihjcbpaneaaGreatDoor
