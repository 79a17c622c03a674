/-
  The reference's Lost.
-/
import Derived.Test.YtfjbgcaogffiaaaDLevA
import Derived.Test.YtfjbgcaogffiaaaDRegB
namespace Go.Proofs.Ytfjbgcaogffiaaa
open Go.RowKit D
set_option linter.unusedVariables false
set_option linter.unusedSimpArgs false
attribute [local go_sem high] run_minI run_maxI
attribute [local go_sem] upon2 cls_cell cls_frozen forall_const exists_eq_left'
attribute [local go_sem] FirstUpon
theorem firstDay_step {first : Int} (h0 : 0 ≤ first) (p : Nat → Bool) (k : Nat) : firstDay first p (k + 1) = if firstDay first p k < 0 ∧ p k = true then first + (k : Int) else firstDay first p k := by
  rw [firstDay]
  rcases firstDay_rng h0 (p := p) k with h | h
  · rw [h, if_neg (fun h => h rfl)]
    by_cases hp : p k = true <;> simp [hp]
  · rw [if_pos (by omega), if_neg (by omega)]
set_option maxRecDepth 100000 in
set_option maxHeartbeats 2000000 in
theorem lostR_any {T : Task} {s : TSl} {w : World} (hT : TaskAt w T s) : Calls Try.prog 44 #[.agg #[.slice s.h.a T.rule.heat.length s.h.cap, .slice s.w.a T.rule.wet.length s.w.cap, .int .i64 T.rule.own, .int .i64 T.rule.feed, .int .i64 T.rule.g0, .int .i64 T.rule.g1, .int .i64 T.rule.g2, .int .i64 T.rule.lost, .int .i64 T.first, .slice s.d.a T.days.length s.d.cap, .int .i64 T.start.lo, .int .i64 T.start.hi, .slice s.t.a T.tests.length s.t.cap]] w fun e w' => e = .returned (.tuple #[.agg #[.int .i64 (lostOut T).lo, .int .i64 (lostOut T).hi], .int .i64 (checkTask T).2.2]) ∧ Below w.heap.size w w' := by
  have HR : Hid (∀ W, Below w.heap.size w W → Calls Try.prog 18 #[.agg #[.slice s.h.a T.rule.heat.length s.h.cap, .slice s.w.a T.rule.wet.length s.w.cap, .int .i64 T.rule.own, .int .i64 T.rule.feed, .int .i64 T.rule.g0, .int .i64 T.rule.g1, .int .i64 T.rule.g2, .int .i64 T.rule.lost, .int .i64 T.first, .slice s.d.a T.days.length s.d.cap, .int .i64 T.start.lo, .int .i64 T.start.hi, .slice s.t.a T.tests.length s.t.cap]] W (LevelsOut T W)) := Lib.hid fun W hW => levelsR_any (hT.below hW)
  obtain ⟨er, her⟩ : ∃ er, er = (D.checkTask T).2.2 := ⟨_, rfl⟩
  obtain ⟨L, hL⟩ : ∃ L, L = lostOut T := ⟨_, rfl⟩
  rw [← her, ← hL]
  have HE := Lib.hid her; have HL := Lib.hid hL; clear her hL hT
  by_cases h0 : er = 0
  · subst h0
    have HK := Lib.hid (task_ok HE.out.symm).1
    have HL2 : Hid (lostT T = L) := Lib.hid (by rw [HL.out, lostOut, if_pos HE.out.symm])
    have hfst := HK.out.first
    have hnd := HK.out.nd
    go_enter Try.func44, Try.ntmps44
    go_wp2_with (fail)
    (with_reducible refine (HR.out _ ?_).mono ?_)
    · repeat' (first | exact Below.refl _ _ | assumption | refine below_drewN ?_ _ | refine Below.drew ?_ | refine Below.alloc ?_ (by first | assumption | omega | (simp <;> omega)) _ | refine Below.setCell ?_ (by first | assumption | omega | (simp <;> omega)) _ | refine Ext2.on (by assumption) ?_)
    rintro e w1 ⟨⟨s1, s2, rfl, hs1, hs2⟩, hb1⟩
    have x0 : w1.heap[w.heap.size]? = some (Obj.cells #[.slice s.h.a T.rule.heat.length s.h.cap, .slice s.w.a T.rule.wet.length s.w.cap, .int .i64 T.rule.own, .int .i64 T.rule.feed, .int .i64 T.rule.g0, .int .i64 T.rule.g1, .int .i64 T.rule.g2, .int .i64 T.rule.lost, .int .i64 T.first, .slice s.d.a T.days.length s.d.cap, .int .i64 T.start.lo, .int .i64 T.start.hi, .slice s.t.a T.tests.length s.t.cap] 31) := below_blk hb1 (by repeat' (first | (with_reducible assumption) | (with_reducible refine blk_set_ne ?_ ?_) | (with_reducible exact blk_new _ _) | (with_reducible refine blk_new' _ _ (by first | (with_reducible rfl) | (simp; done) | (simp <;> omega))) | (with_reducible refine blk_alloc ?_ _) | (with_reducible refine blk_drew ?_) | (with_reducible refine blk_drewN ?_ _) | (with_reducible refine Ext2.blk (by assumption) ?_) | omega | (simp <;> omega) | exact blk_set (by assumption) _ _)) (by simp; omega)
    have x1 : w1.heap[w.heap.size + 1]? = some (Obj.cells #[.int .i64 0, .int .i64 0] 28) := below_blk hb1 (by repeat' (first | (with_reducible assumption) | (with_reducible refine blk_set_ne ?_ ?_) | (with_reducible exact blk_new _ _) | (with_reducible refine blk_new' _ _ (by first | (with_reducible rfl) | (simp; done) | (simp <;> omega))) | (with_reducible refine blk_alloc ?_ _) | (with_reducible refine blk_drew ?_) | (with_reducible refine blk_drewN ?_ _) | (with_reducible refine Ext2.blk (by assumption) ?_) | omega | (simp <;> omega) | exact blk_set (by assumption) _ _)) (by simp)
    have hB1 : Below w.heap.size w w1 := Below.trans (by repeat' (first | exact Below.refl _ _ | assumption | refine below_drewN ?_ _ | refine Below.drew ?_ | refine Below.alloc ?_ (by first | assumption | omega | (simp <;> omega)) _ | refine Below.setCell ?_ (by first | assumption | omega | (simp <;> omega)) _ | refine Ext2.on (by assumption) ?_)) (hb1.mono (by simp; omega))
    have e1 : levelsRes T = levelsT T := if_pos HE.out.symm
    have hrow : RowS w1 s1 2 (T.days.length + 1) (spC (lv T)) := by
      unfold SpansS at hs1
      rw [e1, levels_len] at hs1
      exact rowS_congr hs1 fun i j hi _ => (spC_levels (by omega) j).symm
    have e2 : (levelsRes T).length = T.days.length + 1 := by rw [e1, levels_len]
    rw [← HE.out, e2]
    have hz1 := blk_lt x1
    have HROW := Lib.hid hrow; have HX1 := Lib.hid x1; have HX0 := Lib.hid x0
    clear hs1 hs2 hb1 hrow e1 e2 x0 x1
    go_wp2_with (fail)
    go_loopw [8] (fun i wr => ∃ k : Nat, i = .int .i64 (k : Int) ∧ k ≤ T.days.length + 1 ∧ Below (w.heap.size + 2) w1 wr ∧ w1.heap.size < wr.heap.size ∧ wr.heap[w1.heap.size]? = some (Obj.cells #[.int .i64 (firstDay T.first (lostP1 T) k), .int .i64 (firstDay T.first (lostP2 T) k)] 28) ∧ Below w.heap.size w wr ∧ Below w1.heap.size w1 wr) (fun i _ => T.days.length + 1 - (intOf i).toNat)
    case atStart => exact ⟨0, rfl, by omega, (below_alloc' _ _).mono (by omega), by simp, blk_new _ _, hB1.trans ((below_alloc' _ _).mono hB1.size), below_alloc' _ _⟩
    case round =>
      obtain ⟨k, rfl, hk, hB2, hz, k7, hB, hE⟩ := hrel
      have hE1 : Ext2 w1 wr := hE
      obtain ⟨x, hx⟩ : ∃ x, x = firstDay T.first (lostP1 T) k := ⟨_, rfl⟩
      obtain ⟨y, hy⟩ : ∃ y, y = firstDay T.first (lostP2 T) k := ⟨_, rfl⟩
      rw [← hx, ← hy] at k7
      have HXX := Lib.hid hx; have HYY := Lib.hid hy
      clear hx hy
      by_cases hlt : k < T.days.length + 1
      · obtain ⟨b, off, ha, hr1⟩ := HROW.out.row (by omega) (by omega)
        have hbl := hr1.1
        have hr := hr1.below hE1
        obtain ⟨sa, sc⟩ := s1
        dsimp only at ha
        subst ha
        obtain ⟨c0, c1⟩ := hr.two hlt
        simp only [spC] at c0 c1
        have hcl := HROW.out.le
        have hcm := HROW.out.max
        dsimp only at hcl hcm
        obtain ⟨a, hav⟩ : ∃ a, a = lv T k := ⟨_, rfl⟩
        rw [← hav] at c0 c1
        have HAV := Lib.hid hav
        have p0 : (0 : Int) ≤ (k : Int) := by omega
        have p1 : (k : Int) < (T.days.length : Int) + 1 := by omega
        have w1' : IntKind.i64.wrap (T.first + (k : Int)) = T.first + (k : Int) := IntWalk.i64_in _ (by omega)
        have w2' : IntKind.i64.wrap ((k : Int) + 1) = (k : Int) + 1 := IntWalk.i64_in _ (by omega)
        have x0 := Ext2.blk hE1 HX0.out
        have hn1 := Ext2.size hE1
        clear hav hr hr1 hE
        have q0c := cell_blk x0
        have q0f := frz_blk x0
        have q7c := cell_blk k7
        have q7f := frz_blk k7
        have e3 : firstDay T.first (lostP1 T) (k + 1) = if x < 0 ∧ T.rule.lost ≤ a.hi then T.first + (k : Int) else x := by
          rw [firstDay_step hfst.1, ← HXX.out]; simp only [lostP1, ← HAV.out, decide_eq_true_eq]
        have e4 : firstDay T.first (lostP2 T) (k + 1) = if y < 0 ∧ T.rule.lost ≤ a.lo then T.first + (k : Int) else y := by
          rw [firstDay_step hfst.1, ← HYY.out]; simp only [lostP2, ← HAV.out, decide_eq_true_eq]
        have E3 := Lib.hid e3; have E4 := Lib.hid e4
        clear e3 e4
        rcases (by omega : (x < 0 ∧ T.rule.lost ≤ a.hi) ∨ (x < 0 ∧ ¬ T.rule.lost ≤ a.hi) ∨ ¬ x < 0) with ⟨g1, g2⟩ | ⟨g1, g2⟩ | g1
        case' inl =>
          go_wp2_with (fail)
          refine region_ev [] [0, 1, 2, 3, 4, 5, 6, 7, 8, 9, 10, 11, 12, 13] [] [] (by kernel_rfl) (by kernel_rfl) (by intro c a d v w h; cases d <;> exact h) ?_
          simp only [picks, List.drop_succ_cons, List.drop_zero]
          repeat (refine wpQ0_step (fun K hK => ?_); go_simp; (refine hK _ ?_; clear hK K))
          refine wpQ0_nil ?_
          repeat ((with_reducible refine wpQ2_step (fun K hK => ?_)); go_simp; first | ((with_reducible refine hK _ ?_); clear hK K) | (apply Exists.intro; refine ⟨fun x => ?_, hK _ ?_⟩; (fail); clear hK K))
          refine wpQ2_nil ?_
          refine Events.none_ fun w2 hg2 => ?_
          simp only [picks, List.drop_succ_cons, List.drop_zero]
          have k7 := Ext2.blk hg2 k7
          have x0 := Ext2.blk hg2 x0
          have hE2 : Ext2 w1 w2 := hE1.trans (Below.mono hg2 hE1.size)
          clear q0c q0f q7c q7f
          have q0c := cell_blk x0
          have q0f := frz_blk x0
          have q7c := cell_blk k7
          have q7f := frz_blk k7
          go_wp2_with (fail)
          refine wp_name ?_
          intro w5 h5
          obtain ⟨x5, hx5⟩ : ∃ x5, x5 = T.first + (k : Int) := ⟨_, rfl⟩
          have HX5 : Hid (x5 = firstDay T.first (lostP1 T) (k + 1)) := Lib.hid (by rw [E3.out, if_pos ⟨g1, g2⟩, hx5])
          have s7 : w5.heap[w1.heap.size]? = some (Obj.cells #[.int .i64 x5, .int .i64 y] 28) := by rw [h5, hx5]; exact Eq.trans (blk_set k7 _ _) rfl
          have hE5 : Ext2 w1 w5 := by rw [h5]; exact below_set hE2 (Nat.le_refl _)
          have y0 : w5.heap[w.heap.size]? = some (Obj.cells #[.slice s.h.a T.rule.heat.length s.h.cap, .slice s.w.a T.rule.wet.length s.w.cap, .int .i64 T.rule.own, .int .i64 T.rule.feed, .int .i64 T.rule.g0, .int .i64 T.rule.g1, .int .i64 T.rule.g2, .int .i64 T.rule.lost, .int .i64 T.first, .slice s.d.a T.days.length s.d.cap, .int .i64 T.start.lo, .int .i64 T.start.hi, .slice s.t.a T.tests.length s.t.cap] 31) := by rw [h5]; exact blk_set_ne x0 (by omega)
          have d0 : w5.cell? ⟨b, off + k * 2, none⟩ = some (.int .i64 a.lo) := by
            rw [h5]
            have h := (Below.cell hg2 (cell_lt c0)).trans c0
            rw [← h]
            exact World.cell?_of_block (by simp [World.setCell, Array.getElem?_modify]; intro h; omega)
          clear h5 hx5 k7 x0 q0c q0f q7c q7f hE2 g2 hg2
        case' inr.inl =>
          go_wp2_with (fail)
          refine region_ev [] [0, 1, 2, 3, 4, 5, 6, 7, 8, 9, 10, 11, 12, 13] [] [] (by kernel_rfl) (by kernel_rfl) (by intro c a d v w h; cases d <;> exact h) ?_
          simp only [picks, List.drop_succ_cons, List.drop_zero]
          repeat (refine wpQ0_step (fun K hK => ?_); go_simp; (refine hK _ ?_; clear hK K))
          refine wpQ0_nil ?_
          repeat ((with_reducible refine wpQ2_step (fun K hK => ?_)); go_simp; first | ((with_reducible refine hK _ ?_); clear hK K) | (apply Exists.intro; refine ⟨fun x => ?_, hK _ ?_⟩; (fail); clear hK K))
          refine wpQ2_nil ?_
          refine Events.none_ fun w5 hg5 => ?_
          simp only [picks, List.drop_succ_cons, List.drop_zero]
          have s7 := Ext2.blk hg5 k7
          have y0 := Ext2.blk hg5 x0
          have hE5 : Ext2 w1 w5 := hE1.trans (Below.mono hg5 hE1.size)
          obtain ⟨x5, hx5⟩ : ∃ x5, x5 = x := ⟨_, rfl⟩
          have HX5 : Hid (x5 = firstDay T.first (lostP1 T) (k + 1)) := Lib.hid (by rw [E3.out, if_neg (by omega), hx5])
          rw [← hx5] at s7
          have d0 := (Below.cell hg5 (cell_lt c0)).trans c0
          clear q0c q0f q7c q7f hx5 k7 x0 hg5
          go_wp2_with (fail)
          clear g2
        case' inr.inr =>
          have g3 : decide (x < 0) = false := by simp; omega
          go_wp2_with (fail)
          refine region_ev [] [0, 1, 2, 3, 4, 5, 6, 7, 8, 9, 10, 11, 12, 13] [] [] (by kernel_rfl) (by kernel_rfl) (by intro c a d v w h; cases d <;> exact h) ?_
          simp only [picks, List.drop_succ_cons, List.drop_zero]
          repeat (refine wpQ0_step (fun K hK => ?_); go_simp; (refine hK _ ?_; clear hK K))
          refine wpQ0_nil ?_
          repeat ((with_reducible refine wpQ2_step (fun K hK => ?_)); go_simp; first | ((with_reducible refine hK _ ?_); clear hK K) | (apply Exists.intro; refine ⟨fun x => ?_, hK _ ?_⟩; (fail); clear hK K))
          refine wpQ2_nil ?_
          refine Events.none_ fun w5 hg5 => ?_
          simp only [picks, List.drop_succ_cons, List.drop_zero]
          have s7 := Ext2.blk hg5 k7
          have y0 := Ext2.blk hg5 x0
          have hE5 : Ext2 w1 w5 := hE1.trans (Below.mono hg5 hE1.size)
          obtain ⟨x5, hx5⟩ : ∃ x5, x5 = x := ⟨_, rfl⟩
          have HX5 : Hid (x5 = firstDay T.first (lostP1 T) (k + 1)) := Lib.hid (by rw [E3.out, if_neg (by omega), hx5])
          rw [← hx5] at s7
          have d0 := (Below.cell hg5 (cell_lt c0)).trans c0
          clear q0c q0f q7c q7f hx5 k7 x0 hg5 g3
          go_wp2_with (fail)
        all_goals
          clear g1 c0 c1
          have hs5 := Ext2.size hE5
          have hBw := hB1.trans (Below.mono hE5 hB1.size)
          have q0c := cell_blk y0
          have q0f := frz_blk y0
          have q7c := cell_blk s7
          have q7f := frz_blk s7
          by_cases g1 : y < 0
          · by_cases g2 : T.rule.lost ≤ a.lo
            · have HY5 : Hid (T.first + (k : Int) = firstDay T.first (lostP2 T) (k + 1)) := Lib.hid (by rw [E4.out, if_pos ⟨g1, g2⟩])
              refine region_ev [] [0, 1, 2, 3, 4, 5, 6, 7, 8, 9, 10, 11, 12, 13] [] [] (by kernel_rfl) (by kernel_rfl) (by intro c a d v w h; cases d <;> exact h) ?_
              simp only [picks, List.drop_succ_cons, List.drop_zero]
              repeat (refine wpQ0_step (fun K hK => ?_); go_simp; (refine hK _ ?_; clear hK K))
              refine wpQ0_nil ?_
              repeat ((with_reducible refine wpQ2_step (fun K hK => ?_)); go_simp; first | ((with_reducible refine hK _ ?_); clear hK K) | (apply Exists.intro; refine ⟨fun x => ?_, hK _ ?_⟩; (fail); clear hK K))
              refine wpQ2_nil ?_
              refine Events.none_ fun w6 hg6 => ?_
              simp only [picks, List.drop_succ_cons, List.drop_zero]
              have s7 := Ext2.blk hg6 s7
              have y0 := Ext2.blk hg6 y0
              have hE6 : Ext2 w1 w6 := hE5.trans (Below.mono hg6 hE5.size)
              clear q0c q0f q7c q7f
              have q0c := cell_blk y0
              have q0f := frz_blk y0
              have q7c := cell_blk s7
              have q7f := frz_blk s7
              go_wp2_with (fail)
              go_roundw
              case rel =>
                refine ⟨k + 1, by go_num, by omega, below_set (hE6.mono (by omega)) (by omega), by simp only [World.size_setCell]; have := blk_lt s7; omega, ?_, below_set (hB1.trans (Below.mono hE6 hB1.size)) (by omega), below_set hE6 (Nat.le_refl _)⟩
                rw [← HX5.out, ← HY5.out]; exact Eq.trans (blk_set s7 _ _) rfl
              case measure => simp [intOf]; omega
            · have HY5 : Hid (y = firstDay T.first (lostP2 T) (k + 1)) := Lib.hid (by rw [E4.out, if_neg (by omega)])
              refine region_ev [] [0, 1, 2, 3, 4, 5, 6, 7, 8, 9, 10, 11, 12, 13] [] [] (by kernel_rfl) (by kernel_rfl) (by intro c a d v w h; cases d <;> exact h) ?_
              simp only [picks, List.drop_succ_cons, List.drop_zero]
              repeat (refine wpQ0_step (fun K hK => ?_); go_simp; (refine hK _ ?_; clear hK K))
              refine wpQ0_nil ?_
              repeat ((with_reducible refine wpQ2_step (fun K hK => ?_)); go_simp; first | ((with_reducible refine hK _ ?_); clear hK K) | (apply Exists.intro; refine ⟨fun x => ?_, hK _ ?_⟩; (fail); clear hK K))
              refine wpQ2_nil ?_
              refine Events.none_ fun w6 hg6 => ?_
              simp only [picks, List.drop_succ_cons, List.drop_zero]
              have s7 := Ext2.blk hg6 s7
              have hE6 : Ext2 w1 w6 := hE5.trans (Below.mono hg6 hE5.size)
              clear q0c q0f q7c q7f
              go_wp2_with (fail)
              go_roundw
              case rel =>
                refine ⟨k + 1, by go_num, by omega, hE6.mono (by omega), blk_lt s7, ?_, hB1.trans (Below.mono hE6 hB1.size), hE6⟩
                rw [← HX5.out, ← HY5.out]; exact s7
              case measure => simp [intOf]; omega
          · have HY5 : Hid (y = firstDay T.first (lostP2 T) (k + 1)) := Lib.hid (by rw [E4.out, if_neg (by omega)])
            have g3 : decide (y < 0) = false := by simp; omega
            refine region_ev [] [0, 1, 2, 3, 4, 5, 6, 7, 8, 9, 10, 11, 12, 13] [] [] (by kernel_rfl) (by kernel_rfl) (by intro c a d v w h; cases d <;> exact h) ?_
            simp only [picks, List.drop_succ_cons, List.drop_zero]
            repeat (refine wpQ0_step (fun K hK => ?_); go_simp; (refine hK _ ?_; clear hK K))
            refine wpQ0_nil ?_
            repeat ((with_reducible refine wpQ2_step (fun K hK => ?_)); go_simp; first | ((with_reducible refine hK _ ?_); clear hK K) | (apply Exists.intro; refine ⟨fun x => ?_, hK _ ?_⟩; (fail); clear hK K))
            refine wpQ2_nil ?_
            refine Events.none_ fun w6 hg6 => ?_
            simp only [picks, List.drop_succ_cons, List.drop_zero]
            have s7 := Ext2.blk hg6 s7
            have hE6 : Ext2 w1 w6 := hE5.trans (Below.mono hg6 hE5.size)
            clear q0c q0f q7c q7f
            go_wp2_with (fail)
            go_roundw
            case rel =>
              refine ⟨k + 1, by go_num, by omega, hE6.mono (by omega), blk_lt s7, ?_, hB1.trans (Below.mono hE6 hB1.size), hE6⟩
              rw [← HX5.out, ← HY5.out]; exact s7
            case measure => simp [intOf]; omega
      · have hkk : k = T.days.length + 1 := by omega
        have HL3 : Hid (L = ⟨x, y⟩) := Lib.hid (by rw [← HL2.out, lostT, HXX.out, HYY.out, hkk])
        have p1 : ¬ (k : Int) < (T.days.length : Int) + 1 := by omega
        have x1 := Ext2.blk hE1 HX1.out
        have hn1 := Ext2.size hE1
        clear hkk hlt
        have q1c := cell_blk x1
        have q1f := frz_blk x1
        have q7c := cell_blk k7
        have q7f := frz_blk k7
        go_wp2_with (fail)
        have r1 : ((wr.setCell ⟨w.heap.size + 1, 0, none⟩ (.int .i64 x)).setCell ⟨w.heap.size + 1, 1, none⟩ (.int .i64 y)).heap[w.heap.size + 1]? = some (Obj.cells #[.int .i64 x, .int .i64 y] 28) := Eq.trans (blk_set (blk_set x1 _ _) _ _) rfl
        refine bodyPost_ret (v := .tuple #[.agg #[.int .i64 (Span.mk x y).lo, .int .i64 (Span.mk x y).hi], .int .i64 0]) ?_ rfl ⟨by rw [HL3.out], below_set (below_set hB (by omega)) (by omega)⟩
        have zc := cell_blk r1
        have zf := frz_blk r1
        simp [results, Try.results44, go_sem, zc]
  · have hne : (er == 0) = false := by simp; omega
    have hne2 : (er != 0) = true := by simp; omega
    have HL2 : Hid (L = ⟨0, 0⟩) := Lib.hid (by rw [HL.out, lostOut, if_neg (fun h => h0 (HE.out.trans h))])
    go_enter Try.func44, Try.ntmps44
    go_wp2_with (fail)
    (with_reducible refine (HR.out _ ?_).mono ?_)
    · repeat' (first | exact Below.refl _ _ | assumption | refine below_drewN ?_ _ | refine Below.drew ?_ | refine Below.alloc ?_ (by first | assumption | omega | (simp <;> omega)) _ | refine Below.setCell ?_ (by first | assumption | omega | (simp <;> omega)) _ | refine Ext2.on (by assumption) ?_)
    rintro e w1 ⟨⟨s1, s2, rfl, hs1, hs2⟩, hb1⟩
    have x1 : w1.heap[w.heap.size + 1]? = some (Obj.cells #[.int .i64 0, .int .i64 0] 28) := below_blk hb1 (by repeat' (first | (with_reducible assumption) | (with_reducible refine blk_set_ne ?_ ?_) | (with_reducible exact blk_new _ _) | (with_reducible refine blk_new' _ _ (by first | (with_reducible rfl) | (simp; done) | (simp <;> omega))) | (with_reducible refine blk_alloc ?_ _) | (with_reducible refine blk_drew ?_) | (with_reducible refine blk_drewN ?_ _) | (with_reducible refine Ext2.blk (by assumption) ?_) | omega | (simp <;> omega) | exact blk_set (by assumption) _ _)) (by simp)
    have hB1 : Below w.heap.size w w1 := Below.trans (by repeat' (first | exact Below.refl _ _ | assumption | refine below_drewN ?_ _ | refine Below.drew ?_ | refine Below.alloc ?_ (by first | assumption | omega | (simp <;> omega)) _ | refine Below.setCell ?_ (by first | assumption | omega | (simp <;> omega)) _ | refine Ext2.on (by assumption) ?_)) (hb1.mono (by simp; omega))
    rw [← HE.out]
    clear h0 hb1 hs1 hs2
    have q1c := cell_blk x1
    have q1f := frz_blk x1
    go_wp2_with (fail)
    have r1 : ((w1.setCell ⟨w.heap.size + 1, 0, none⟩ (.int .i64 0)).setCell ⟨w.heap.size + 1, 1, none⟩ (.int .i64 0)).heap[w.heap.size + 1]? = some (Obj.cells #[.int .i64 0, .int .i64 0] 28) := Eq.trans (blk_set (blk_set x1 _ _) _ _) rfl
    refine bodyPost_ret (v := .tuple #[.agg #[.int .i64 (Span.mk 0 0).lo, .int .i64 (Span.mk 0 0).hi], .int .i64 er]) ?_ rfl ⟨by rw [HL2.out], below_set (below_set hB1 (by omega)) (by omega)⟩
    have zc := cell_blk r1
    have zf := frz_blk r1
    simp [results, Try.results44, go_sem, zc]
end Go.Proofs.Ytfjbgcaogffiaaa
