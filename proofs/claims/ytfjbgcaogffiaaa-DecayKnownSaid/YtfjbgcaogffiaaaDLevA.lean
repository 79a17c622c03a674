/-
  decay.Levels.
  decay.lost, Lost: the first mornings on which a reel can be lost, and is.
  decay.lost and Lost.
-/
import Derived.Test.YtfjbgcaogffiaaaDKn1
import Derived.Test.YtfjbgcaogffiaaaDRefLev
import Derived.Test.YtfjbgcaogffiaaaDKnowA
namespace Go.Proofs.Ytfjbgcaogffiaaa
open Go.RowKit D
set_option linter.unusedVariables false
set_option linter.unusedSimpArgs false
attribute [local go_sem high] run_minI run_maxI
attribute [local go_sem] upon2 cls_cell cls_frozen forall_const exists_eq_left'
attribute [local go_sem] FirstUpon
set_option maxRecDepth 100000 in
set_option maxHeartbeats 2000000 in
theorem open_no {T : Task} {s : TSl} {w : World} (hT : TaskAt w T s) (h0 : (checkTask T).2.2 ≠ 0) : Calls Try.prog 50 #[.agg #[.slice s.h.a T.rule.heat.length s.h.cap, .slice s.w.a T.rule.wet.length s.w.cap, .int .i64 T.rule.own, .int .i64 T.rule.feed, .int .i64 T.rule.g0, .int .i64 T.rule.g1, .int .i64 T.rule.g2, .int .i64 T.rule.lost, .int .i64 T.first, .slice s.d.a T.days.length s.d.cap, .int .i64 T.start.lo, .int .i64 T.start.hi, .slice s.t.a T.tests.length s.t.cap]] w fun e w' => e = .returned (.tuple #[.pointer none, .int .i64 (checkTask T).2.2]) ∧ Below w.heap.size w w' := by
  obtain ⟨x1, hx1⟩ : ∃ x, x = (checkTask T).1 := ⟨_, rfl⟩
  obtain ⟨x2, hx2⟩ : ∃ x, x = (checkTask T).2.1 := ⟨_, rfl⟩
  obtain ⟨x3, hx3⟩ : ∃ x, x = (checkTask T).2.2 := ⟨_, rfl⟩
  have HC : Hid (∀ W, Below w.heap.size w W → Calls Try.prog 64 #[.agg #[.slice s.h.a T.rule.heat.length s.h.cap, .slice s.w.a T.rule.wet.length s.w.cap, .int .i64 T.rule.own, .int .i64 T.rule.feed, .int .i64 T.rule.g0, .int .i64 T.rule.g1, .int .i64 T.rule.g2, .int .i64 T.rule.lost, .int .i64 T.first, .slice s.d.a T.days.length s.d.cap, .int .i64 T.start.lo, .int .i64 T.start.hi, .slice s.t.a T.tests.length s.t.cap]] W fun e w' => e = .returned (.agg #[.int .i64 x1, .int .i64 x2, .int .i64 x3]) ∧ Below W.heap.size W w') := Lib.hid fun W hW => by
    have h := task_any (hT.below hW)
    rw [← hx1, ← hx2, ← hx3] at h; exact h
  rw [← hx3] at h0 ⊢
  have hne : (x3 == 0) = false := by simp; omega
  have hne2 : (x3 != 0) = true := by simp; omega
  clear hT hx1 hx2 hx3 h0
  go_enter Try.func50, Try.ntmps50
  go_wp2_with (fail)
  (with_reducible refine (HC.out _ ?_).mono ?_)
  · repeat' (first | exact Below.refl _ _ | assumption | refine below_drewN ?_ _ | refine Below.drew ?_ | refine Below.alloc ?_ (by first | assumption | omega | (simp <;> omega)) _ | refine Below.setCell ?_ (by first | assumption | omega | (simp <;> omega)) _ | refine Ext2.on (by assumption) ?_)
  rintro e w1 ⟨rfl, hb1⟩
  have hB1 : Below w.heap.size w w1 := Below.trans (by repeat' (first | exact Below.refl _ _ | assumption | refine below_drewN ?_ _ | refine Below.drew ?_ | refine Below.alloc ?_ (by first | assumption | omega | (simp <;> omega)) _ | refine Below.setCell ?_ (by first | assumption | omega | (simp <;> omega)) _ | refine Ext2.on (by assumption) ?_)) (hb1.mono (by simp <;> omega))
  clear hb1
  go_wp2_with (fail)
  refine wp_name ?_
  intro w2 h2
  have b2 : w2.heap[w1.heap.size]? = some (.cells #[.int .i64 x1, .int .i64 x2, .int .i64 x3] 103 (0, 0)) := by rw [h2]; exact blk_new _ _
  have hB2 : Below w.heap.size w w2 := by rw [h2]; exact hB1.trans ((below_alloc' _ _).mono hB1.size)
  clear h2
  have q2c := cell_blk b2
  have q2f := frz_blk b2
  refine region_ev [] [0, 1, 2, 3] [] [] (by kernel_rfl) (by kernel_rfl) (by intro c a d v w h; cases d <;> exact h) ?_
  simp only [picks, List.drop_succ_cons, List.drop_zero]
  repeat (refine wpQ0_step (fun K hK => ?_); go_simp; (refine hK _ ?_; clear hK K))
  refine wpQ0_nil ?_
  repeat ((with_reducible refine wpQ2_step (fun K hK => ?_)); go_simp; first | ((with_reducible refine hK _ ?_); clear hK K) | (apply Exists.intro; refine ⟨fun x => ?_, hK _ ?_⟩; (fail); clear hK K))
  refine wpQ2_nil ?_
  refine Events.none_ fun w3 hg3 => ?_
  simp only [picks, List.drop_succ_cons, List.drop_zero]
  go_wp2_with (fail)
  go_ret2
  exact ⟨rfl, hB2.trans (Below.mono hg3 hB2.size)⟩
set_option maxRecDepth 100000 in
set_option maxHeartbeats 2000000 in
theorem levelsP_any {T : Task} {s : TSl} {w : World} (hT : TaskAt w T s) : Calls Try.prog 17 #[.agg #[.slice s.h.a T.rule.heat.length s.h.cap, .slice s.w.a T.rule.wet.length s.w.cap, .int .i64 T.rule.own, .int .i64 T.rule.feed, .int .i64 T.rule.g0, .int .i64 T.rule.g1, .int .i64 T.rule.g2, .int .i64 T.rule.lost, .int .i64 T.first, .slice s.d.a T.days.length s.d.cap, .int .i64 T.start.lo, .int .i64 T.start.hi, .slice s.t.a T.tests.length s.t.cap]] w (LevelsOut T w) := by
  have HT := Lib.hid hT; clear hT
  obtain ⟨er, her⟩ : ∃ er, er = (D.checkTask T).2.2 := ⟨_, rfl⟩
  have HE := Lib.hid her; clear her
  by_cases h0 : er = 0
  · subst h0
    have HK := Lib.hid (task_ok HE.out.symm).1
    have HV : Hid (∀ W, Below w.heap.size w W → Calls Try.prog 50 #[.agg #[.slice s.h.a T.rule.heat.length s.h.cap, .slice s.w.a T.rule.wet.length s.w.cap, .int .i64 T.rule.own, .int .i64 T.rule.feed, .int .i64 T.rule.g0, .int .i64 T.rule.g1, .int .i64 T.rule.g2, .int .i64 T.rule.lost, .int .i64 T.first, .slice s.d.a T.days.length s.d.cap, .int .i64 T.start.lo, .int .i64 T.start.hi, .slice s.t.a T.tests.length s.t.cap]] W (OpenOut T s W)) := Lib.hid fun W hW => open_any (HT.out.below hW) HE.out.symm
    go_enter Try.func17, Try.ntmps17
    go_wp2_with (fail)
    (with_reducible refine (HV.out _ ?_).mono ?_)
    · repeat' (first | exact Below.refl _ _ | assumption | refine below_drewN ?_ _ | refine Below.drew ?_ | refine Below.alloc ?_ (by first | assumption | omega | (simp <;> omega)) _ | refine Below.setCell ?_ (by first | assumption | omega | (simp <;> omega)) _ | refine Ext2.on (by assumption) ?_)
    rintro e w1 ⟨⟨B, v, rfl, hB, hr, hO⟩, hb1⟩
    have hB1 := Below.trans (Below.alloc (Below.refl w.heap.size w) (Nat.le_refl _) (Obj.cells #[.slice s.h.a T.rule.heat.length s.h.cap, .slice s.w.a T.rule.wet.length s.w.cap, .int .i64 T.rule.own, .int .i64 T.rule.feed, .int .i64 T.rule.g0, .int .i64 T.rule.g1, .int .i64 T.rule.g2, .int .i64 T.rule.lost, .int .i64 T.first, .slice s.d.a T.days.length s.d.cap, .int .i64 T.start.lo, .int .i64 T.start.hi, .slice s.t.a T.tests.length s.t.cap] 31)) (hb1.mono (by simp))
    obtain ⟨f, rfl, hf⟩ := hO.sl
    have hk := known_any (s := s) (f := f) HK.out hr hf (HT.out.tests.below hB1)
    have HKN := Lib.hid hk
    clear hk hr hO hb1 hf
    go_wp2_with (fail)
    refine HKN.out.mono ?_
    rintro e w2 ⟨⟨v, u, rfl, h1, h2⟩, hb2⟩
    have hB2 := hB1.trans (hb2.mono hB1.size)
    have hf := levels_out HE.out.symm (h1.base hB1.size) (h2.base hB1.size) hB2
    obtain ⟨s1, rfl, -⟩ := h1.sl
    obtain ⟨s2, rfl, -⟩ := h2.sl
    have HF := Lib.hid hf
    clear hf h1 h2
    go_wp2_with (fail)
    go_ret3
    exact HF.out
  · have hne : (er == 0) = false := by simp; omega
    have hne2 : (er != 0) = true := by simp; omega
    have HV : Hid (∀ W, Below w.heap.size w W → Calls Try.prog 50 #[.agg #[.slice s.h.a T.rule.heat.length s.h.cap, .slice s.w.a T.rule.wet.length s.w.cap, .int .i64 T.rule.own, .int .i64 T.rule.feed, .int .i64 T.rule.g0, .int .i64 T.rule.g1, .int .i64 T.rule.g2, .int .i64 T.rule.lost, .int .i64 T.first, .slice s.d.a T.days.length s.d.cap, .int .i64 T.start.lo, .int .i64 T.start.hi, .slice s.t.a T.tests.length s.t.cap]] W fun e w' => e = .returned (.tuple #[.pointer none, .int .i64 er]) ∧ Below W.heap.size W w') := Lib.hid fun W hW => by
      have h := open_no (HT.out.below hW) (fun h => h0 (HE.out.trans h)); rwa [← HE.out] at h
    go_enter Try.func17, Try.ntmps17
    go_wp2_with (fail)
    (with_reducible refine (HV.out _ ?_).mono ?_)
    · repeat' (first | exact Below.refl _ _ | assumption | refine below_drewN ?_ _ | refine Below.drew ?_ | refine Below.alloc ?_ (by first | assumption | omega | (simp <;> omega)) _ | refine Below.setCell ?_ (by first | assumption | omega | (simp <;> omega)) _ | refine Ext2.on (by assumption) ?_)
    rintro e w1 ⟨rfl, hb1⟩
    have hB1 := Below.trans (Below.alloc (Below.refl w.heap.size w) (Nat.le_refl _) (Obj.cells #[.slice s.h.a T.rule.heat.length s.h.cap, .slice s.w.a T.rule.wet.length s.w.cap, .int .i64 T.rule.own, .int .i64 T.rule.feed, .int .i64 T.rule.g0, .int .i64 T.rule.g1, .int .i64 T.rule.g2, .int .i64 T.rule.lost, .int .i64 T.first, .slice s.d.a T.days.length s.d.cap, .int .i64 T.start.lo, .int .i64 T.start.hi, .slice s.t.a T.tests.length s.t.cap] 31)) (hb1.mono (by simp))
    have hf := levels_out_no (T := T) (fun h => h0 (HE.out.trans h)) hB1
    rw [← HE.out] at hf
    have HF := Lib.hid hf
    clear hf h0
    go_wp2_with (fail)
    go_ret3
    exact HF.out
end Go.Proofs.Ytfjbgcaogffiaaa
namespace Go.Proofs.Ytfjbgcaogffiaaa
open Go.RowKit D
set_option linter.unusedVariables false
set_option linter.unusedSimpArgs false
attribute [local go_sem high] run_minI run_maxI
attribute [local go_sem] upon2 cls_cell cls_frozen forall_const exists_eq_left'
attribute [local go_sem] FirstUpon
theorem firstDay_off {first : Int} (h0 : 0 ≤ first) (p : Nat → Bool) (n : Nat) : firstDay first p n = if 0 ≤ firstDay 0 p n then first + firstDay 0 p n else -1 := by
  induction n with
  | zero => rfl
  | succ n ih =>
    have h1 := firstDay_rng (first := 0) (Int.le_refl _) (p := p) n
    have h2 := firstDay_rng h0 (p := p) n
    rw [firstDay, firstDay]
    by_cases h : firstDay 0 p n = -1
    · rw [if_neg (by omega : ¬ 0 ≤ firstDay 0 p n)] at ih
      rw [h, ih]
      by_cases hp : p n = true <;> simp [hp] <;> omega
    · rw [if_pos (by omega : 0 ≤ firstDay 0 p n)] at ih
      rw [if_pos (by omega), if_pos h, if_pos (by omega)]; exact ih
set_option maxRecDepth 100000 in
set_option maxHeartbeats 2000000 in
theorem idxS_any {g : Nat} {lb : Array Value} {p : Nat → Bool} {s : Sl} {n : Nat} {fs : Nat → Span} {w : World} (hn : n ≤ 1000000) (hs : RowS w s 2 n (spC fs)) (eg : ∀ args w, (callFunc g args).run Try.prog w = .ok (.enter g args) w)
    (hp : ∀ (i : Nat) (W : World), i < n → Below w.heap.size w W → Calls Try.prog g (#[.agg #[.int .i64 (fs i).lo, .int .i64 (fs i).hi]] ++ lb) W fun e w' => e = .returned (.bool (p i)) ∧ Below W.heap.size W w') :
    Calls Try.prog 93 #[.slice s.a n s.cap, .func (.func g) #[] lb] w fun e w' => e = .returned (.int .i64 (firstDay 0 p n)) ∧ Below w.heap.size w w' := by
  have HP := Lib.hid hp; clear hp
  have hc := hs.le
  have hm := hs.max
  obtain ⟨sa, sc⟩ := s
  dsimp only at hc hm
  have HS := Lib.hid hs; clear hs
  go_enter Try.func93, Try.ntmps93
  go_wp2_with (fail)
  go_loopw [8] (fun i wr => ∃ k : Nat, k ≤ n ∧ i = .int .i64 k ∧ (∀ j, j < k → p j = false) ∧ Below w.heap.size w wr) (fun i _ => n - (intOf i).toNat)
  case atStart => exact ⟨0, Nat.zero_le _, rfl, fun j h => absurd h (by omega), Below.refl _ _⟩
  case round =>
    obtain ⟨k, hk, rfl, hb, hB⟩ := hrel
    have HB := Lib.hid hb; clear hb
    by_cases hlt : k < n
    · obtain ⟨b, off, ha, hr⟩ := (HS.out.below hB).row (by omega) (by omega)
      dsimp only at ha
      subst ha
      obtain ⟨c0, c1⟩ := hr.two hlt
      simp only [spC] at c0 c1
      have HPK := Lib.hid (HP.out k wr hlt hB)
      have h0 : (0 : Int) ≤ (k : Int) := by omega
      have h1 : (k : Int) < (n : Int) := by omega
      clear hr
      go_wp2_with (fail)
      refine HPK.out.mono ?_
      rintro e w1 ⟨rfl, hb1⟩
      have B1 : Below w.heap.size w w1 := hB.trans (hb1.mono hB.size)
      clear hb1 c0 c1
      have hp' : p k = true ∨ p k = false := by cases p k <;> simp
      rcases hp' with h | h
      · rw [h]
        have HM : Hid (firstDay 0 p n = (k : Int)) := Lib.hid (by rw [firstDay_some (Int.le_refl _) h HB.out hlt]; omega)
        clear h
        go_wp2_with (fail)
        go_ret
        rw [HM.out]
        exact ⟨rfl, B1⟩
      · rw [h]
        have HM := Lib.hid h; clear h
        go_wp2_with (fail)
        go_roundw
        case rel => exact ⟨k + 1, by omega, by go_num, below_succ HB.out HM.out, B1⟩
        case measure => simp [intOf]; omega
    · obtain rfl : k = n := by omega
      have HM : Hid (firstDay 0 p k = -1) := Lib.hid (firstDay_none HB.out)
      go_wp2_with (fail)
      go_ret
      rw [HM.out]
      exact ⟨rfl, hB⟩
set_option maxRecDepth 100000 in
set_option maxHeartbeats 2000000 in
theorem lost2_any {T : Task} {s : TSl} {f : Sl} {bx B nf : Nat} {a : Span} {W : World} (hx : W.heap[bx]? = some (.cells #[.pointer (some ⟨B, 0, none⟩)] 88 (0, 0))) (hr : W.heap[B]? = some (reelO T s f nf)) :
    Calls Try.prog 94 (#[.agg #[.int .i64 a.lo, .int .i64 a.hi]] ++ #[.pointer (some ⟨bx, 0, none⟩)]) W fun e w' => e = .returned (.bool (decide (T.rule.lost ≤ a.hi))) ∧ Below W.heap.size W w' := by
  have lx := blk_lt hx; have lr := blk_lt hr
  unfold reelO at hr
  have hx1 := blk_alloc hx (.cells #[.int .i64 a.lo, .int .i64 a.hi] 28 (0, 0))
  have hr1 := blk_alloc hr (.cells #[.int .i64 a.lo, .int .i64 a.hi] 28 (0, 0))
  clear hx hr
  go_enter Try.func94, Try.ntmps94
  go_wp2_with (fail)
  refine wp_name ?_
  intro w1 h1
  rw [← h1] at hx1 hr1
  have b1 : w1.heap[W.heap.size]? = some (.cells #[.int .i64 a.lo, .int .i64 a.hi] 28 (0, 0)) := by rw [h1]; exact blk_new _ _
  have hB1 : Below W.heap.size W w1 := by rw [h1]; exact below_alloc' _ _
  clear h1
  have q1c := cell_blk b1
  have q1f := frz_blk b1
  have qxc := cell_blk hx1
  have qxf := frz_blk hx1
  have qrc := cell_blk hr1
  have qrf := frz_blk hr1
  refine region_ev [] [0, 1, 2, 3, 4, 5, 6, 7, 8] [] [] (by kernel_rfl) (by kernel_rfl) (by intro c a d v w h; cases d <;> exact h) ?_
  simp only [picks, List.drop_succ_cons, List.drop_zero]
  repeat (refine wpQ0_step (fun K hK => ?_); go_simp; (refine hK _ ?_; clear hK K))
  refine wpQ0_nil ?_
  repeat ((with_reducible refine wpQ2_step (fun K hK => ?_)); go_simp; first | ((with_reducible refine hK _ ?_); clear hK K) | (apply Exists.intro; refine ⟨fun x => ?_, hK _ ?_⟩; (fail); clear hK K))
  refine wpQ2_nil ?_
  refine Events.none_ fun w2 hg2 => ?_
  simp only [picks, List.drop_succ_cons, List.drop_zero]
  go_wp2_with (fail)
  go_ret
  exact ⟨ret_bool (by simp), hB1.trans (Below.mono hg2 hB1.size)⟩
set_option maxRecDepth 100000 in
set_option maxHeartbeats 2000000 in
theorem lost3_any {T : Task} {s : TSl} {f : Sl} {bx B nf : Nat} {a : Span} {W : World} (hx : W.heap[bx]? = some (.cells #[.pointer (some ⟨B, 0, none⟩)] 88 (0, 0))) (hr : W.heap[B]? = some (reelO T s f nf)) :
    Calls Try.prog 95 (#[.agg #[.int .i64 a.lo, .int .i64 a.hi]] ++ #[.pointer (some ⟨bx, 0, none⟩)]) W fun e w' => e = .returned (.bool (decide (T.rule.lost ≤ a.lo))) ∧ Below W.heap.size W w' := by
  have lx := blk_lt hx; have lr := blk_lt hr
  unfold reelO at hr
  have hx1 := blk_alloc hx (.cells #[.int .i64 a.lo, .int .i64 a.hi] 28 (0, 0))
  have hr1 := blk_alloc hr (.cells #[.int .i64 a.lo, .int .i64 a.hi] 28 (0, 0))
  clear hx hr
  go_enter Try.func95, Try.ntmps95
  go_wp2_with (fail)
  refine wp_name ?_
  intro w1 h1
  rw [← h1] at hx1 hr1
  have b1 : w1.heap[W.heap.size]? = some (.cells #[.int .i64 a.lo, .int .i64 a.hi] 28 (0, 0)) := by rw [h1]; exact blk_new _ _
  have hB1 : Below W.heap.size W w1 := by rw [h1]; exact below_alloc' _ _
  clear h1
  have q1c := cell_blk b1
  have q1f := frz_blk b1
  have qxc := cell_blk hx1
  have qxf := frz_blk hx1
  have qrc := cell_blk hr1
  have qrf := frz_blk hr1
  refine region_ev [] [0, 1, 2, 3, 4, 5, 6, 7, 8] [] [] (by kernel_rfl) (by kernel_rfl) (by intro c a d v w h; cases d <;> exact h) ?_
  simp only [picks, List.drop_succ_cons, List.drop_zero]
  repeat (refine wpQ0_step (fun K hK => ?_); go_simp; (refine hK _ ?_; clear hK K))
  refine wpQ0_nil ?_
  repeat ((with_reducible refine wpQ2_step (fun K hK => ?_)); go_simp; first | ((with_reducible refine hK _ ?_); clear hK K) | (apply Exists.intro; refine ⟨fun x => ?_, hK _ ?_⟩; (fail); clear hK K))
  refine wpQ2_nil ?_
  refine Events.none_ fun w2 hg2 => ?_
  simp only [picks, List.drop_succ_cons, List.drop_zero]
  go_wp2_with (fail)
  go_ret
  exact ⟨ret_bool (by simp), hB1.trans (Below.mono hg2 hB1.size)⟩
set_option maxRecDepth 100000 in
set_option maxHeartbeats 2000000 in
theorem lost1_any {T : Task} {s : TSl} {f sl : Sl} {bx ba B nf n g : Nat} {lb : Array Value} {p : Nat → Bool} {fs : Nat → Span} {w : World} (hk : 0 ≤ T.first ∧ T.first ≤ 80000) (hn : n ≤ 1000) (hx : w.heap[bx]? = some (.cells #[.pointer (some ⟨B, 0, none⟩)] 88 (0, 0))) (hr : w.heap[B]? = some (reelO T s f nf))
    (ha : w.heap[ba]? = some (.cells #[.slice sl.a n sl.cap] 32 (0, 0))) (hs : RowS w sl 2 n (spC fs)) (eg : ∀ args w, (callFunc g args).run Try.prog w = .ok (.enter g args) w)
    (hp : ∀ (i : Nat) (W : World), i < n → Below w.heap.size w W → Calls Try.prog g (#[.agg #[.int .i64 (fs i).lo, .int .i64 (fs i).hi]] ++ lb) W fun e w' => e = .returned (.bool (p i)) ∧ Below W.heap.size W w') :
    Calls Try.prog 92 (#[.func (.func g) #[] lb] ++ #[.pointer (some ⟨ba, 0, none⟩), .pointer (some ⟨bx, 0, none⟩)]) w fun e w' => e = .returned (.int .i64 (firstDay T.first p n)) ∧ Below w.heap.size w w' := by
  have HI := Lib.hid (idxS_any (by omega) hs eg hp)
  have HX := Lib.hid hx; have HR := Lib.hid hr
  obtain ⟨k, hk0⟩ : ∃ k, k = firstDay 0 p n := ⟨_, rfl⟩
  have hoff := firstDay_off hk.1 p n
  have hrg := firstDay_rng (first := 0) (Int.le_refl _) (p := p) n
  rw [← hk0] at hoff hrg HI
  have HOFF := Lib.hid hoff
  clear hs eg hp hx hr hk0 hoff
  have qac := cell_blk ha
  have qaf := frz_blk ha
  go_enter Try.func92, Try.ntmps92
  go_wp2_with (fail)
  refine HI.out.mono ?_
  rintro e w1 ⟨rfl, hb1⟩
  have hx := Ext2.blk hb1 HX.out
  have hr := Ext2.blk hb1 HR.out
  unfold reelO at hr
  clear qac qaf ha
  have qxc := cell_blk hx
  have qxf := frz_blk hx
  have qrc := cell_blk hr
  have qrf := frz_blk hr
  by_cases h : 0 ≤ k
  · have HE := HOFF.out
    rw [if_pos h] at HE
    have HE := Lib.hid HE
    have w1' : IntKind.i64.wrap (T.first + k) = T.first + k := IntWalk.i64_in _ (by omega)
    go_wp2_with (fail)
    go_ret
    rw [HE.out]
    exact ⟨rfl, hb1⟩
  · have HE := HOFF.out
    rw [if_neg h] at HE
    have HE := Lib.hid HE
    go_wp2_with (fail)
    go_ret
    rw [HE.out]
    exact ⟨rfl, hb1⟩
end Go.Proofs.Ytfjbgcaogffiaaa
namespace Go.Proofs.Ytfjbgcaogffiaaa
open Go.RowKit D
set_option linter.unusedVariables false
set_option linter.unusedSimpArgs false
attribute [local go_sem high] run_minI run_maxI
attribute [local go_sem] upon2 cls_cell cls_frozen forall_const exists_eq_left'
attribute [local go_sem] FirstUpon
set_option maxRecDepth 100000 in
set_option maxHeartbeats 2000000 in
theorem lost_any {T : Task} {s : TSl} {f : Sl} {B : Nat} {w : World} (hk : TaskOk T) (hB : w.heap[B]? = some (reelO T s f T.days.length)) (hf : RowS w f 2 T.days.length (spC (spanD (forces T)))) (ht : TestsS w s.t T.tests) :
    Calls Try.prog 61 #[.pointer (some ⟨B, 0, none⟩)] w fun e w' => e = .returned (.agg #[.int .i64 (lostT T).lo, .int .i64 (lostT T).hi]) ∧ Below w.heap.size w w' := by
  have hBl := blk_lt hB
  have HK : Hid (∀ W, Ext2 w W → Calls Try.prog 51 #[.pointer (some ⟨B, 0, none⟩)] W (KnownOut T W)) := Lib.hid fun W hW => known_any hk (Ext2.blk hW hB) (hf.below hW) (ht.below hW)
  have HB := Lib.hid hB; have HT := Lib.hid hk
  have hnd := hk.nd
  have hfst := hk.first
  obtain ⟨L, hL⟩ : ∃ L, L = lostT T := ⟨_, rfl⟩
  rw [← hL]
  have HL := Lib.hid hL
  clear hB hf ht hk hL
  go_enter Try.func61, Try.ntmps61
  go_wp2_with (fail)
  (with_reducible refine (HK.out _ ?_).mono ?_)
  · exact Ext2.cr _ _ _ (below_alloc' _ _) (below_alloc' _ _)
  rintro e w1 ⟨⟨v, u, rfl, h1, h2⟩, hb1⟩
  have x0 : w1.heap[w.heap.size]? = some (.cells #[.pointer (some ⟨B, 0, none⟩)] 88 (0, 0)) := below_blk hb1 (by repeat' (first | (with_reducible assumption) | (with_reducible refine blk_set_ne ?_ ?_) | (with_reducible exact blk_new _ _) | (with_reducible refine blk_new' _ _ (by first | (with_reducible rfl) | (simp; done) | (simp <;> omega))) | (with_reducible refine blk_alloc ?_ _) | (with_reducible refine blk_drew ?_) | (with_reducible refine blk_drewN ?_ _) | (with_reducible refine Ext2.blk (by assumption) ?_) | omega | (simp <;> omega) | exact blk_set (by assumption) _ _)) (by simp; omega)
  have x1 : w1.heap[w.heap.size + 1]? = some (Obj.cells #[.int .i64 0, .int .i64 0] 28) := below_blk hb1 (by repeat' (first | (with_reducible assumption) | (with_reducible refine blk_set_ne ?_ ?_) | (with_reducible exact blk_new _ _) | (with_reducible refine blk_new' _ _ (by first | (with_reducible rfl) | (simp; done) | (simp <;> omega))) | (with_reducible refine blk_alloc ?_ _) | (with_reducible refine blk_drew ?_) | (with_reducible refine blk_drewN ?_ _) | (with_reducible refine Ext2.blk (by assumption) ?_) | omega | (simp <;> omega) | exact blk_set (by assumption) _ _)) (by simp)
  have hB1 : Below w.heap.size w w1 := Below.trans (by repeat' (first | exact Below.refl _ _ | assumption | refine below_drewN ?_ _ | refine Below.drew ?_ | refine Below.alloc ?_ (by first | assumption | omega | (simp <;> omega)) _ | refine Below.setCell ?_ (by first | assumption | omega | (simp <;> omega)) _ | refine Ext2.on (by assumption) ?_)) (hb1.mono (by simp; omega))
  have hz1 := blk_lt x1
  obtain ⟨sl, rfl, hrow⟩ := h1.sl
  obtain ⟨su, rfl, -⟩ := h2.sl
  have HX0 := Lib.hid x0; have HX1 := Lib.hid x1; have HROW := Lib.hid hrow; have HB1 := Lib.hid hB1
  clear h1 h2 hb1 x0 x1 hrow hB1
  go_wp2_with (fail)
  refine calls_name ?_
  intro w2 h2
  have hE2 : Ext2 w1 w2 := by rw [h2]; exact below_alloc' _ _
  have a2 : w2.heap[w1.heap.size]? = some (.cells #[.slice sl.a (T.days.length + 1) sl.cap] 32 (0, 0)) := by rw [h2]; exact blk_new _ _
  have hz2 := blk_lt a2
  have hD1 : ∀ W, Ext2 w2 W → Calls Try.prog 92 #[.func (.func 94) #[] #[.pointer (some ⟨w.heap.size, 0, none⟩)], .pointer (some ⟨w1.heap.size, 0, none⟩), .pointer (some ⟨w.heap.size, 0, none⟩)] W fun e w' => e = .returned (.int .i64 (lostT T).lo) ∧ Below W.heap.size W w' := fun W hW => by
    have hEW : Ext2 w1 W := hE2.trans (Below.mono hW hE2.size)
    have hrB : w1.heap[B]? = some (reelO T s f T.days.length) := below_blk HB1.out HB.out hBl
    exact lost1_any (fs := lv T) (p := lostP1 T) ⟨hfst.1, by omega⟩ (by omega) (Ext2.blk hEW HX0.out) (Ext2.blk hEW hrB) (Ext2.blk hW a2) (HROW.out.below hEW) (enters_of Try.func94 (by kernel_rfl) rfl)
      fun i W' hi hW' => lost2_any (Ext2.blk (hEW.trans (Below.mono hW' hEW.size)) HX0.out) (Ext2.blk (hEW.trans (Below.mono hW' hEW.size)) hrB)
  have hD2 : ∀ W, Ext2 w2 W → Calls Try.prog 92 #[.func (.func 95) #[] #[.pointer (some ⟨w.heap.size, 0, none⟩)], .pointer (some ⟨w1.heap.size, 0, none⟩), .pointer (some ⟨w.heap.size, 0, none⟩)] W fun e w' => e = .returned (.int .i64 (lostT T).hi) ∧ Below W.heap.size W w' := fun W hW => by
    have hEW : Ext2 w1 W := hE2.trans (Below.mono hW hE2.size)
    have hrB : w1.heap[B]? = some (reelO T s f T.days.length) := below_blk HB1.out HB.out hBl
    exact lost1_any (fs := lv T) (p := lostP2 T) ⟨hfst.1, by omega⟩ (by omega) (Ext2.blk hEW HX0.out) (Ext2.blk hEW hrB) (Ext2.blk hW a2) (HROW.out.below hEW) (enters_of Try.func95 (by kernel_rfl) rfl)
      fun i W' hi hW' => lost3_any (Ext2.blk (hEW.trans (Below.mono hW' hEW.size)) HX0.out) (Ext2.blk (hEW.trans (Below.mono hW' hEW.size)) hrB)
  have HD1 := Lib.hid hD1; have HD2 := Lib.hid hD2
  have hb2 : Below w.heap.size w w2 := HB1.out.trans (Below.mono hE2 (by omega))
  have x1 := Ext2.blk hE2 HX1.out
  rw [← HL.out] at HD1 HD2
  clear h2 hD1 hD2 a2 hE2
  have hx0 : Ext2 w2 w2 := Below.refl _ _
  (with_reducible refine (HD1.out _ hx0).mono ?_)
  rintro e w3 ⟨rfl, hg3⟩
  go_wp2_with (fail)
  have hx3 : Ext2 w2 w3 := hg3
  (with_reducible refine (HD2.out _ hx3).mono ?_)
  rintro e w4 ⟨rfl, hg4⟩
  have hE4 : Ext2 w2 w4 := Below.trans hg3 (Below.mono hg4 hg3.size)
  have x1 := Ext2.blk hE4 x1
  have hb4 := hb2.trans (Below.mono hE4 hb2.size)
  have q1c := cell_blk x1
  have q1f := frz_blk x1
  go_wp2_with (fail)
  have r1 : ((w4.setCell ⟨w.heap.size + 1, 0, none⟩ (.int .i64 L.lo)).setCell ⟨w.heap.size + 1, 1, none⟩ (.int .i64 L.hi)).heap[w.heap.size + 1]? = some (Obj.cells #[.int .i64 L.lo, .int .i64 L.hi] 28) := Eq.trans (blk_set (blk_set x1 _ _) _ _) rfl
  refine bodyPost_ret (v := .agg #[.int .i64 L.lo, .int .i64 L.hi]) ?_ rfl ⟨rfl, below_set (below_set hb4 (by omega)) (by omega)⟩
  have zc := cell_blk r1
  have zf := frz_blk r1
  simp [results, Try.results61, go_sem, zc]
def lostOut (T : Task) : Span := if (checkTask T).2.2 = 0 then lostT T else ⟨0, 0⟩
set_option maxRecDepth 100000 in
set_option maxHeartbeats 2000000 in
theorem lostP_any {T : Task} {s : TSl} {w : World} (hT : TaskAt w T s) : Calls Try.prog 31 #[.agg #[.slice s.h.a T.rule.heat.length s.h.cap, .slice s.w.a T.rule.wet.length s.w.cap, .int .i64 T.rule.own, .int .i64 T.rule.feed, .int .i64 T.rule.g0, .int .i64 T.rule.g1, .int .i64 T.rule.g2, .int .i64 T.rule.lost, .int .i64 T.first, .slice s.d.a T.days.length s.d.cap, .int .i64 T.start.lo, .int .i64 T.start.hi, .slice s.t.a T.tests.length s.t.cap]] w fun e w' => e = .returned (.tuple #[.agg #[.int .i64 (lostOut T).lo, .int .i64 (lostOut T).hi], .int .i64 (checkTask T).2.2]) ∧ Below w.heap.size w w' := by
  have HT := Lib.hid hT; clear hT
  obtain ⟨er, her⟩ : ∃ er, er = (D.checkTask T).2.2 := ⟨_, rfl⟩
  obtain ⟨L, hL⟩ : ∃ L, L = lostOut T := ⟨_, rfl⟩
  rw [← her, ← hL]
  have HE := Lib.hid her; have HL := Lib.hid hL; clear her hL
  by_cases h0 : er = 0
  · subst h0
    have HK := Lib.hid (task_ok HE.out.symm).1
    have HV : Hid (∀ W, Below w.heap.size w W → Calls Try.prog 50 #[.agg #[.slice s.h.a T.rule.heat.length s.h.cap, .slice s.w.a T.rule.wet.length s.w.cap, .int .i64 T.rule.own, .int .i64 T.rule.feed, .int .i64 T.rule.g0, .int .i64 T.rule.g1, .int .i64 T.rule.g2, .int .i64 T.rule.lost, .int .i64 T.first, .slice s.d.a T.days.length s.d.cap, .int .i64 T.start.lo, .int .i64 T.start.hi, .slice s.t.a T.tests.length s.t.cap]] W (OpenOut T s W)) := Lib.hid fun W hW => open_any (HT.out.below hW) HE.out.symm
    have HL2 : Hid (lostT T = L) := Lib.hid (by rw [HL.out, lostOut, if_pos HE.out.symm])
    go_enter Try.func31, Try.ntmps31
    go_wp2_with (fail)
    (with_reducible refine (HV.out _ ?_).mono ?_)
    · repeat' (first | exact Below.refl _ _ | assumption | refine below_drewN ?_ _ | refine Below.drew ?_ | refine Below.alloc ?_ (by first | assumption | omega | (simp <;> omega)) _ | refine Below.setCell ?_ (by first | assumption | omega | (simp <;> omega)) _ | refine Ext2.on (by assumption) ?_)
    rintro e w1 ⟨⟨B, v, rfl, hB, hr, hO⟩, hb1⟩
    have x1 : w1.heap[w.heap.size + 1]? = some (Obj.cells #[.int .i64 0, .int .i64 0] 28) := below_blk hb1 (by repeat' (first | (with_reducible assumption) | (with_reducible refine blk_set_ne ?_ ?_) | (with_reducible exact blk_new _ _) | (with_reducible refine blk_new' _ _ (by first | (with_reducible rfl) | (simp; done) | (simp <;> omega))) | (with_reducible refine blk_alloc ?_ _) | (with_reducible refine blk_drew ?_) | (with_reducible refine blk_drewN ?_ _) | (with_reducible refine Ext2.blk (by assumption) ?_) | omega | (simp <;> omega) | exact blk_set (by assumption) _ _)) (by simp)
    have hB1 : Below w.heap.size w w1 := Below.trans (by repeat' (first | exact Below.refl _ _ | assumption | refine below_drewN ?_ _ | refine Below.drew ?_ | refine Below.alloc ?_ (by first | assumption | omega | (simp <;> omega)) _ | refine Below.setCell ?_ (by first | assumption | omega | (simp <;> omega)) _ | refine Ext2.on (by assumption) ?_)) (hb1.mono (by simp; omega))
    obtain ⟨f, rfl, hf⟩ := hO.sl
    have hk := lost_any (s := s) (f := f) HK.out hr hf (HT.out.tests.below hB1)
    rw [HL2.out] at hk
    have HKN := Lib.hid hk
    clear hk hr hO hb1 hf
    go_wp2_with (fail)
    refine HKN.out.mono ?_
    rintro e w2 ⟨rfl, hb2⟩
    have hB2 := hB1.trans (hb2.mono hB1.size)
    have x1 := Ext2.blk hb2 x1
    have q1c := cell_blk x1
    have q1f := frz_blk x1
    go_wp2_with (fail)
    have r1 : ((w2.setCell ⟨w.heap.size + 1, 0, none⟩ (.int .i64 L.lo)).setCell ⟨w.heap.size + 1, 1, none⟩ (.int .i64 L.hi)).heap[w.heap.size + 1]? = some (Obj.cells #[.int .i64 L.lo, .int .i64 L.hi] 28) := Eq.trans (blk_set (blk_set x1 _ _) _ _) rfl
    refine bodyPost_ret (v := .tuple #[.agg #[.int .i64 L.lo, .int .i64 L.hi], .int .i64 0]) ?_ rfl ⟨rfl, below_set (below_set hB2 (by omega)) (by omega)⟩
    have zc := cell_blk r1
    have zf := frz_blk r1
    simp [results, Try.results31, go_sem, zc]
  · have hne : (er == 0) = false := by simp; omega
    have hne2 : (er != 0) = true := by simp; omega
    have HL2 : Hid (L = ⟨0, 0⟩) := Lib.hid (by rw [HL.out, lostOut, if_neg (fun h => h0 (HE.out.trans h))])
    have HV : Hid (∀ W, Below w.heap.size w W → Calls Try.prog 50 #[.agg #[.slice s.h.a T.rule.heat.length s.h.cap, .slice s.w.a T.rule.wet.length s.w.cap, .int .i64 T.rule.own, .int .i64 T.rule.feed, .int .i64 T.rule.g0, .int .i64 T.rule.g1, .int .i64 T.rule.g2, .int .i64 T.rule.lost, .int .i64 T.first, .slice s.d.a T.days.length s.d.cap, .int .i64 T.start.lo, .int .i64 T.start.hi, .slice s.t.a T.tests.length s.t.cap]] W fun e w' => e = .returned (.tuple #[.pointer none, .int .i64 er]) ∧ Below W.heap.size W w') := Lib.hid fun W hW => by
      have h := open_no (HT.out.below hW) (fun h => h0 (HE.out.trans h)); rwa [← HE.out] at h
    go_enter Try.func31, Try.ntmps31
    go_wp2_with (fail)
    (with_reducible refine (HV.out _ ?_).mono ?_)
    · repeat' (first | exact Below.refl _ _ | assumption | refine below_drewN ?_ _ | refine Below.drew ?_ | refine Below.alloc ?_ (by first | assumption | omega | (simp <;> omega)) _ | refine Below.setCell ?_ (by first | assumption | omega | (simp <;> omega)) _ | refine Ext2.on (by assumption) ?_)
    rintro e w1 ⟨rfl, hb1⟩
    have x1 : w1.heap[w.heap.size + 1]? = some (Obj.cells #[.int .i64 0, .int .i64 0] 28) := below_blk hb1 (by repeat' (first | (with_reducible assumption) | (with_reducible refine blk_set_ne ?_ ?_) | (with_reducible exact blk_new _ _) | (with_reducible refine blk_new' _ _ (by first | (with_reducible rfl) | (simp; done) | (simp <;> omega))) | (with_reducible refine blk_alloc ?_ _) | (with_reducible refine blk_drew ?_) | (with_reducible refine blk_drewN ?_ _) | (with_reducible refine Ext2.blk (by assumption) ?_) | omega | (simp <;> omega) | exact blk_set (by assumption) _ _)) (by simp)
    have hB1 : Below w.heap.size w w1 := Below.trans (by repeat' (first | exact Below.refl _ _ | assumption | refine below_drewN ?_ _ | refine Below.drew ?_ | refine Below.alloc ?_ (by first | assumption | omega | (simp <;> omega)) _ | refine Below.setCell ?_ (by first | assumption | omega | (simp <;> omega)) _ | refine Ext2.on (by assumption) ?_)) (hb1.mono (by simp; omega))
    clear h0 hb1
    have q1c := cell_blk x1
    have q1f := frz_blk x1
    go_wp2_with (fail)
    have r1 : ((w1.setCell ⟨w.heap.size + 1, 0, none⟩ (.int .i64 0)).setCell ⟨w.heap.size + 1, 1, none⟩ (.int .i64 0)).heap[w.heap.size + 1]? = some (Obj.cells #[.int .i64 0, .int .i64 0] 28) := Eq.trans (blk_set (blk_set x1 _ _) _ _) rfl
    refine bodyPost_ret (v := .tuple #[.agg #[.int .i64 (Span.mk 0 0).lo, .int .i64 (Span.mk 0 0).hi], .int .i64 er]) ?_ rfl ⟨by rw [HL2.out], below_set (below_set hB1 (by omega)) (by omega)⟩
    have zc := cell_blk r1
    have zf := frz_blk r1
    simp [results, Try.results31, go_sem, zc]
end Go.Proofs.Ytfjbgcaogffiaaa
