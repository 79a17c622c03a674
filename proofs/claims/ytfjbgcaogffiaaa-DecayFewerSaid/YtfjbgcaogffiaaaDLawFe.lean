/-
  The law DecayFewer, walked.
-/
import Derived.Test.YtfjbgcaogffiaaaDSpF
namespace Go.Proofs.Ytfjbgcaogffiaaa
open Go.RowKit D
set_option linter.unusedVariables false
set_option linter.unusedSimpArgs false
attribute [local go_sem high] run_minI run_maxI
attribute [local go_sem] upon2 cls_cell cls_frozen forall_const exists_eq_left'
attribute [local go_sem] FirstUpon atBlk_cell
attribute [local go_sem high] run_tests_from run_tests_to
set_option maxRecDepth 100000 in
set_option maxHeartbeats 2000000 in
theorem fewer_no {T : Task} {s : TSl} {p : Int} {w : World} (hT : TaskAt w T s) (h0 : (D.checkTask T).2.2 ≠ 0) : Calls Try.prog 9 #[.agg #[.slice s.h.a T.rule.heat.length s.h.cap, .slice s.w.a T.rule.wet.length s.w.cap, .int .i64 T.rule.own, .int .i64 T.rule.feed, .int .i64 T.rule.g0, .int .i64 T.rule.g1, .int .i64 T.rule.g2, .int .i64 T.rule.lost, .int .i64 T.first, .slice s.d.a T.days.length s.d.cap, .int .i64 T.start.lo, .int .i64 T.start.hi, .slice s.t.a T.tests.length s.t.cap], .int .u8 p] w fun e w' => e = .returned (.bool true) ∧ Below w.heap.size w w' := by
  obtain ⟨p3, hp⟩ : ∃ p, p = (D.checkTask T).2.2 := ⟨_, rfl⟩
  have HP : Hid (∀ W, Below w.heap.size w W → Calls Try.prog 17 #[.agg #[.slice s.h.a T.rule.heat.length s.h.cap, .slice s.w.a T.rule.wet.length s.w.cap, .int .i64 T.rule.own, .int .i64 T.rule.feed, .int .i64 T.rule.g0, .int .i64 T.rule.g1, .int .i64 T.rule.g2, .int .i64 T.rule.lost, .int .i64 T.first, .slice s.d.a T.days.length s.d.cap, .int .i64 T.start.lo, .int .i64 T.start.hi, .slice s.t.a T.tests.length s.t.cap]] W fun e w' => (∃ s1 s2 : Sl, e = .returned (.tuple #[.slice s1.a 0 s1.cap, .slice s2.a 0 s2.cap, .int .i64 p3])) ∧ Below W.heap.size W w') := Lib.hid fun W hW => by
    rw [hp]; exact levels_no (hT.below hW) h0
  have HA : Hid (∀ W, Calls Try.prog 21 #[] W fun e w' => e = .returned (.bool true) ∧ Below W.heap.size W w') := Lib.hid fun W => awake_any W
  rw [← hp] at h0
  have hne2 : (p3 != 0) = true := by simp [h0]
  clear hT hp
  go_enter Try.func9, Try.ntmps9
  go_wp2_with (fail)
  (with_reducible refine (HP.out _ ?_).mono ?_)
  · repeat' (first | exact Below.refl _ _ | assumption | refine below_drewN ?_ _ | refine Below.drew ?_ | refine Below.alloc ?_ (by first | assumption | omega | (simp <;> omega)) _ | refine Below.setCell ?_ (by first | assumption | omega | (simp <;> omega)) _ | refine Ext2.on (by assumption) ?_)
  rintro e w1 ⟨⟨s1, s2, rfl⟩, hb1⟩
  have hB1 : Below w.heap.size w w1 := Below.trans (by repeat' (first | exact Below.refl _ _ | assumption | refine below_drewN ?_ _ | refine Below.drew ?_ | refine Below.alloc ?_ (by first | assumption | omega | (simp <;> omega)) _ | refine Below.setCell ?_ (by first | assumption | omega | (simp <;> omega)) _ | refine Ext2.on (by assumption) ?_)) (hb1.mono (by simp))
  clear hb1
  go_wp2_with (fail)
  (with_reducible refine (HA.out _).mono ?_)
  rintro e w4 ⟨rfl, hb4⟩
  have hB4 := below_ext hB1 hb4
  go_wp2_with (fail)
  go_ret
  exact ⟨rfl, hB4⟩
set_option maxRecDepth 100000 in
set_option maxHeartbeats 2000000 in
theorem fewer_nil {T : Task} {s : TSl} {p : Int} {w : World} (hT : TaskAt w T s) (h0 : (D.checkTask T).2.2 = 0) (hn : T.tests.length = 0) : Calls Try.prog 9 #[.agg #[.slice s.h.a T.rule.heat.length s.h.cap, .slice s.w.a T.rule.wet.length s.w.cap, .int .i64 T.rule.own, .int .i64 T.rule.feed, .int .i64 T.rule.g0, .int .i64 T.rule.g1, .int .i64 T.rule.g2, .int .i64 T.rule.lost, .int .i64 T.first, .slice s.d.a T.days.length s.d.cap, .int .i64 T.start.lo, .int .i64 T.start.hi, .slice s.t.a T.tests.length s.t.cap], .int .u8 p] w fun e w' => e = .returned (.bool true) ∧ Below w.heap.size w w' := by
  have HP : Hid (∀ W, Below w.heap.size w W → Calls Try.prog 17 #[.agg #[.slice s.h.a T.rule.heat.length s.h.cap, .slice s.w.a T.rule.wet.length s.w.cap, .int .i64 T.rule.own, .int .i64 T.rule.feed, .int .i64 T.rule.g0, .int .i64 T.rule.g1, .int .i64 T.rule.g2, .int .i64 T.rule.lost, .int .i64 T.first, .slice s.d.a T.days.length s.d.cap, .int .i64 T.start.lo, .int .i64 T.start.hi, .slice s.t.a T.tests.length s.t.cap]] W _) := Lib.hid fun W hW => levels_yes (hT.below hW) h0
  have HA : Hid (∀ W, Calls Try.prog 21 #[] W fun e w' => e = .returned (.bool true) ∧ Below W.heap.size W w') := Lib.hid fun W => awake_any W
  clear hT
  rw [hn] at HP ⊢
  clear hn h0
  go_enter Try.func9, Try.ntmps9
  go_wp2_with (fail)
  (with_reducible refine (HP.out _ ?_).mono ?_)
  · repeat' (first | exact Below.refl _ _ | assumption | refine below_drewN ?_ _ | refine Below.drew ?_ | refine Below.alloc ?_ (by first | assumption | omega | (simp <;> omega)) _ | refine Below.setCell ?_ (by first | assumption | omega | (simp <;> omega)) _ | refine Ext2.on (by assumption) ?_)
  rintro e w1 ⟨⟨⟨la, lc⟩, s2, rfl, -, -⟩, hb1⟩
  have hB1 : Below w.heap.size w w1 := Below.trans (by repeat' (first | exact Below.refl _ _ | assumption | refine below_drewN ?_ _ | refine Below.drew ?_ | refine Below.alloc ?_ (by first | assumption | omega | (simp <;> omega)) _ | refine Below.setCell ?_ (by first | assumption | omega | (simp <;> omega)) _ | refine Ext2.on (by assumption) ?_)) (hb1.mono (by simp))
  have x0 : w1.heap[w.heap.size]? = some (Obj.cells #[.slice s.h.a T.rule.heat.length s.h.cap, .slice s.w.a T.rule.wet.length s.w.cap, .int .i64 T.rule.own, .int .i64 T.rule.feed, .int .i64 T.rule.g0, .int .i64 T.rule.g1, .int .i64 T.rule.g2, .int .i64 T.rule.lost, .int .i64 T.first, .slice s.d.a T.days.length s.d.cap, .int .i64 T.start.lo, .int .i64 T.start.hi, .slice s.t.a 0 s.t.cap] 31) := below_blk hb1 (by repeat' (first | (with_reducible assumption) | (with_reducible refine blk_set_ne ?_ ?_) | (with_reducible exact blk_new _ _) | (with_reducible refine blk_new' _ _ (by first | (with_reducible rfl) | (simp; done) | (simp <;> omega))) | (with_reducible refine blk_alloc ?_ _) | (with_reducible refine blk_drew ?_) | (with_reducible refine blk_drewN ?_ _) | (with_reducible refine Ext2.blk (by assumption) ?_) | omega | (simp <;> omega) | exact blk_set (by assumption) _ _)) (by first | (simp; done) | (simp; omega))
  clear hb1
  have q0c := cell_blk x0
  have q0f := frz_blk x0
  go_wp2_with (fail)
  (with_reducible refine (HA.out _).mono ?_)
  rintro e w4 ⟨rfl, hb4⟩
  have hB4 := below_ext hB1 hb4
  go_wp2_with (fail)
  go_ret
  exact ⟨rfl, hB4⟩
theorem less_at {T : Task} {k i : Nat} (hk : k < T.tests.length) : testD (lessT T k).tests i = if i < k then testD T.tests i else testD T.tests (i + 1) := by
  unfold lessT testD
  simp only [List.getD_eq_getElem?_getD]
  by_cases h : i < k
  · rw [if_pos h, List.getElem?_append_left (by simp; omega), List.getElem?_take, if_pos h]
  · rw [if_neg h, List.getElem?_append_right (by simp; omega), List.getElem?_drop]
    congr 2
    simp; omega
theorem testC_eq {l l' : List D.Test} {i i' : Nat} (h : testD l i = testD l' i') (j : Nat) : testC l i j = testC l' i' j := by
  match j with
  | 0 | 1 | _ + 2 => simp only [testC, h]
set_option maxRecDepth 100000 in
set_option maxHeartbeats 2000000 in
theorem fewer_yes {T : Task} {s : TSl} {p : Int} {w : World} (hT : TaskAt w T s) (hp0 : 0 ≤ p ∧ p ≤ 255) (h0 : (D.checkTask T).2.2 = 0) (hn : 0 < T.tests.length) : Calls Try.prog 9 #[.agg #[.slice s.h.a T.rule.heat.length s.h.cap, .slice s.w.a T.rule.wet.length s.w.cap, .int .i64 T.rule.own, .int .i64 T.rule.feed, .int .i64 T.rule.g0, .int .i64 T.rule.g1, .int .i64 T.rule.g2, .int .i64 T.rule.lost, .int .i64 T.first, .slice s.d.a T.days.length s.d.cap, .int .i64 T.start.lo, .int .i64 T.start.hi, .slice s.t.a T.tests.length s.t.cap], .int .u8 p] w fun e w' => e = .returned (.bool true) ∧ Below w.heap.size w w' := by
  have hk := (task_ok h0).1
  have HK := Lib.hid hk
  have HT := Lib.hid hT
  obtain ⟨ns, hns⟩ : ∃ n, n = (struckT T).length := ⟨_, rfl⟩
  have HNS := Lib.hid hns
  have HP : Hid (∀ W, Below w.heap.size w W → Calls Try.prog 17 #[.agg #[.slice s.h.a T.rule.heat.length s.h.cap, .slice s.w.a T.rule.wet.length s.w.cap, .int .i64 T.rule.own, .int .i64 T.rule.feed, .int .i64 T.rule.g0, .int .i64 T.rule.g1, .int .i64 T.rule.g2, .int .i64 T.rule.lost, .int .i64 T.first, .slice s.d.a T.days.length s.d.cap, .int .i64 T.start.lo, .int .i64 T.start.hi, .slice s.t.a T.tests.length s.t.cap]] W fun e w' => (∃ s1 s2 : Sl, e = .returned (.tuple #[.slice s1.a (T.days.length + 1) s1.cap, .slice s2.a ns s2.cap, .int .i64 0]) ∧ RowS w' s1 2 (T.days.length + 1) (spC (lv T)) ∧ StrikesS w' s2 (struckT T)) ∧ Below W.heap.size W w') := Lib.hid fun W hW => by
    rw [hns]; exact levels_yes (hT.below hW) h0
  clear hns
  have HA : Hid (∀ W, Calls Try.prog 21 #[] W fun e w' => e = .returned (.bool true) ∧ Below W.heap.size W w') := Lib.hid fun W => awake_any W
  have hnd := hk.nd
  have hnt := hk.nt
  have htl := hT.tests.le
  obtain ⟨tb, toff, hta, -⟩ := hT.tests.row hn (by omega)
  obtain ⟨P, hP⟩ : ∃ P : Nat, p = (P : Int) := ⟨p.toNat, by omega⟩
  obtain ⟨k, hkd⟩ : ∃ k : Nat, k = P % T.tests.length := ⟨_, rfl⟩
  have hkl : k < T.tests.length := by rw [hkd]; exact Nat.mod_lt _ hn
  have hrem : p.tmod (T.tests.length : Int) = (k : Int) := by rw [hP, hkd]; rfl
  have wp0 : IntKind.i64.wrap p = p := IntWalk.i64_in _ (by omega)
  have wk0 : IntKind.i64.wrap (k : Int) = (k : Int) := IntWalk.i64_in _ (by omega)
  obtain ⟨k1, hk1⟩ : ∃ k1 : Nat, k1 = k + 1 := ⟨_, rfl⟩
  have wk1 : IntKind.i64.wrap ((k : Int) + 1) = (k1 : Int) := by rw [hk1]; exact IntWalk.i64_in _ (by omega)
  have hk1l : k1 ≤ T.tests.length := by omega
  have hkc : k ≤ s.t.cap := by omega
  have HK1 := Lib.hid hk1
  clear hk1
  have g0 : ((T.tests.length : Int) == 0) = false := beq_eq_false_iff_ne.2 (by omega)
  have g1 : decide ((20 : Int) < (T.tests.length : Int)) = false := decide_eq_false (by omega)
  have hz0 : (T.tests.length : Int) ≠ 0 := by omega
  have HTA := Lib.hid hta
  clear hT h0 hk hkd hP hta
  go_enter Try.func9, Try.ntmps9
  go_wp2_with (fail)
  (with_reducible refine (HP.out _ ?_).mono ?_)
  · repeat' (first | exact Below.refl _ _ | assumption | refine below_drewN ?_ _ | refine Below.drew ?_ | refine Below.alloc ?_ (by first | assumption | omega | (simp <;> omega)) _ | refine Below.setCell ?_ (by first | assumption | omega | (simp <;> omega)) _ | refine Ext2.on (by assumption) ?_)
  rintro e w1 ⟨⟨⟨la, lc⟩, s2, rfl, hl, hs2⟩, hb1⟩
  have hB1 : Below w.heap.size w w1 := Below.trans (by repeat' (first | exact Below.refl _ _ | assumption | refine below_drewN ?_ _ | refine Below.drew ?_ | refine Below.alloc ?_ (by first | assumption | omega | (simp <;> omega)) _ | refine Below.setCell ?_ (by first | assumption | omega | (simp <;> omega)) _ | refine Ext2.on (by assumption) ?_)) (hb1.mono (by simp))
  have x0 : w1.heap[w.heap.size]? = some (Obj.cells #[.slice s.h.a T.rule.heat.length s.h.cap, .slice s.w.a T.rule.wet.length s.w.cap, .int .i64 T.rule.own, .int .i64 T.rule.feed, .int .i64 T.rule.g0, .int .i64 T.rule.g1, .int .i64 T.rule.g2, .int .i64 T.rule.lost, .int .i64 T.first, .slice s.d.a T.days.length s.d.cap, .int .i64 T.start.lo, .int .i64 T.start.hi, .slice s.t.a T.tests.length s.t.cap] 31) := below_blk hb1 (by repeat' (first | (with_reducible assumption) | (with_reducible refine blk_set_ne ?_ ?_) | (with_reducible exact blk_new _ _) | (with_reducible refine blk_new' _ _ (by first | (with_reducible rfl) | (simp; done) | (simp <;> omega))) | (with_reducible refine blk_alloc ?_ _) | (with_reducible refine blk_drew ?_) | (with_reducible refine blk_drewN ?_ _) | (with_reducible refine Ext2.blk (by assumption) ?_) | omega | (simp <;> omega) | exact blk_set (by assumption) _ _)) (by simp)
  have hle1 : w.heap.size ≤ w1.heap.size := hB1.size
  obtain ⟨lb, loff, hla, -⟩ := sp_two hl (i := 0) (by omega)
  dsimp only at hla
  subst hla
  have HLV := Lib.hid hl; have HS2 := Lib.hid hs2
  have hnb : ns ≤ 9223372036854775807 := by have a := hs2.le; have b := hs2.max; rw [← HNS.out] at a; omega
  have hx1 := blk_lt x0
  have e1 : ¬ w.heap.size = w1.heap.size := by omega
  clear hb1 hl hs2 HP
  rw [HTA.out] at x0
  have q0c := cell_blk x0
  have q0f := frz_blk x0
  go_wp2_with (fail)
  refine wp_name ?_
  intro w2 h2
  have x0 : w2.heap[w.heap.size]? = some (Obj.cells #[.slice s.h.a T.rule.heat.length s.h.cap, .slice s.w.a T.rule.wet.length s.w.cap, .int .i64 T.rule.own, .int .i64 T.rule.feed, .int .i64 T.rule.g0, .int .i64 T.rule.g1, .int .i64 T.rule.g2, .int .i64 T.rule.lost, .int .i64 T.first, (.slice s.d.a T.days.length s.d.cap), .int .i64 T.start.lo, .int .i64 T.start.hi, (.slice (some ⟨tb, toff, none⟩) T.tests.length s.t.cap)] 31) := by rw [h2]; repeat' (first | (with_reducible assumption) | (with_reducible refine blk_set_ne ?_ ?_) | (with_reducible exact blk_new _ _) | (with_reducible refine blk_new' _ _ (by first | (with_reducible rfl) | (simp; done) | (simp <;> omega))) | (with_reducible refine blk_alloc ?_ _) | (with_reducible refine blk_drew ?_) | (with_reducible refine blk_drewN ?_ _) | (with_reducible refine Ext2.blk (by assumption) ?_) | omega | (simp <;> omega) | exact blk_set (by assumption) _ _)
  have x9 : w2.heap[w1.heap.size]? = some (Obj.cells #[.slice s.h.a T.rule.heat.length s.h.cap, .slice s.w.a T.rule.wet.length s.w.cap, .int .i64 T.rule.own, .int .i64 T.rule.feed, .int .i64 T.rule.g0, .int .i64 T.rule.g1, .int .i64 T.rule.g2, .int .i64 T.rule.lost, .int .i64 T.first, (.slice s.d.a T.days.length s.d.cap), .int .i64 T.start.lo, .int .i64 T.start.hi, (.slice (some ⟨tb, toff, none⟩) T.tests.length s.t.cap)] 31) := by rw [h2]; exact blk_new _ _
  have hE2 : Ext2 w1 w2 := by rw [h2]; repeat' (first | exact Below.refl _ _ | assumption | refine below_drewN ?_ _ | refine Below.drew ?_ | refine Below.alloc ?_ (by first | assumption | omega | (simp <;> omega)) _ | refine Below.setCell ?_ (by first | assumption | omega | (simp <;> omega)) _ | refine Ext2.on (by assumption) ?_)
  have hz2 := blk_lt x9
  have hB2 := below_ext hB1 hE2
  obtain ⟨b9, hb9⟩ : ∃ b, b = w1.heap.size := ⟨_, rfl⟩
  rw [← hb9] at x9 hz2 e1 ⊢
  have hle9 : w.heap.size ≤ b9 := by omega
  have hlt9 : w.heap.size < b9 := by omega
  have HLB : Hid (∀ W, Below b9 w2 W → RowS W ⟨some ⟨lb, loff, none⟩, lc⟩ 2 (T.days.length + 1) (spC (lv T)) ∧ StrikesS W s2 (struckT T)) := Lib.hid fun W hW => by
    rw [hb9] at hW
    have hW1 : Ext2 w1 W := Below.trans hE2 hW
    exact ⟨HLV.out.below hW1, HS2.out.below hW1⟩
  clear h2 q0c q0f hb9 hB1 hE2 HLV HS2
  have q0c := cell_blk x0
  have q0f := frz_blk x0
  have hlessL : (lessT T k).tests.length = T.tests.length - 1 := less_len hkl
  have hbb : b9 + 1 ≤ w2.heap.size := hz2
  haveI hcls : Nonempty (Cls (AtBlk w.heap.size #[.slice s.h.a T.rule.heat.length s.h.cap, .slice s.w.a T.rule.wet.length s.w.cap, .int .i64 T.rule.own, .int .i64 T.rule.feed, .int .i64 T.rule.g0, .int .i64 T.rule.g1, .int .i64 T.rule.g2, .int .i64 T.rule.lost, .int .i64 T.first, (.slice s.d.a T.days.length s.d.cap), .int .i64 T.start.lo, .int .i64 T.start.hi, (.slice (some ⟨tb, toff, none⟩) T.tests.length s.t.cap)] 31)) := ⟨⟨w2, x0⟩⟩
  refine region_evH (AtBlk w.heap.size #[.slice s.h.a T.rule.heat.length s.h.cap, .slice s.w.a T.rule.wet.length s.w.cap, .int .i64 T.rule.own, .int .i64 T.rule.feed, .int .i64 T.rule.g0, .int .i64 T.rule.g1, .int .i64 T.rule.g2, .int .i64 T.rule.lost, .int .i64 T.first, (.slice s.d.a T.days.length s.d.cap), .int .i64 T.start.lo, .int .i64 T.start.hi, (.slice (some ⟨tb, toff, none⟩) T.tests.length s.t.cap)] 31) [6, 7, 8, 9, 10] [1, 2, 3, 4] [(0, 41, none)] [5, 11, 12, 13] (AtBlk.ext x0) (by kernel_rfl) (by kernel_rfl) (by intro c a d v w h; cases d <;> exact h) ?_
  simp only [picks, List.drop_succ_cons, List.drop_zero]
  repeat (refine wpQS_step (fun K hK => ?_); go_simp; (refine hK _ ?_; clear hK K))
  refine wpQS_nil ?_
  repeat ((with_reducible refine wpQ2_step (fun K hK => ?_)); go_simp; first | ((with_reducible refine hK _ ?_); clear hK K) | (apply Exists.intro; refine ⟨fun x => ?_, hK _ ?_⟩; (fail); clear hK K))
  refine wpQ2_nil ?_
  refine EventsH.lay1 (fun b => .slice (some ⟨b, 0, none⟩) 0 0) (.cells #[] 51 (0, 0)) ⟨_, rfl, rfl, rfl, fun W => by kernel_rfl⟩ fun bq wx hbq hgx nbq => ?_
  simp only [picks, List.drop_succ_cons, List.drop_zero]
  have hEx : Ext2 w2 wx := hgx
  have hzx := hEx.size
  have hBx := below_ext hB2 hEx
  have x0 := Ext2.blk hEx x0
  have x9 := Ext2.blk hEx x9
  have hrow : RowC wx tb toff 3 T.tests.length (testC T.tests) := by
    obtain ⟨b', o', h1, h2⟩ := (HT.out.tests.below hBx).row hn (by omega)
    rw [HTA.out] at h1
    obtain ⟨rfl, rfl⟩ : tb = b' ∧ toff = o' := by simpa using h1
    exact h2
  have hO0 : OwnR wx (b9 + 1) 51 3 (.slice (some ⟨bq, 0, none⟩) 0 0) 0 (testC (lessT T k).tests) := own_empty nbq (by omega)
  clear q0c q0f hcls
  refine wpListH_cons ?_
  go_wp2_with (at_builtin; go_loud (refine app_rows elTestA (c2 := testC (lessT T k).tests) rfl _ _ rfl (b9 + 1) rfl hO0 tb toff k s.t.cap rfl (fun i j hi hj => hrow.2 i j (by omega) hj) (testC_one _) (by omega) (by omega) (fun i j hi _ => absurd hi (by omega)) (fun i j hi hj => testC_eq (by rw [Nat.zero_add, less_at hkl, if_pos hi]) j) ?_; intro v5 w5 hO5 hg5; rw [Nat.zero_add] at hO5))
  have hE5 : Below (b9 + 1) w2 w5 := app_below (Below.mono hEx hbb) hO0 (Nat.le_refl _) (by omega) hg5
  have x0 : w5.heap[w.heap.size]? = some _ := app_keeps hO0 hg5 x0 (by omega)
  have x9 : w5.heap[b9]? = some _ := app_keeps hO0 hg5 x9 (by omega)
  have hB5 : Below w.heap.size w w5 := hB2.trans (hE5.mono (by omega))
  have hz5 := hE5.size
  have hrow5 : RowC w5 tb toff 3 T.tests.length (testC T.tests) := by
    obtain ⟨b', o', h1, h2⟩ := (HT.out.tests.below hB5).row hn (by omega)
    rw [HTA.out] at h1
    obtain ⟨rfl, rfl⟩ : tb = b' ∧ toff = o' := by simpa using h1
    exact h2
  have hdc := drop_cells (m := k1) hrow5 htl
  have hk1e := HK1.out
  have he2 : ∀ i j, i < T.tests.length - k1 → j < 3 → testC (lessT T k).tests (k + i) j = testC T.tests (k1 + i) j := fun i j _ _ => testC_eq (by rw [less_at hkl, if_neg (by omega)]; congr 1; omega) j
  have hlen6 : k + (T.tests.length - k1) = T.tests.length - 1 := by omega
  obtain ⟨⟨a5, c5⟩, rfl, -⟩ := hO5.sl
  dsimp only at hO5
  have HDC := Lib.hid hdc; have HE2 := Lib.hid he2; have HL6 := Lib.hid hlen6; have HO5 := Lib.hid hO5
  clear hrow hrow5 hdc he2 hlen6 hg5 hO0 nbq hO5 hk1e
  refine ⟨x0, wpListH_cons ?_⟩
  go_wp2_with (at_builtin; go_loud (refine app_rows elTestA (c2 := testC (lessT T k).tests) rfl _ _ rfl (b9 + 1) rfl HO5.out tb (dropO toff s.t.cap k1 3) (T.tests.length - k1) (s.t.cap - k1) rfl HDC.out (fun i j => testC_one _ _ _) (by omega) (by omega) (fun i j _ _ => rfl) HE2.out ?_; intro v6 w6 hO6 hg6))
  have hE6 : Below (b9 + 1) w2 w6 := app_below (B := b9 + 1) hE5 HO5.out (Nat.le_refl _) (by omega) hg6
  have x0 : w6.heap[w.heap.size]? = some _ := app_keeps HO5.out hg6 x0 (by omega)
  have x9 : w6.heap[b9]? = some _ := app_keeps HO5.out hg6 x9 (by omega)
  rw [HL6.out] at hO6
  obtain ⟨⟨a6, c6⟩, rfl, -⟩ := hO6.sl
  dsimp only at hO6
  have HO6 := Lib.hid hO6
  clear hg6 hO6 hE5 hB5 hz5
  refine ⟨x0, wpListH_cons ?_⟩
  go_wp2_with (fail)
  refine ⟨x0, wpListH_cons ?_⟩
  have q9c := cell_blk x9
  have q9f := frz_blk x9
  go_wp2_with (fail)
  refine ⟨blk_set_ne x0 (by omega), wpListH_nil ?_⟩
  refine then_name ?_
  intro w7 h7
  have x9 : w7.heap[b9]? = some (Obj.cells #[.slice s.h.a T.rule.heat.length s.h.cap, .slice s.w.a T.rule.wet.length s.w.cap, .int .i64 T.rule.own, .int .i64 T.rule.feed, .int .i64 T.rule.g0, .int .i64 T.rule.g1, .int .i64 T.rule.g2, .int .i64 T.rule.lost, .int .i64 T.first, (.slice s.d.a T.days.length s.d.cap), .int .i64 T.start.lo, .int .i64 T.start.hi, (.slice a6 (T.tests.length - 1) c6)] 31) := by rw [h7]; exact Eq.trans (blk_set x9 _ _) rfl
  have hE7 : Below b9 w2 w7 := by rw [h7]; exact below_set (hE6.mono (by omega)) (Nat.le_refl _)
  have hO7 : OwnR w7 (b9 + 1) 51 3 (.slice a6 (T.tests.length - 1) c6) (T.tests.length - 1) (testC (lessT T k).tests) := by rw [h7]; exact HO6.out.above (Above.set (Above.refl _ _) (.inl (Nat.lt_succ_self _)))
  have hB7 : Below w.heap.size w w7 := hB2.trans (hE7.mono hle9)
  have hTW := HT.out.below hB7
  have hat : TaskAt w7 (lessT T k) ⟨s.h, s.w, s.d, ⟨a6, c6⟩⟩ := ⟨hTW.rule, hTW.days, by
    show RowS w7 _ 3 (lessT T k).tests.length _
    rw [hlessL]; exact own_rowA hO7⟩
  obtain ⟨ms, hms⟩ : ∃ n, n = (struckT (lessT T k)).length := ⟨_, rfl⟩
  have hUL : Calls Try.prog 17 #[.agg #[.slice s.h.a T.rule.heat.length s.h.cap, .slice s.w.a T.rule.wet.length s.w.cap, .int .i64 T.rule.own, .int .i64 T.rule.feed, .int .i64 T.rule.g0, .int .i64 T.rule.g1, .int .i64 T.rule.g2, .int .i64 T.rule.lost, .int .i64 T.first, (.slice s.d.a T.days.length s.d.cap), .int .i64 T.start.lo, .int .i64 T.start.hi, (.slice a6 (T.tests.length - 1) c6)]] w7 fun e w' => (∃ s1 s2 : Sl, e = .returned (.tuple #[.slice s1.a (T.days.length + 1) s1.cap, .slice s2.a ms s2.cap, .int .i64 0]) ∧ RowS w' s1 2 (T.days.length + 1) (spC (lv (lessT T k)))) ∧ Below w7.heap.size w7 w' := by
    have h := levels_yes hat (task_mk (less_ok HK.out hkl))
    rw [hlessL, ← hms] at h
    refine h.mono ?_
    rintro e w' ⟨⟨s1, s2, h1, h2, -⟩, h3⟩
    exact ⟨⟨s1, s2, h1, h2⟩, h3⟩
  have HUL := Lib.hid hUL
  obtain ⟨hl7, hs7⟩ := HLB.out w7 hE7
  have HL7 := Lib.hid hl7; have HS7 := Lib.hid hs7
  have hfs := fewer_struck HK.out hkl
  have hfn := fewer_none HK.out hkl
  rw [← HNS.out, ← hms] at hfs hfn
  have HFN := Lib.hid hfn
  obtain ⟨sb, hsb⟩ : ∃ b, b = struckB (struckT T) (k : Int) := ⟨_, rfl⟩
  have HSB := Lib.hid hsb
  have hst : ∀ W, Ext2 w7 W → Calls Try.prog 26 #[.slice s2.a ns s2.cap, .int .i64 (k : Int)] W fun e w' => e = .returned (.bool sb) ∧ Below W.heap.size W w' := fun W hW => by
    rw [hsb]
    have h := struckIs_any (s := s2) (k : Int) (HS7.out.below hW)
    rw [← HNS.out] at h
    exact h.mono fun e w' ⟨he, q, hq⟩ => ⟨he, by rw [hq]; exact below_drewN (Below.refl _ _) q⟩
  have HST := Lib.hid hst
  rw [← hsb] at hfs
  have HFS := Lib.hid hfs
  clear h7 hE7 hO7 hTW hat hUL hl7 hs7 hfs hfn hms hsb hst q9c q9f HLB HO6 HDC HE2 HL6 HO5 hE6 x0 hEx hgx hBx hzx hbq
  have q9c := cell_blk x9
  have q9f := frz_blk x9
  go_wp2_with (fail)
  (with_reducible refine HUL.out.mono ?_)
  rintro e w8 ⟨⟨⟨ma, mc⟩, s3, rfl, hm⟩, hb8⟩
  have hE8 : Ext2 w7 w8 := hb8
  have hB8 := below_ext hB7 hE8
  obtain ⟨mb, moff, hma, -⟩ := sp_two hm (i := 0) (by omega)
  dsimp only at hma
  subst hma
  have HM := Lib.hid hm
  have HL8 := Lib.hid (HL7.out.below hE8)
  clear hm q9c q9f x9 hb8 HUL HL7 HS7
  have ne1 : ((T.days.length : Int) + 1 != (T.days.length : Int) + 1) = false := by simp
  go_wp2_with (fail)
  (with_reducible refine (HST.out _ hE8).mono ?_)
  rintro e w10 ⟨rfl, hb10⟩
  have hE10 : Ext2 w8 w10 := hb10
  have hB10 := below_ext hB8 hE10
  have HM := Lib.hid (HM.out.below hE10)
  have HL10 := Lib.hid (HL8.out.below hE10)
  clear hb10 HL8
  cases sb
  case true =>
    obtain ⟨hf1, hf2⟩ := HFS.out rfl
    have HSP : Hid (∀ W, Ext2 w10 W → Calls Try.prog 19 #[.slice (some ⟨mb, moff, none⟩) (T.days.length + 1) mc, .slice (some ⟨lb, loff, none⟩) (T.days.length + 1) lc] W fun e w' => e = .returned (.bool true) ∧ Below W.heap.size W w') := Lib.hid fun W hW =>
      spansF_any (s := ⟨some ⟨mb, moff, none⟩, mc⟩) (t := ⟨some ⟨lb, loff, none⟩, lc⟩) (HM.out.below hW) (HL10.out.below hW) fun i hi => hf1 i (by omega)
    have wn : IntKind.i64.wrap ((ns : Int) - 1) = (ms : Int) := by rw [hf2]; exact Eq.trans (IntWalk.i64_in _ (by omega)) (by omega)
    have en : ((ms : Int) == (ms : Int)) = true := by simp
    clear hf1 hf2
    go_wp2_with (fail)
    (with_reducible refine (HSP.out _ ?_).mono ?_)
    · exact Below.refl _ _
    rintro e w11 ⟨rfl, hb11⟩
    have hB11 := below_ext hB10 hb11
    go_wp2_with (fail)
    (with_reducible refine (HA.out _).mono ?_)
    rintro e w12 ⟨rfl, hb12⟩
    have hB12 := below_ext hB11 hb12
    go_wp2_with (fail)
    go_ret
    exact ⟨rfl, hB12⟩
  case false =>
    by_cases hn0 : ns = 0
    · obtain ⟨hf1, hf2⟩ := HFN.out hn0
      subst hn0
      subst hf2
      have HF1 := Lib.hid hf1
      clear hf1
      go_wp2_with (fail)
      go_loopw [12] (fun i wr => ∃ n : Nat, i = .int .i64 (n : Int) ∧ n ≤ T.days.length + 1 ∧ Ext2 w10 wr) (fun i _ => T.days.length + 1 - (intOf i).toNat)
      case atStart => exact ⟨0, rfl, by omega, Below.refl _ _⟩
      case round =>
        obtain ⟨n, rfl, hn', hE⟩ := hrel
        have hEr : Ext2 w10 wr := hE
        clear hE
        by_cases hlt : n < T.days.length + 1
        · go_light
          obtain ⟨_, _, h1, a0, a1⟩ := sp_two (HL10.out.below hEr) (i := n) (by omega)
          obtain ⟨rfl, rfl⟩ : lb = _ ∧ loff = _ := by simpa using h1
          obtain ⟨_, _, h2, b0, b1⟩ := sp_two (HM.out.below hEr) (i := n) (by omega)
          obtain ⟨rfl, rfl⟩ : mb = _ ∧ moff = _ := by simpa using h2
          have hsub := HF1.out n (by omega)
          obtain ⟨a, ha⟩ : ∃ a, a = lv T n := ⟨_, rfl⟩
          obtain ⟨b, hb⟩ : ∃ b, b = lv (lessT T k) n := ⟨_, rfl⟩
          rw [← ha] at a0 a1 hsub
          rw [← hb] at b0 b1 hsub
          obtain ⟨hsub1, hsub2⟩ := hsub
          have c0 : decide (a.lo < b.lo) = false := decide_eq_false (by omega)
          have c1 : decide (b.hi < a.hi) = false := decide_eq_false (by omega)
          have r0 : (0 : Int) ≤ (n : Int) := by omega
          have r2 : (n : Int) < (T.days.length : Int) + 1 := by omega
          have w3' : IntKind.i64.wrap ((n : Int) + 1) = (n : Int) + 1 := IntWalk.i64_in _ (by omega)
          clear h1 h2 ha hb hsub1 hsub2
          go_wp2_with (fail)
          refine region_ev [] [0, 1, 2, 3, 4, 5, 6, 7, 8, 9, 10, 11, 12, 13, 14, 15, 16, 17, 18, 19, 20, 21, 22, 23, 24, 25, 26, 27, 28] [] [] (by kernel_rfl) (by kernel_rfl) (by intro c a d v w h; cases d <;> exact h) ?_
          simp only [picks, List.drop_succ_cons, List.drop_zero]
          repeat (refine wpQ0_step (fun K hK => ?_); go_simp; (refine hK _ ?_; clear hK K))
          refine wpQ0_nil ?_
          repeat ((with_reducible refine wpQ2_step (fun K hK => ?_)); go_simp; first | ((with_reducible refine hK _ ?_); clear hK K) | (apply Exists.intro; refine ⟨fun x => ?_, hK _ ?_⟩; (fail); clear hK K))
          refine wpQ2_nil ?_
          refine Events.none_ fun w11 hg11 => ?_
          simp only [picks, List.drop_succ_cons, List.drop_zero]
          have hE11 := ext_trans hEr hg11
          clear a0 a1 b0 b1
          go_wp2_with (fail)
          go_roundw
          case rel => exact ⟨n + 1, by go_num, by omega, hE11⟩
          case measure => simp [intOf]; omega
        · have r1 : ¬ ((n : Nat) : Int) < (T.days.length : Int) + 1 := by omega
          have hBr := below_ext hB10 hEr
          go_wp2_with (fail)
          (with_reducible refine (HA.out _).mono ?_)
          rintro e w12 ⟨rfl, hb12⟩
          have hB12 := below_ext hBr hb12
          go_wp2_with (fail)
          go_ret
          exact ⟨rfl, hB12⟩
    · have en : ((ns : Int) == 0) = false := beq_eq_false_iff_ne.2 (by omega)
      go_wp2_with (fail)
      go_loopw [12] (fun i wr => i = .int .i64 0 ∧ Ext2 w10 wr) (fun i _ => 0)
      case atStart => exact ⟨rfl, Below.refl _ _⟩
      case round =>
        obtain ⟨rfl, hE⟩ := hrel
        have hEr : Ext2 w10 wr := hE
        clear hE
        have r0 : (0 : Int) < (T.days.length : Int) + 1 := by omega
        have hBr := below_ext hB10 hEr
        go_wp2_with (fail)
        (with_reducible refine (HA.out _).mono ?_)
        rintro e w12 ⟨rfl, hb12⟩
        have hB12 := below_ext hBr hb12
        go_wp2_with (fail)
        go_ret
        exact ⟨rfl, hB12⟩
theorem lawFewer_any {T : Task} {s : TSl} {p : Int} {w : World} (hT : TaskAt w T s) (hp0 : 0 ≤ p ∧ p ≤ 255) : Calls Try.prog 9 #[.agg #[.slice s.h.a T.rule.heat.length s.h.cap, .slice s.w.a T.rule.wet.length s.w.cap, .int .i64 T.rule.own, .int .i64 T.rule.feed, .int .i64 T.rule.g0, .int .i64 T.rule.g1, .int .i64 T.rule.g2, .int .i64 T.rule.lost, .int .i64 T.first, .slice s.d.a T.days.length s.d.cap, .int .i64 T.start.lo, .int .i64 T.start.hi, .slice s.t.a T.tests.length s.t.cap], .int .u8 p] w fun e w' => e = .returned (.bool true) ∧ Below w.heap.size w w' := by
  by_cases h0 : (D.checkTask T).2.2 = 0
  · rcases Nat.eq_zero_or_pos T.tests.length with h | h
    · exact fewer_nil hT h0 h
    · exact fewer_yes hT hp0 h0 h
  · exact fewer_no hT h0
end Go.Proofs.Ytfjbgcaogffiaaa
