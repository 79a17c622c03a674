/-
  The reference's Levels.
-/
import Derived.Test.YtfjbgcaogffiaaaDRefKnown
import Derived.Test.YtfjbgcaogffiaaaDRefB
namespace Go.Proofs.Ytfjbgcaogffiaaa
open Go.RowKit D
set_option linter.unusedVariables false
set_option linter.unusedSimpArgs false
attribute [local go_sem high] run_minI run_maxI
attribute [local go_sem] upon2 cls_cell cls_frozen forall_const exists_eq_left'
theorem knownR_any {T : Task} {s : TSl} {w : World} (hT : TaskAt w T s) (hk : TaskOk T) : Calls Try.prog 53 #[.agg #[.slice s.h.a T.rule.heat.length s.h.cap, .slice s.w.a T.rule.wet.length s.w.cap, .int .i64 T.rule.own, .int .i64 T.rule.feed, .int .i64 T.rule.g0, .int .i64 T.rule.g1, .int .i64 T.rule.g2, .int .i64 T.rule.lost, .int .i64 T.first, .slice s.d.a T.days.length s.d.cap, .int .i64 T.start.lo, .int .i64 T.start.hi, .slice s.t.a T.tests.length s.t.cap]] w (KnownOut T w) := by
  obtain ⟨sh, sw, ⟨da, dc⟩, ⟨ta, tc⟩⟩ := s
  exact known1 hT hk
def levelsRes (T : Task) : List Span := if (checkTask T).2.2 = 0 then levelsT T else []
def struckRes (T : Task) : List Strike := if (checkTask T).2.2 = 0 then struckT T else []
/-- What Levels returns. -/
def LevelsOut (T : Task) (w : World) (e : Ending) (w' : World) : Prop :=
  (∃ s1 s2 : Sl, e = .returned (.tuple #[.slice s1.a (levelsRes T).length s1.cap, .slice s2.a (struckRes T).length s2.cap, .int .i64 (checkTask T).2.2]) ∧ SpansS w' s1 (levelsRes T) ∧ StrikesS w' s2 (struckRes T)) ∧ Below w.heap.size w w'
theorem rowS_congr {w : World} {s : Sl} {sz n : Nat} {c c' : Nat → Nat → Value} (h : RowS w s sz n c) (hc : ∀ i j, i < n → j < sz → c i j = c' i j) : RowS w s sz n c' :=
  ⟨h.le, h.max, fun i j hi hj => by obtain ⟨b, off, h1, h2⟩ := h.cell i j hi hj; exact ⟨b, off, h1, by rw [h2, hc i j hi hj]⟩⟩
theorem levels_out {T : Task} {w w' : World} {v u : Value} (h0 : (checkTask T).2.2 = 0) (h1 : OwnR w' w.heap.size 28 2 v (T.days.length + 1) (spC (lv T))) (h2 : OwnR w' w.heap.size 65 2 u (struckT T).length (strikeC (struckT T))) (hb : Below w.heap.size w w') :
    LevelsOut T w (.returned (.tuple #[v, u, .int .i64 0])) w' := by
  obtain ⟨s1, rfl, r1⟩ := h1.sl
  obtain ⟨s2, rfl, r2⟩ := h2.sl
  have e1 : levelsRes T = levelsT T := if_pos h0
  have e2 : struckRes T = struckT T := if_pos h0
  refine ⟨⟨s1, s2, ?_, ?_, ?_⟩, hb⟩
  · rw [e1, e2, levels_len, h0]
  · rw [e1]
    unfold SpansS
    rw [levels_len]
    exact rowS_congr r1 fun i j hi _ => spC_levels (by omega) j
  · rw [e2]; exact r2
theorem levels_out_no {T : Task} {w w' : World} (h0 : (checkTask T).2.2 ≠ 0) (hb : Below w.heap.size w w') :
    LevelsOut T w (.returned (.tuple #[.slice none 0 0, .slice none 0 0, .int .i64 (checkTask T).2.2])) w' := by
  have e1 : levelsRes T = [] := if_neg h0
  have e2 : struckRes T = [] := if_neg h0
  refine ⟨⟨⟨none, 0⟩, ⟨none, 0⟩, ?_, ?_, ?_⟩, hb⟩
  · rw [e1, e2]; rfl
  · rw [e1]; exact ⟨Nat.le_refl _, by simp, fun i j hi _ => absurd hi (Nat.not_lt_zero i)⟩
  · rw [e2]; exact ⟨Nat.le_refl _, by simp, fun i j hi _ => absurd hi (Nat.not_lt_zero i)⟩
set_option maxRecDepth 100000 in
set_option maxHeartbeats 2000000 in
theorem levelsR_any {T : Task} {s : TSl} {w : World} (hT : TaskAt w T s) : Calls Try.prog 18 #[.agg #[.slice s.h.a T.rule.heat.length s.h.cap, .slice s.w.a T.rule.wet.length s.w.cap, .int .i64 T.rule.own, .int .i64 T.rule.feed, .int .i64 T.rule.g0, .int .i64 T.rule.g1, .int .i64 T.rule.g2, .int .i64 T.rule.lost, .int .i64 T.first, .slice s.d.a T.days.length s.d.cap, .int .i64 T.start.lo, .int .i64 T.start.hi, .slice s.t.a T.tests.length s.t.cap]] w (LevelsOut T w) := by
  have HV : Hid (∀ W, Below w.heap.size w W → Calls Try.prog 52 #[.agg #[.slice s.h.a T.rule.heat.length s.h.cap, .slice s.w.a T.rule.wet.length s.w.cap, .int .i64 T.rule.own, .int .i64 T.rule.feed, .int .i64 T.rule.g0, .int .i64 T.rule.g1, .int .i64 T.rule.g2, .int .i64 T.rule.lost, .int .i64 T.first, .slice s.d.a T.days.length s.d.cap, .int .i64 T.start.lo, .int .i64 T.start.hi, .slice s.t.a T.tests.length s.t.cap]] W fun e w' => e = .returned (.int .i64 (D.checkTask T).2.2) ∧ Below W.heap.size W w') := Lib.hid fun W hW => valid_any (hT.below hW)
  have HT := Lib.hid hT; clear hT
  obtain ⟨er, her⟩ : ∃ er, er = (D.checkTask T).2.2 := ⟨_, rfl⟩
  rw [← her] at HV
  have HE := Lib.hid her; clear her
  by_cases h0 : er = 0
  · subst h0
    have HK := Lib.hid (task_ok HE.out.symm).1
    have HKN : Hid (∀ W, Below w.heap.size w W → Calls Try.prog 53 #[.agg #[.slice s.h.a T.rule.heat.length s.h.cap, .slice s.w.a T.rule.wet.length s.w.cap, .int .i64 T.rule.own, .int .i64 T.rule.feed, .int .i64 T.rule.g0, .int .i64 T.rule.g1, .int .i64 T.rule.g2, .int .i64 T.rule.lost, .int .i64 T.first, .slice s.d.a T.days.length s.d.cap, .int .i64 T.start.lo, .int .i64 T.start.hi, .slice s.t.a T.tests.length s.t.cap]] W (KnownOut T W)) := Lib.hid fun W hW => knownR_any (HT.out.below hW) HK.out
    go_enter Try.func18, Try.ntmps18
    go_wp2_with (fail)
    (with_reducible refine (HV.out _ ?_).mono ?_)
    · repeat' (first | exact Below.refl _ _ | assumption | refine below_drewN ?_ _ | refine Below.drew ?_ | refine Below.alloc ?_ (by first | assumption | omega | (simp <;> omega)) _ | refine Below.setCell ?_ (by first | assumption | omega | (simp <;> omega)) _ | refine Ext2.on (by assumption) ?_)
    rintro e w1 ⟨rfl, hb1⟩
    have hB1 := Below.trans (Below.alloc (Below.refl w.heap.size w) (Nat.le_refl _) (Obj.cells #[.slice s.h.a T.rule.heat.length s.h.cap, .slice s.w.a T.rule.wet.length s.w.cap, .int .i64 T.rule.own, .int .i64 T.rule.feed, .int .i64 T.rule.g0, .int .i64 T.rule.g1, .int .i64 T.rule.g2, .int .i64 T.rule.lost, .int .i64 T.first, .slice s.d.a T.days.length s.d.cap, .int .i64 T.start.lo, .int .i64 T.start.hi, .slice s.t.a T.tests.length s.t.cap] 31)) (hb1.mono (by simp))
    have b0 : w1.heap[w.heap.size]? = some (Obj.cells #[.slice s.h.a T.rule.heat.length s.h.cap, .slice s.w.a T.rule.wet.length s.w.cap, .int .i64 T.rule.own, .int .i64 T.rule.feed, .int .i64 T.rule.g0, .int .i64 T.rule.g1, .int .i64 T.rule.g2, .int .i64 T.rule.lost, .int .i64 T.first, .slice s.d.a T.days.length s.d.cap, .int .i64 T.start.lo, .int .i64 T.start.hi, .slice s.t.a T.tests.length s.t.cap] 31) := below_blk hb1 (blk_new _ _) (by simp)
    have q0c := cell_blk b0
    have q0f := frz_blk b0
    go_wp2_with (fail)
    (with_reducible refine (HKN.out _ hB1).mono ?_)
    rintro e w2 ⟨⟨v, u, rfl, h1, h2⟩, hb2⟩
    have hB2 := hB1.trans (hb2.mono hB1.size)
    have hf := levels_out HE.out.symm (h1.base hB1.size) (h2.base hB1.size) hB2
    obtain ⟨s1, rfl, -⟩ := h1.sl
    obtain ⟨s2, rfl, -⟩ := h2.sl
    have HF := Lib.hid hf
    clear hf h1 h2
    go_wp2_with (fail)
    go_ret3
    exact HF.out
  · have hne : (er == 0) = false := by simp; omega
    have hne2 : (er != 0) = true := by simp; omega
    go_enter Try.func18, Try.ntmps18
    go_wp2_with (fail)
    (with_reducible refine (HV.out _ ?_).mono ?_)
    · repeat' (first | exact Below.refl _ _ | assumption | refine below_drewN ?_ _ | refine Below.drew ?_ | refine Below.alloc ?_ (by first | assumption | omega | (simp <;> omega)) _ | refine Below.setCell ?_ (by first | assumption | omega | (simp <;> omega)) _ | refine Ext2.on (by assumption) ?_)
    rintro e w1 ⟨rfl, hb1⟩
    have hB1 := Below.trans (Below.alloc (Below.refl w.heap.size w) (Nat.le_refl _) (Obj.cells #[.slice s.h.a T.rule.heat.length s.h.cap, .slice s.w.a T.rule.wet.length s.w.cap, .int .i64 T.rule.own, .int .i64 T.rule.feed, .int .i64 T.rule.g0, .int .i64 T.rule.g1, .int .i64 T.rule.g2, .int .i64 T.rule.lost, .int .i64 T.first, .slice s.d.a T.days.length s.d.cap, .int .i64 T.start.lo, .int .i64 T.start.hi, .slice s.t.a T.tests.length s.t.cap] 31)) (hb1.mono (by simp))
    have hf := levels_out_no (T := T) (fun h => h0 (HE.out.trans h)) hB1
    rw [← HE.out] at hf
    have HF := Lib.hid hf
    clear hf h0
    go_wp2_with (fail)
    go_ret3
    exact HF.out
end Go.Proofs.Ytfjbgcaogffiaaa
