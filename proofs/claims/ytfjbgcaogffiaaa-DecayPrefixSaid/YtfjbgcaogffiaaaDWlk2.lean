/-
  walked, as the outright laws use it.
-/
import Derived.Test.YtfjbgcaogffiaaaDWalkA
namespace Go.Proofs.Ytfjbgcaogffiaaa
open Go.RowKit D
theorem walked_yes {T : Task} {s : TSl} {C : Cse} {sc : Sl} {w : World} (hT : TaskAt w T s) (hC : CseOk C) (hs : U8S w sc C.steps) (h0 : (checkTask T).2.2 = 0) : Calls Try.prog 28 #[.agg #[.slice s.h.a T.rule.heat.length s.h.cap, .slice s.w.a T.rule.wet.length s.w.cap, .int .i64 T.rule.own, .int .i64 T.rule.feed, .int .i64 T.rule.g0, .int .i64 T.rule.g1, .int .i64 T.rule.g2, .int .i64 T.rule.lost, .int .i64 T.first, .slice s.d.a T.days.length s.d.cap, .int .i64 T.start.lo, .int .i64 T.start.hi, .slice s.t.a T.tests.length s.t.cap], .agg #[.int .u8 C.start, .slice sc.a C.steps.length sc.cap]] w fun e w' => (∃ z : Sl, e = .returned (.tuple #[.slice z.a (T.days.length + 1) z.cap, .bool true]) ∧ RowS w' z 1 (T.days.length + 1) (crsC T C)) ∧ Below w.heap.size w w' := by
  refine (walked_any hT hC hs).mono ?_
  rintro e w' ⟨⟨z, he, hz⟩, hb⟩
  have e1 : walkedRes T C = crsL T C := if_pos h0
  have e2 : walkedB T = true := decide_eq_true h0
  rw [e1, e2, crsL_len] at he
  rw [e1] at hz
  unfold IntsS at hz
  rw [crsL_len] at hz
  exact ⟨⟨z, he, rowS_congr hz fun i j hi _ => by rw [intC, crsC, crsL_at (by omega)]⟩, hb⟩
theorem walked_no {T : Task} {s : TSl} {C : Cse} {sc : Sl} {w : World} (hT : TaskAt w T s) (hC : CseOk C) (hs : U8S w sc C.steps) (h0 : (checkTask T).2.2 ≠ 0) : Calls Try.prog 28 #[.agg #[.slice s.h.a T.rule.heat.length s.h.cap, .slice s.w.a T.rule.wet.length s.w.cap, .int .i64 T.rule.own, .int .i64 T.rule.feed, .int .i64 T.rule.g0, .int .i64 T.rule.g1, .int .i64 T.rule.g2, .int .i64 T.rule.lost, .int .i64 T.first, .slice s.d.a T.days.length s.d.cap, .int .i64 T.start.lo, .int .i64 T.start.hi, .slice s.t.a T.tests.length s.t.cap], .agg #[.int .u8 C.start, .slice sc.a C.steps.length sc.cap]] w fun e w' => (∃ z : Sl, e = .returned (.tuple #[.slice z.a 0 z.cap, .bool false])) ∧ Below w.heap.size w w' := by
  refine (walked_any hT hC hs).mono ?_
  rintro e w' ⟨⟨z, he, hz⟩, hb⟩
  have e1 : walkedRes T C = [] := if_neg h0
  have e2 : walkedB T = false := decide_eq_false h0
  rw [e1, e2] at he
  exact ⟨⟨z, he⟩, hb⟩
theorem crs_row {w : World} {z : Sl} {T : Task} {C : Cse} {n : Nat} (h : RowS w z 1 n (crsC T C)) {i : Nat} (hi : i < n) : ∃ b off, z.a = some ⟨b, off, none⟩ ∧ w.cell? ⟨b, off + i, none⟩ = some (.int .i64 (crs T C i)) := by
  obtain ⟨b, off, ha, hr⟩ := h.row (by omega) (by omega)
  exact ⟨b, off, ha, hr.one hi⟩
theorem crs_ints {w : World} {z : Sl} {T : Task} {C : Cse} (h : RowS w z 1 (T.days.length + 1) (crsC T C)) : IntsS w z (crsL T C) := by
  unfold IntsS
  rw [crsL_len]
  exact rowS_congr h fun i j hi _ => by rw [intC, crsC, crsL_at (by omega)]
theorem grade_one {R : Rule} (hR : RuleOk R) {n : Int} (hn : 0 ≤ n ∧ n ≤ 1000000) : gradeV R n = (grade R n, 0) := by
  rw [gradeV, (check_ok (check_mk hR)).2, if_neg (fun h => h rfl), if_neg (by omega)]
theorem elTestA : Elem Try.prog 29 51 (.agg #[.int .i64 0, .int .i64 0, .int .i64 0]) 3 24 := ⟨by kernel_rfl, by kernel_rfl, rfl, by omega, by omega⟩
theorem own_rowA {w : World} {base : Nat} {e : TypeId} {sz : Nat} {a : Option Addr} {n cap : Nat} {c : Nat → Nat → Value} (h : OwnR w base e sz (.slice a n cap) n c) : RowS w ⟨a, cap⟩ sz n c := by
  obtain ⟨⟨a', cap'⟩, hs, hr⟩ := h.sl
  obtain ⟨rfl, rfl⟩ : a = a' ∧ cap = cap' := by simpa using hs
  exact hr
/-- Cells of one more test, by the test itself. -/
theorem testC_up {L : List D.Test} {x : D.Test} {k p q : Nat} (hx : testD L k = x) (hp : p < k + 1) (hq : q < 3) : upd (testC L) k [.int .i64 x.day, .int .i64 x.grade, .int .i64 x.err] p q = testC L p q := by
  by_cases h : p = k
  · subst h
    rw [upd_at]
    rcases (by omega : q = 0 ∨ q = 1 ∨ q = 2) with rfl | rfl | rfl <;> simp only [testC, hx] <;> rfl
  · rw [upd_lt (by omega)]
end Go.Proofs.Ytfjbgcaogffiaaa
