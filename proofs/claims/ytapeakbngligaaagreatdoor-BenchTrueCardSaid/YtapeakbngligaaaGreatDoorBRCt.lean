/-
  The reference: in, cuts, After, Before.
  The reference: After, Before.
-/
import Derived.Test.YtapeakbngligaaaGreatDoorBCut
namespace Go.Proofs.YtapeakbngligaaaGreatDoor
open Go.RowKit D
set_option linter.unusedVariables false
set_option linter.unusedSimpArgs false
attribute [local go_sem high] run_minI run_maxI
attribute [local go_sem] upon2 cls_cell cls_frozen forall_const exists_eq_left'
attribute [local go_sem] FirstUpon
theorem inR_any (n lo hi : Int) (w : World) : Calls Tryz.prog 16 #[.int .i64 n, .int .i64 lo, .int .i64 hi] w fun e w' => e = .returned (.bool (inB n lo hi)) ∧ w = w' := by
  by_cases h1 : lo ≤ n
  · go_enter Tryz.func16, Tryz.ntmps16
    go_wp2
    go_ret
    exact ⟨ret_bool (by simp [inB]; omega), rfl⟩
  · go_enter Tryz.func16, Tryz.ntmps16
    go_wp2
    go_ret
    exact ⟨ret_bool (by simp [inB]; omega), rfl⟩
theorem inR_hid {n lo hi : Int} {v : Bool} (h : v = inB n lo hi) : Hid (∀ W, Calls Tryz.prog 16 #[.int .i64 n, .int .i64 lo, .int .i64 hi] W fun e w' => e = .returned (.bool v) ∧ W = w') := Lib.hid fun W => by rw [h]; exact inR_any _ _ _ W
theorem inR_b {n lo hi : Int} {v : Bool} (h : v = inB n lo hi) : Hid (∀ W, Calls Tryz.prog 16 #[.int .i64 n, .int .i64 lo, .int .i64 hi] W fun e w' => e = .returned (.bool v) ∧ Below W.heap.size W w') := Lib.hid fun W => by rw [h]; exact (inR_any _ _ _ W).mono fun e w' ⟨a, b⟩ => ⟨a, by rw [← b]; exact Below.refl _ _⟩
end Go.Proofs.YtapeakbngligaaaGreatDoor
namespace Go.Proofs.YtapeakbngligaaaGreatDoor
open Go.RowKit D
set_option linter.unusedVariables false
set_option linter.unusedSimpArgs false
attribute [local go_sem high] run_minI run_maxI
attribute [local go_sem] upon2 cls_cell cls_frozen forall_const exists_eq_left'
attribute [local go_sem] FirstUpon
end Go.Proofs.YtapeakbngligaaaGreatDoor
