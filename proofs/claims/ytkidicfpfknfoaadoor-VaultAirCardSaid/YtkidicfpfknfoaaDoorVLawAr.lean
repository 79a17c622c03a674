/-
  The law VaultAir, walked.
-/
import Derived.Test.YtkidicfpfknfoaaDoorVAwake
import Derived.Test.YtkidicfpfknfoaaDoorVRefV
namespace Go.Proofs.YtkidicfpfknfoaaDoor
open Go.RowKit D
set_option linter.unusedVariables false
set_option linter.unusedSimpArgs false
attribute [local go_sem high] run_minI run_maxI
attribute [local go_sem] upon2 cls_cell cls_frozen forall_const exists_eq_left'
attribute [local go_sem] FirstUpon
set_option maxRecDepth 100000 in
set_option maxHeartbeats 2000000 in
theorem lawAir_any {t d : Int} {w : World} (h0 : -9223372036854775808 ≤ t ∧ t ≤ 9223372036854775807) (h1 : -9223372036854775808 ≤ d ∧ d ≤ 9223372036854775807) (hm : MaxAt w) : Calls Tryd.prog 5 #[.int .i64 t, .int .i64 d] w fun e w' => e = .returned (.bool true) ∧ Below w.heap.size w w' := by
  obtain ⟨a, ha⟩ : ∃ a, a = (if inB t (-300) 600 then vap t else 0) := ⟨_, rfl⟩
  obtain ⟨ea, hea⟩ : ∃ a : Int, a = (if inB t (-300) 600 then 0 else 7) := ⟨_, rfl⟩
  obtain ⟨p, hp⟩ : ∃ a, a = dewR t d := ⟨_, rfl⟩
  obtain ⟨ep, hep⟩ : ∃ a, a = dewE t d := ⟨_, rfl⟩
  have H1 : Hid (∀ W, Calls Tryd.prog 20 #[.int .i64 t] W fun e w' => e = .returned (.tuple #[.int .i64 a, .int .i64 ea]) ∧ Below W.heap.size W w') := Lib.hid fun W => by rw [ha, hea]; exact vapourA_any W
  have H2 : Hid (∀ W, Calls Tryd.prog 21 #[.int .i64 t] W fun e w' => e = .returned (.tuple #[.int .i64 a, .int .i64 ea]) ∧ Below W.heap.size W w') := Lib.hid fun W => by rw [ha, hea]; exact vapourRA_any W
  have H3 : Hid (∀ W, Calls Tryd.prog 22 #[.int .i64 t, .int .i64 d] W fun e w' => e = .returned (.tuple #[.int .i64 p, .int .i64 ep]) ∧ Below W.heap.size W w') := Lib.hid fun W => by rw [hp, hep]; exact dew_any W
  have H4 : Hid (∀ W, Calls Tryd.prog 23 #[.int .i64 t, .int .i64 d] W fun e w' => e = .returned (.tuple #[.int .i64 p, .int .i64 ep]) ∧ Below W.heap.size W w') := Lib.hid fun W => by rw [hp, hep]; exact dewRA_any W
  have HM := Lib.hid hm
  clear ha hea hp hep hm h0 h1
  go_enter Tryd.func5, Tryd.ntmps5
  go_wp2_with (fail)
  (with_reducible refine (H1.out _).mono ?_)
  rintro e w1 ⟨rfl, hb1⟩
  go_wp2_with (fail)
  (with_reducible refine (H2.out _).mono ?_)
  rintro e w2 ⟨rfl, hb2⟩
  go_wp2_with (fail)
  (with_reducible refine (H3.out _).mono ?_)
  rintro e w3 ⟨rfl, hb3⟩
  go_wp2_with (fail)
  (with_reducible refine (H4.out _).mono ?_)
  rintro e w4 ⟨rfl, hb4⟩
  have HE4 := Lib.hid (ext_trans (ext_trans hb1 hb2) (ext_trans hb3 hb4))
  clear hb1 hb2 hb3 hb4
  go_wp2_with (fail)
  refine (awake_any (HM.out.below HE4.out)).mono ?_
  rintro e w5 ⟨rfl, hb5⟩
  go_wp2_with (fail)
  go_ret
  exact ⟨rfl, ext_trans HE4.out hb5⟩
end Go.Proofs.YtkidicfpfknfoaaDoor
