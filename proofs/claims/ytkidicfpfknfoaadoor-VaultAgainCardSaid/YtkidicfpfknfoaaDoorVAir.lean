/-
  vault.odd, share, vapour, wet; ref.temp, vapour, wet, floor, spanned.
-/
import Derived.Test.YtkidicfpfknfoaaDoorVSite
import Derived.Test.YtkidicfpfknfoaaDoorDRegX
import Derived.Deep.Light
namespace Go.Proofs.YtkidicfpfknfoaaDoor
open Go.RowKit D
set_option linter.unusedVariables false
set_option linter.unusedSimpArgs false
attribute [local go_sem high] run_minI run_maxI
attribute [local go_sem] upon2 cls_cell cls_frozen forall_const exists_eq_left'
attribute [local go_sem] FirstUpon
theorem hid_ext {w w1 : World} {P : World → Prop} (H : Hid (∀ W, Below w.heap.size w W → P W)) (hB : Below w.heap.size w w1) : Hid (∀ W, Ext2 w1 W → P W) := Lib.hid fun W hW => H.out W (hB.trans (Below.mono hW hB.size))
theorem hid_ext2 {w w1 : World} {P : World → Prop} (H : Hid (∀ W, Ext2 w W → P W)) (hE : Ext2 w w1) : Hid (∀ W, Ext2 w1 W → P W) := Lib.hid fun W hW => H.out W (hE.trans (Below.mono hW hE.size))
theorem ext_trans {w w1 w2 : World} (h : Ext2 w w1) (g : Ext2 w1 w2) : Ext2 w w2 := h.trans (Below.mono g h.size)
theorem below_ext {w w1 w2 : World} (h : Below w.heap.size w w1) (g : Ext2 w1 w2) : Below w.heap.size w w2 := h.trans (Below.mono g h.size)
theorem in_b (n lo hi : Int) (W : World) : Calls Tryd.prog 50 #[.int .i64 n, .int .i64 lo, .int .i64 hi] W fun e w' => e = .returned (.bool (inB n lo hi)) ∧ Below W.heap.size W w' := (in_any n lo hi W).mono fun e w' ⟨he, hw⟩ => ⟨he, by rw [← hw]; exact Below.refl _ _⟩
theorem out_b (n lo hi : Int) (W : World) : Calls Tryd.prog 40 #[.int .i64 n, .int .i64 lo, .int .i64 hi] W fun e w' => e = .returned (.bool (outB n lo hi)) ∧ Below W.heap.size W w' := (out_any n lo hi W).mono fun e w' ⟨he, hw⟩ => ⟨he, by rw [← hw]; exact Below.refl _ _⟩
/-- The error of a span that should lie from one number to another one. -/
def oddV (a b lo hi : Int) : Int := if outB a lo hi || outB b lo hi then 7 else if b < a then 2 else 0
set_option maxRecDepth 100000 in
set_option maxHeartbeats 2000000 in
theorem odd_any (a b lo hi : Int) (w : World) : Calls Tryd.prog 47 #[.agg #[.int .i64 a, .int .i64 b], .int .i64 lo, .int .i64 hi] w fun e w' => e = .returned (.int .i64 (oddV a b lo hi)) ∧ Below w.heap.size w w' := by
  obtain ⟨E, hE⟩ : ∃ E, E = oddV a b lo hi := ⟨_, rfl⟩
  have hE' := hE
  unfold oddV at hE'
  rw [← hE]
  have HE := Lib.hid hE'
  clear hE hE'
  obtain ⟨v1, hv1⟩ : ∃ v, v = outB a lo hi := ⟨_, rfl⟩
  obtain ⟨v2, hv2⟩ : ∃ v, v = outB b lo hi := ⟨_, rfl⟩
  have HV1 := Lib.hid hv1; have HV2 := Lib.hid hv2
  have HO1 : Hid (∀ W, Calls Tryd.prog 40 #[.int .i64 a, .int .i64 lo, .int .i64 hi] W fun e w' => e = .returned (.bool v1) ∧ W = w') := Lib.hid fun W => by rw [hv1]; exact out_any _ _ _ W
  have HO2 : Hid (∀ W, Calls Tryd.prog 40 #[.int .i64 b, .int .i64 lo, .int .i64 hi] W fun e w' => e = .returned (.bool v2) ∧ W = w') := Lib.hid fun W => by rw [hv2]; exact out_any _ _ _ W
  clear hv1 hv2
  go_enter Tryd.func47, Tryd.ntmps47
  go_wp2_with (fail)
  (with_reducible refine (HO1.out _).mono ?_)
  rintro e w' ⟨rfl, rfl⟩
  cases v1
  case true =>
    go_wp2_with (fail)
    go_ret
    exact ⟨ret_int (by rw [HE.out, ← HV1.out]; rfl), below_alloc _ _⟩
  case false =>
    go_wp2_with (fail)
    (with_reducible refine (HO2.out _).mono ?_)
    rintro e w' ⟨rfl, rfl⟩
    cases v2
    case true =>
      go_wp2_with (fail)
      go_ret
      exact ⟨ret_int (by rw [HE.out, ← HV1.out, ← HV2.out]; rfl), below_alloc _ _⟩
    case false =>
      by_cases h : b < a
      · go_wp2_with (fail)
        go_ret
        exact ⟨ret_int (by rw [HE.out, ← HV1.out, ← HV2.out, if_neg (by simp), if_pos (by omega)]), below_alloc _ _⟩
      · go_wp2_with (fail)
        go_ret
        exact ⟨ret_int (by rw [HE.out, ← HV1.out, ← HV2.out, if_neg (by simp), if_neg (by omega)]), below_alloc _ _⟩
theorem share_any (n r : Int) (w : World) (h1 : -90000 ≤ n * r) (h2 : n * r ≤ 90000) : Calls Tryd.prog 86 #[.int .i64 n, .int .i64 r] w fun e w' => e = .returned (.int .i64 (n * r / 100)) ∧ w = w' := by
  obtain ⟨m, hm⟩ : ∃ m, m = n * r := ⟨_, rfl⟩
  rw [← hm] at h1 h2 ⊢
  have hw : wrap64 (n * r) = m := by rw [← hm]; exact IntWalk.wrap64_in _ (by omega)
  clear hm
  by_cases h : m < 0
  · go_enter Tryd.func86, Tryd.ntmps86
    go_wp2_with (fail)
    go_ret
    exact ⟨ret_int (by omega), rfl⟩
  · go_enter Tryd.func86, Tryd.ntmps86
    go_wp2_with (fail)
    go_ret
    exact ⟨ret_int rfl, rfl⟩
theorem temp_any (n : Int) (w : World) : Calls Tryd.prog 63 #[.int .i64 n] w fun e w' => e = .returned (.bool (inB n (-300) 600)) ∧ w = w' := by
  obtain ⟨v, hv⟩ : ∃ v, v = inB n (-300) 600 := ⟨_, rfl⟩
  have HO : Hid (∀ W, Calls Tryd.prog 50 #[.int .i64 n, .int .i64 (-300), .int .i64 600] W fun e w' => e = .returned (.bool v) ∧ W = w') := Lib.hid fun W => by rw [hv]; exact in_any _ _ _ W
  rw [← hv]
  clear hv
  go_enter Tryd.func63, Tryd.ntmps63
  go_wp2_with (fail)
  (with_reducible refine (HO.out _).mono ?_)
  rintro e w' ⟨rfl, rfl⟩
  go_wp2_with (fail)
  go_ret
  exact ⟨rfl, rfl⟩
end Go.Proofs.YtkidicfpfknfoaaDoor
