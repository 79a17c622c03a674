/-
  sort.Search: a place at which the test turns.
-/
import Derived.Test.YtfjbgcaogffiaaaDBase
namespace Go.Proofs.Ytfjbgcaogffiaaa
open Go.RowKit D
set_option linter.unusedVariables false
set_option linter.unusedSimpArgs false
attribute [local go_sem high] run_minI run_maxI
def Turns (p : Nat → Bool) (n k : Nat) : Prop := k ≤ n ∧ (0 < k → p (k - 1) = false) ∧ (k < n → p k = true)
set_option maxHeartbeats 800000 in
theorem search_any {g : Nat} {lb : Array Value} {p : Nat → Bool} {n : Nat} {w : World} (hn : n ≤ 4000000000) (eg : ∀ args w, (callFunc g args).run Try.prog w = .ok (.enter g args) w)
    (hp : ∀ (i : Nat) (W : World), i < n → Below w.heap.size w W → Calls Try.prog g (#[.int .i64 (i : Int)] ++ lb) W fun e w' => e = .returned (.bool (p i)) ∧ Below W.heap.size W w') :
    Calls Try.prog 85 #[.int .i64 (n : Int), .func (.func g) #[] lb] w fun e w' => (∃ k : Nat, e = .returned (.int .i64 (k : Int)) ∧ Turns p n k) ∧ Below w.heap.size w w' := by
  have HP := Lib.hid hp; clear hp
  go_enter Try.func85, Try.ntmps85
  go_wp2_with (fail)
  go_loopw [5, 6] (fun i j wr => ∃ a b : Nat, a ≤ b ∧ b ≤ n ∧ i = .int .i64 a ∧ j = .int .i64 b ∧ (0 < a → p (a - 1) = false) ∧ (b < n → p b = true) ∧ Below w.heap.size w wr) (fun i j _ => (intOf j).toNat - (intOf i).toNat)
  case atStart => exact ⟨0, n, by omega, by omega, rfl, rfl, fun h => absurd h (by omega), fun h => absurd h (by omega), Below.refl _ _⟩
  case round =>
    obtain ⟨a, b, hab, hbn, rfl, rfl, ha, hb, hB⟩ := hrel
    have HA := Lib.hid ha; have HBb := Lib.hid hb; clear ha hb
    by_cases hlt : a < b
    · obtain ⟨m, hm⟩ : ∃ m : Nat, m = (a + b) / 2 := ⟨_, rfl⟩
      have em : ((a : Int) + (b : Int)) / 2 = (m : Int) := by omega
      have hm1 : a ≤ m := by omega
      have hm2 : m < b := by omega
      have EM := Lib.hid em; clear em hm
      go_wp2_with (fail)
      rw [EM.out]
      refine (HP.out m _ (by omega) hB).mono ?_
      rintro e w1 ⟨rfl, hb1⟩
      have B1 : Below w.heap.size w w1 := hB.trans (hb1.mono hB.size)
      clear hb1
      have hp' : p m = true ∨ p m = false := by cases p m <;> simp
      rcases hp' with h | h
      · rw [h]
        have HM := Lib.hid h; clear h
        go_wp2_with (fail)
        go_roundw
        case rel => exact ⟨a, m, by omega, by omega, rfl, rfl, HA.out, fun _ => HM.out, B1⟩
        case measure => simp [intOf]; omega
      · rw [h]
        have HM := Lib.hid h; clear h
        go_wp2_with (fail)
        go_roundw
        case rel => exact ⟨m + 1, b, by omega, by omega, by go_num, rfl, fun _ => HM.out, HBb.out, B1⟩
        case measure => simp [intOf]; omega
    · obtain rfl : a = b := by omega
      go_wp2_with (fail)
      go_ret
      exact ⟨⟨a, rfl, hbn, HA.out, HBb.out⟩, hB⟩
theorem turns_eq {p : Nat → Bool} {n k m : Nat} (h : Turns p n k) (hm : m ≤ n) (h0 : ∀ i, i < m → p i = false) (h1 : ∀ i, m ≤ i → i < n → p i = true) : k = m := by
  obtain ⟨hk, ha, hb⟩ := h
  rcases Nat.lt_trichotomy k m with h | h | h
  · have := hb (by omega); rw [h0 k h] at this; cases this
  · exact h
  · have := ha (by omega); rw [h1 (k - 1) (by omega) (by omega)] at this; cases this
end Go.Proofs.Ytfjbgcaogffiaaa
