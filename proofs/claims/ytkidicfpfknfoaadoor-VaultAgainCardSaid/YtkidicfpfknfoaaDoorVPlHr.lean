/-
  Plain: the rooms of a can, hour by hour, by the moves taken one behind the other.
-/
import Derived.Test.YtkidicfpfknfoaaDoorVPlVal
namespace Go.Proofs.YtkidicfpfknfoaaDoor.D
set_option linter.unusedVariables false
/-- The room behind m moves, whatever their hours. -/
def atI (S : Site) (M : List Mv) (c : Nat) : Nat → Int
  | 0 => (cnD S.cans c).room
  | k + 1 => if (mvD M k).can = (c : Int) then (mvD M k).to_ else atI S M c k
def SortH (M : List Mv) : Prop := ∀ i j, i ≤ j → j < M.length → (mvD M i).hour ≤ (mvD M j).hour
theorem Kept.sort {S : Site} {M : List Mv} (h : Kept S M) : SortH M := fun i j hij hj => h.mono hij hj
theorem atI_eq {S : Site} {M : List Mv} {c : Nat} {h : Int} : ∀ {m : Nat}, (∀ i, i < m → (mvD M i).hour ≤ h) → atK S M c h m = atI S M c m
  | 0, _ => rfl
  | m + 1, hm => by
    rw [atK, atI, atI_eq fun i hi => hm i (by omega)]
    have := hm m (by omega)
    by_cases hc : (mvD M m).can = (c : Int)
    · rw [if_pos ⟨hc, this⟩, if_pos hc]
    · rw [if_neg (fun h => hc h.1), if_neg hc]
theorem atV_atI {S : Site} {M : List Mv} {c m : Nat} {h : Int} (hs : SortH M) (hm : m ≤ M.length) (h1 : ∀ i, i < m → (mvD M i).hour ≤ h) (h2 : m < M.length → h < (mvD M m).hour) : atV S M c h = atI S M c m := by
  rw [← atI_eq h1]
  unfold atV
  have : ∀ k, m ≤ k → k ≤ M.length → atK S M c h k = atK S M c h m := fun k hk hkl => by
    induction k with
    | zero => obtain rfl : m = 0 := by omega
              rfl
    | succ k ih =>
      rcases Nat.lt_or_ge k m with h' | h'
      · obtain rfl : m = k + 1 := by omega
        rfl
      · rw [atK, ih h' (by omega), if_neg]
        have := hs m k h' (by omega)
        have := h2 (by omega)
        omega
  exact this _ hm (Nat.le_refl _)
end Go.Proofs.YtkidicfpfknfoaaDoor.D
