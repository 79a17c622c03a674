/-
  VaultBest, plain: the list of rooms that the law asks.
-/
import Derived.Test.YtkidicfpfknfoaaDoorVPlBst
namespace Go.Proofs.YtkidicfpfknfoaaDoor.D
set_option linter.unusedVariables false
def lstK (n fr : Nat) (R : List Int) : Nat → List Nat
  | 0 => [fr]
  | i + 1 => lstK n fr R i ++ [(intD R i).toNat % n]
theorem lstK_len {n fr : Nat} {R : List Int} : ∀ i, (lstK n fr R i).length = i + 1
  | 0 => rfl
  | i + 1 => by rw [lstK, List.length_append, lstK_len i]; rfl
theorem lstK_zero {n fr : Nat} {R : List Int} : ∀ i, natD (lstK n fr R i) 0 = fr
  | 0 => rfl
  | i + 1 => by rw [lstK, natD_app (by rw [lstK_len]; omega), lstK_zero i]
theorem lstK_in {n fr : Nat} {R : List Int} (hf : fr < n) : ∀ i k, k < i + 1 → natD (lstK n fr R i) k < n
  | 0, k, h => by obtain rfl : k = 0 := by omega
                  exact hf
  | i + 1, k, h => by
    rw [lstK]
    rcases Nat.lt_or_ge k (i + 1) with h1 | h1
    · rw [natD_app (by rw [lstK_len]; exact h1)]; exact lstK_in hf i k h1
    · obtain rfl : k = i + 1 := by omega
      have := natD_new (lstK n fr R i) ((intD R i).toNat % n)
      rw [lstK_len] at this
      rw [this]; exact Nat.mod_lt _ (by omega)
def lstF (n fr to : Nat) (R : List Int) : List Nat := if fr = to then [fr] else lstK n fr R (min R.length 3) ++ [to]
theorem lstF_same {n fr to : Nat} {R : List Int} (h : fr = to) : lstF n fr to R = [fr] := if_pos h
theorem lstF_other {n fr to : Nat} {R : List Int} (h : ¬ fr = to) : lstF n fr to R = lstK n fr R (min R.length 3) ++ [to] := if_neg h
structure LstOk (n fr to : Nat) (L : List Nat) : Prop where
  one : 1 ≤ L.length
  five : L.length ≤ 5
  first : natD L 0 = fr
  last : natD L (L.length - 1) = to
  in_ : ∀ k, k < L.length → natD L k < n
theorem lstF_ok {n fr to : Nat} {R : List Int} (hf : fr < n) (ht : to < n) : LstOk n fr to (lstF n fr to R) := by
  by_cases h : fr = to
  · rw [lstF_same h]
    exact ⟨Nat.le_refl _, by simp, rfl, h, fun k hk => by obtain rfl : k = 0 := by simpa using hk
                                                          exact hf⟩
  · rw [lstF_other h]
    have hl : (lstK n fr R (min R.length 3)).length = min R.length 3 + 1 := lstK_len _
    have hl2 : (lstK n fr R (min R.length 3) ++ [to]).length = min R.length 3 + 2 := by rw [List.length_append, hl]; rfl
    refine ⟨by omega, by omega, by rw [natD_app (by omega), lstK_zero], ?_, fun k hk => ?_⟩
    · have := natD_new (lstK n fr R (min R.length 3)) to
      rw [hl] at this
      rw [hl2]; exact this
    · rcases Nat.lt_or_ge k (min R.length 3 + 1) with h1 | h1
      · rw [natD_app (by omega)]; exact lstK_in hf _ k h1
      · obtain rfl : k = min R.length 3 + 1 := by omega
        have := natD_new (lstK n fr R (min R.length 3)) to
        rw [hl] at this
        rw [this]; exact ht
theorem best_end {S : Site} {base : Int} {t : Span} {fr to : Nat} {L : List Nat} (hL : LstOk S.rooms.length fr to L) (hd : ∀ i, i < L.length → dupB L i = false) (hb : ∀ i, i < L.length → 0 < i → barred S base (natD L i) = false) (ho : (thrO S t L).2 = true) :
    0 ≤ (bestP S base t fr to).1 ∧ (bestP S base t fr to).1 ≤ (thrO S t L).1 := by
  unfold thrO at ho ⊢
  cases e : thrK S t L (L.length - 1) with
  | none => rw [e] at ho; cases ho
  | some x =>
    obtain ⟨o, u⟩ := x
    refine best_le (L := L) ⟨hd, fun i hi => ?_⟩ hL.one hL.five hL.first hL.last (fun x hx => ?_) e
    · rcases Nat.eq_zero_or_pos i with h | h
      · subst h; rfl
      · rw [hb i hi h, Bool.and_false]
    · obtain ⟨i, hi, rfl⟩ := List.getElem_of_mem hx
      have := hL.in_ i hi
      unfold natD at this
      rwa [List.getD_eq_getElem?_getD, List.getElem?_eq_getElem hi] at this
theorem dup_none {L : List Nat} {i : Nat} (h : ∀ k, k < i → natD L k ≠ natD L i) : dupB L i = false := by
  unfold dupB anyF
  rw [firstN_none fun k hk => decide_eq_false (h k hk)]
  simp
end Go.Proofs.YtkidicfpfknfoaaDoor.D
