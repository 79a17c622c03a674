/-
  Parts of slices.
-/
import Derived.Test.YtojomdojblgegaaGreatDoorBView
import Derived.Test.YtojomdojblgegaaGreatDoorBBase
namespace Go.Proofs.YtojomdojblgegaaGreatDoor
open Go.RowKit D
set_option linter.unusedVariables false
set_option linter.unusedSimpArgs false
attribute [local go_sem high] run_minI run_maxI
attribute [local go_sem] upon2 cls_cell cls_frozen forall_const exists_eq_left'
def takeA (a : Option Addr) (cap sz : Nat) : Option Addr := if cap = 0 then a else a.map (·.add (0 * sz))
def dropA (a : Option Addr) (cap m sz : Nat) : Option Addr := if cap = m then a else a.map (·.add (m * sz))
theorem addr_addA (b o k : Nat) : (⟨b, o, none⟩ : Addr).add k = ⟨b, o + k, none⟩ := by
  unfold Addr.add; split
  · rename_i h; rw [h]; rfl
  · rfl
theorem row_take {w : World} {s : Sl} {sz n m : Nat} {c : Nat → Nat → Value} (h : RowS w s sz n c) (hm : m ≤ n) : RowS w ⟨takeA s.a s.cap sz, s.cap⟩ sz m c := by
  have h1 := h.le; have h2 := h.max
  refine ⟨by simp only; omega, h2, fun i j hi hj => ?_⟩
  obtain ⟨b, off, ha, hc⟩ := h.cell i j (by omega) hj
  refine ⟨b, off, ?_, hc⟩
  unfold takeA
  rw [if_neg (by omega), ha, Option.map_some, addr_addA, Nat.zero_mul, Nat.add_zero]
theorem row_drop {w : World} {s : Sl} {sz n m : Nat} {c : Nat → Nat → Value} (h : RowS w s sz n c) (hm : m ≤ n) : RowS w ⟨dropA s.a s.cap m sz, s.cap - m⟩ sz (n - m) (fun i j => c (m + i) j) := by
  have h1 := h.le; have h2 := h.max
  refine ⟨by simp only; omega, by simp only; omega, fun i j hi hj => ?_⟩
  obtain ⟨b, off, ha, hc⟩ := h.cell (m + i) j (by omega) hj
  refine ⟨b, off + m * sz, ?_, ?_⟩
  · unfold dropA
    rw [if_neg (by omega), ha, Option.map_some, addr_addA]
  · rw [← hc]
    congr 2
    rw [Nat.add_mul]; omega
theorem rowS_congr {w : World} {s : Sl} {sz n : Nat} {c c' : Nat → Nat → Value} (h : RowS w s sz n c) (hc : ∀ i j, i < n → j < sz → c i j = c' i j) : RowS w s sz n c' :=
  ⟨h.le, h.max, fun i j hi hj => by
    obtain ⟨b, off, ha, h1⟩ := h.cell i j hi hj
    exact ⟨b, off, ha, by rw [h1, hc i j hi hj]⟩⟩
end Go.Proofs.YtojomdojblgegaaGreatDoor
