/-
  Beginnings of slices: l[:n] of moves and of errors.
-/
import Derived.Test.YtkidicfpfknfoaaDoorVMove
namespace Go.Proofs.YtkidicfpfknfoaaDoor
open Go.RowKit D
set_option linter.unusedVariables false
def takeA (a : Option Addr) (cap sz : Nat) : Option Addr := if cap = 0 then a else a.map (·.add (0 * sz))
theorem addr_addA (b o k : Nat) : (⟨b, o, none⟩ : Addr).add k = ⟨b, o + k, none⟩ := by
  unfold Addr.add; split
  · rename_i h; rw [h]; rfl
  · rfl
theorem row_take {w : World} {s : Sl} {sz n m : Nat} {c : Nat → Nat → Value} (h : RowS w s sz n c) (hm : m ≤ n) : RowS w ⟨takeA s.a s.cap sz, s.cap⟩ sz m c := by
  have h1 := h.le; have h2 := h.max
  refine ⟨by simp only; omega, h2, fun i j hi hj => ?_⟩
  obtain ⟨b, off, ha, hc⟩ := h.cell i j (by omega) hj
  refine ⟨b, off, ?_, hc⟩
  unfold takeA
  rw [if_neg (by omega), ha, Option.map_some, addr_addA, Nat.zero_mul, Nat.add_zero]
theorem rowS_congr {w : World} {s : Sl} {sz n : Nat} {c c' : Nat → Nat → Value} (h : RowS w s sz n c) (hc : ∀ i j, i < n → j < sz → c i j = c' i j) : RowS w s sz n c' :=
  ⟨h.le, h.max, fun i j hi hj => by
    obtain ⟨b, off, ha, h1⟩ := h.cell i j hi hj
    exact ⟨b, off, ha, by rw [h1, hc i j hi hj]⟩⟩
theorem run_moves_to (a : Option Addr) (len cap m : Nat) (hm : m ≤ cap) (w : World) : (Instr.slice 42 (.slice a len cap) none (some (.int .i64 (m : Int))) none).run Tryd.prog w = .ok (.slice (takeA a cap 3) m cap) w := by
  rw [run_slice_h w 42 a len cap (by kernel_rfl) .i64 (m : Int) (by omega) (by omega)]
  have h : (sizeOf (Tryd.prog.elem 42)).run Tryd.prog w = .ok 3 w := by kernel_rfl
  rw [h]; rfl
theorem run_errs_to (a : Option Addr) (len cap m : Nat) (hm : m ≤ cap) (w : World) : (Instr.slice 47 (.slice a len cap) none (some (.int .i64 (m : Int))) none).run Tryd.prog w = .ok (.slice (takeA a cap 1) m cap) w := by
  rw [run_slice_h w 47 a len cap (by kernel_rfl) .i64 (m : Int) (by omega) (by omega)]
  have h : (sizeOf (Tryd.prog.elem 47)).run Tryd.prog w = .ok 1 w := by kernel_rfl
  rw [h]; rfl
theorem moves_take {w : World} {s : Sl} {l : List Mv} {k : Nat} (h : MovesS w s l) (hk : k ≤ l.length) : MovesS w ⟨takeA s.a s.cap 3, s.cap⟩ (l.take k) := by
  have h1 := row_take h hk
  have e : (l.take k).length = k := by rw [List.length_take]; omega
  unfold MovesS
  rw [e]
  exact rowS_congr h1 fun i j hi _ => by
    have : mvD (l.take k) i = mvD l i := by unfold mvD; simp [List.getD_eq_getElem?_getD, hi]
    match j with
    | 0 | 1 | 2 | _ + 3 => simp only [mvC, this]
theorem ints_take {w : World} {s : Sl} {l : List Int} {k : Nat} (h : IntsS w s l) (hk : k ≤ l.length) : IntsS w ⟨takeA s.a s.cap 1, s.cap⟩ (l.take k) := by
  have h1 := row_take h hk
  have e : (l.take k).length = k := by rw [List.length_take]; omega
  unfold IntsS
  rw [e]
  exact rowS_congr h1 fun i j hi _ => by
    have : intD (l.take k) i = intD l i := by unfold intD; simp [List.getD_eq_getElem?_getD, hi]
    simp only [intC, this]
end Go.Proofs.YtkidicfpfknfoaaDoor
