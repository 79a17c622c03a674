/-
  Parts of slices of notes.
-/
import Derived.Test.YtojomdojblgegaaGreatDoorBSlc
import Derived.Test.YtojomdojblgegaaGreatDoorBMrg
namespace Go.Proofs.YtojomdojblgegaaGreatDoor
open Go.RowKit D
set_option linter.unusedVariables false
set_option linter.unusedSimpArgs false
attribute [local go_sem high] run_minI run_maxI
attribute [local go_sem] upon2 cls_cell cls_frozen forall_const exists_eq_left'
theorem run_notes_to (a : Option Addr) (len cap m : Nat) (hm : m ≤ cap) (w : World) : (Instr.slice 23 (.slice a len cap) none (some (.int .i64 (m : Int))) none).run Tryz.prog w = .ok (.slice (takeA a cap 8) m cap) w := by
  rw [run_slice_h w 23 a len cap (by kernel_rfl) .i64 (m : Int) (by omega) (by omega)]
  have h : (sizeOf (Tryz.prog.elem 23)).run Tryz.prog w = .ok 8 w := by kernel_rfl
  rw [h]; rfl
theorem run_notes_from (a : Option Addr) (len cap m : Nat) (hm : m ≤ len) (w : World) : (Instr.slice 23 (.slice a len cap) (some (.int .i64 (m : Int))) none none).run Tryz.prog w = .ok (.slice (dropA a cap m 8) (len - m) (cap - m)) w := by
  rw [run_slice_l w 23 a len cap (by kernel_rfl) .i64 (m : Int) (by omega) (by omega)]
  have h : (sizeOf (Tryz.prog.elem 23)).run Tryz.prog w = .ok 8 w := by kernel_rfl
  rw [h]; rfl
theorem ntC_take2 {l : List Note} {m i j : Nat} (hi : i < m) : ntC (l.take m) i j = ntC l i j := by
  have : ntD (l.take m) i = ntD l i := by unfold ntD; rw [List.getD_eq_getElem?_getD, List.getD_eq_getElem?_getD, List.getElem?_take_of_lt hi]
  unfold ntC; rw [this]
theorem ntC_drop2 {l : List Note} {m i j : Nat} : ntC (l.drop m) i j = ntC l (m + i) j := by
  have : ntD (l.drop m) i = ntD l (m + i) := by unfold ntD; rw [List.getD_eq_getElem?_getD, List.getD_eq_getElem?_getD, List.getElem?_drop]
  unfold ntC; rw [this]
theorem blk_grown {w w' : World} {row : Option Nat} (hg : w.grownBy w' row) {b : Nat} {o : Obj} (hb : w.heap[b]? = some o) (hne : some b ≠ row) : w'.heap[b]? = some o := by
  rw [hg.block b (blk_lt' hb) hne]; exact hb
theorem ins_len {O : List Note} {x : Note} {m : Nat} (hm : m ≤ O.length) : (O.take m ++ [x]).length = m + 1 := by rw [List.length_append, List.length_singleton, List.length_take]; omega
theorem ins_left {O : List Note} {x : Note} {m i j : Nat} (hm : m ≤ O.length) (hi : i < m + 1) : ntC (O.take m ++ x :: O.drop m) i j = ntC (O.take m ++ [x]) i j := by
  rw [show O.take m ++ x :: O.drop m = (O.take m ++ [x]) ++ O.drop m by simp]
  exact ntC_left (by rw [ins_len hm]; exact hi)
theorem ins_right {O : List Note} {x : Note} {m i j : Nat} (hm : m ≤ O.length) : ntC (O.take m ++ x :: O.drop m) (m + 1 + i) j = ntC O (m + i) j := by
  rw [show O.take m ++ x :: O.drop m = (O.take m ++ [x]) ++ O.drop m by simp, ← ins_len (x := x) hm, ntC_right, ntC_drop2]
end Go.Proofs.YtojomdojblgegaaGreatDoor
