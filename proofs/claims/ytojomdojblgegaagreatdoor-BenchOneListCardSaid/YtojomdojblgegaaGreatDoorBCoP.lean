/-
  slices.Collect over pieces; bench.Pieces.
  bench.Pieces.
-/
import Derived.Test.YtojomdojblgegaaGreatDoorBGps
namespace Go.Proofs.YtojomdojblgegaaGreatDoor
open Go.RowKit D
set_option linter.unusedVariables false
set_option linter.unusedSimpArgs false
attribute [local go_sem high] run_minI run_maxI
attribute [local go_sem] upon2 cls_cell cls_frozen forall_const exists_eq_left'
attribute [local go_sem] FirstUpon atBlk_cell Oper.semAt_some
structure ColI (N : List Note) (F n2 : Nat) (w : World) (C k : Nat) (W : World) : Prop where
  bel : Below w.heap.size w W
  sz : C ≤ W.heap.size
  row : ∃ v, W.heap[n2]? = some (.cells #[v] 78 (0, 0)) ∧ OwnR W C 125 3 v ((pieceK N F).take k).length (pcC ((pieceK N F).take k))
theorem ColI.sb {N : List Note} {F n2 A : Nat} {w : World} {C k : Nat} {W W' : World} (h : ColI N F n2 w C k W) (hs : Sb A C W W') (hA : w.heap.size ≤ A ∧ n2 < A) : ColI N F n2 w C k W' := by
  obtain ⟨h1, h2, v, h3, h4⟩ := h
  exact ⟨h1.trans (hs.bel.mono hA.1), Nat.le_trans h2 hs.bel.size, v, (hs.bel.block _ hA.2).trans h3, h4.sb hs (Nat.le_refl _)⟩
theorem ColI.ext {N : List Note} {F n2 : Nat} {w : World} {C k : Nat} {W W' : World} (h : ColI N F n2 w C k W) (hs : Ext2 W W') : ColI N F n2 w C k W' := by
  obtain ⟨h1, h2, v, h3, h4⟩ := h
  exact ⟨below_ext h1 hs, Nat.le_trans h2 hs.size, v, hs.blk h3, h4.below hs⟩
end Go.Proofs.YtojomdojblgegaaGreatDoor
namespace Go.Proofs.YtojomdojblgegaaGreatDoor
open Go.RowKit D
set_option linter.unusedVariables false
set_option linter.unusedSimpArgs false
attribute [local go_sem high] run_minI run_maxI
attribute [local go_sem] upon2 cls_cell cls_frozen forall_const exists_eq_left'
attribute [local go_sem] FirstUpon atBlk_cell
end Go.Proofs.YtojomdojblgegaaGreatDoor
