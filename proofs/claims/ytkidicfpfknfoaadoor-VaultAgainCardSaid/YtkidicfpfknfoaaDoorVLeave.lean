/-
  Leaving a function that ranges over a function.
-/
import Derived.Test.YtkidicfpfknfoaaDoorDMem
import Derived.Test.YtkidicfpfknfoaaDoorDRegX
import Derived.Recover
import Derived.RecoverIn
import Derived.Defers
import Derived.Shelf.Abstract
namespace Go.Proofs.YtkidicfpfknfoaaDoor
open Go.RowKit D
set_option linter.unusedVariables false
set_option linter.unusedSimpArgs false
attribute [local go_sem high] run_minI run_maxI
theorem leaveM_take {fn : Func} {R : Ending → World → Prop} {w1 : World} {d : Nat} {u : FrameMode} {tmps : Array Value} {ds : List Deferred} (hu : u ≠ .run) (hd : w1.heap[d]? = some (.deferred (some []))) (hr : LeavesInM Fence.wide 0 Tryd.prog fn tmps R ds u (w1.putObj d (.deferred none))) :
    LeavesInM Fence.wide 0 Tryd.prog fn tmps R ({ target := .collected d, args := #[] } :: ds) u w1 :=
  ⟨hu, .inl ⟨_, _, rfl, run_takeDeferred hd, hr⟩⟩
theorem blk_put {W : World} {b d : Nat} {x o : Obj} (h : W.heap[b]? = some x) (hne : b ≠ d) : (W.putObj d o).heap[b]? = some x := (World.putObj_heap_other hne).trans h
theorem below_put {B d : Nat} {w W : World} {o : Obj} (h : Below B w W) (hB : B ≤ d) : Below B w (W.putObj d o) :=
  ⟨h.os, h.tape, h.output, Nat.le_trans h.size (grownBy_putObj' W d o).size, fun k hk => (World.putObj_heap_other (by omega)).trans (h.block k hk)⟩
end Go.Proofs.YtkidicfpfknfoaaDoor
