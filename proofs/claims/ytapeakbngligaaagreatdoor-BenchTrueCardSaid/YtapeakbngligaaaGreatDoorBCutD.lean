/-
  slices.Backward over cuts, as an iterator; bench.Before.
-/
import Derived.Test.YtapeakbngligaaaGreatDoorBCut
import Derived.Test.YtapeakbngligaaaGreatDoorDIt
import Derived.Recover
import Derived.RecoverIn
import Derived.Defers
namespace Go.Proofs.YtapeakbngligaaaGreatDoor
open Go.RowKit D
set_option linter.unusedVariables false
set_option linter.unusedSimpArgs false
attribute [local go_sem high] run_minI run_maxI
attribute [local go_sem] upon2 cls_cell cls_frozen forall_const exists_eq_left'
attribute [local go_sem] FirstUpon
theorem leaveM_take {fn : Func} {R : Ending → World → Prop} {w1 : World} {d : Nat} {u : FrameMode} {tmps : Array Value} {ds : List Deferred} (hu : u ≠ .run) (hd : w1.heap[d]? = some (.deferred (some []))) (hr : LeavesInM Fence.wide 0 Tryz.prog fn tmps R ds u (w1.putObj d (.deferred none))) :
    LeavesInM Fence.wide 0 Tryz.prog fn tmps R ({ target := .collected d, args := #[] } :: ds) u w1 :=
  ⟨hu, .inl ⟨_, _, rfl, run_takeDeferred hd, hr⟩⟩
theorem leaves_nil {fn : Func} {tmps : Array Value} {R : Ending → World → Prop} {w : World} {v : Value} (h : (results fn tmps).run Tryz.prog w = .ok v w) (hr : R (.returned v) w) : LeavesInM Fence.wide 0 Tryz.prog fn tmps R [] .returning w := ⟨v, h, hr⟩
attribute [local go_sem] Oper.semAt_some
end Go.Proofs.YtapeakbngligaaaGreatDoor
