/-
  slices.Backward over cuts, as an iterator; bench.Before.
-/
import Derived.Test.YtojomdojblgegaaGreatDoorBCut
import Derived.Test.YtojomdojblgegaaGreatDoorDIt
import Derived.Recover
import Derived.RecoverIn
import Derived.Defers
namespace Go.Proofs.YtojomdojblgegaaGreatDoor
open Go.RowKit D
set_option linter.unusedVariables false
set_option linter.unusedSimpArgs false
attribute [local go_sem high] run_minI run_maxI
attribute [local go_sem] upon2 cls_cell cls_frozen forall_const exists_eq_left'
attribute [local go_sem] FirstUpon
theorem leaveM_take {fn : Func} {R : Ending → World → Prop} {w1 : World} {d : Nat} {u : FrameMode} {tmps : Array Value} {ds : List Deferred} (hu : u ≠ .run) (hd : w1.heap[d]? = some (.deferred (some []))) (hr : LeavesInM Fence.wide 0 Tryz.prog fn tmps R ds u (w1.putObj d (.deferred none))) :
    LeavesInM Fence.wide 0 Tryz.prog fn tmps R ({ target := .collected d, args := #[] } :: ds) u w1 :=
  ⟨hu, .inl ⟨_, _, rfl, run_takeDeferred hd, hr⟩⟩
theorem leaves_nil {fn : Func} {tmps : Array Value} {R : Ending → World → Prop} {w : World} {v : Value} (h : (results fn tmps).run Tryz.prog w = .ok v w) (hr : R (.returned v) w) : LeavesInM Fence.wide 0 Tryz.prog fn tmps R [] .returning w := ⟨v, h, hr⟩
structure BackAt (bb : Nat) (s : Sl) (l : List Cut) (W : World) : Prop where
  box : W.heap[bb]? = some (.cells #[.slice s.a l.length s.cap] 91 (0, 0))
  row : CutsS W s l
theorem bef_drop {l : List Cut} {k : Nat} (hk : k < l.length) (x : Int) : bef (l.drop k) x = befS (ctD l k) (bef (l.drop (k + 1)) x) := by
  have e : l.drop k = ctD l k :: l.drop (k + 1) := by
    rw [List.drop_eq_getElem_cons hk]
    unfold ctD; rw [List.getD_eq_getElem?_getD, List.getElem?_eq_getElem hk]; rfl
  rw [e, bef]
theorem bef_in {l : List Cut} (hl : CutsIn l) {x : Int} (hx : 0 ≤ x ∧ x ≤ 200000) : ∀ k, k ≤ l.length → 0 ≤ bef (l.drop (l.length - k)) x ∧ bef (l.drop (l.length - k)) x ≤ 200000 + 200001 * k
  | 0, _ => by rw [Nat.sub_zero, List.drop_length]; simp only [bef]; omega
  | k + 1, h => by
    have ih := bef_in hl hx k (by omega)
    rw [bef_drop (by omega), show l.length - (k + 1) + 1 = l.length - k by omega]
    have := hl (l.length - (k + 1)) (by omega)
    unfold befS long; split <;> omega
attribute [local go_sem] Oper.semAt_some
end Go.Proofs.YtojomdojblgegaaGreatDoor
