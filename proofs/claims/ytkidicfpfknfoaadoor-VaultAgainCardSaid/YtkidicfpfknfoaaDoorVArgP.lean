/-
  Pairs of integers as arguments.
-/
import Derived.Test.YtkidicfpfknfoaaDoorVArgM
namespace Go.Proofs.YtkidicfpfknfoaaDoor
open Go.RowKit Go.Deep Go.WideShapes D
set_option linter.unusedVariables false
set_option maxRecDepth 100000
theorem flPair : FlatI Tryd.prog 59 (2 * 1) := FlatI.array Tryd.underlying59 flInt (by kernel_rfl)
theorem agg_arr {r : Reach} {w : World} {b0 n : Nat} {t e : TypeId} {v : Value} (hs : Tryd.prog.underlying t = some (.array n e)) (hv : Value.okWide Tryd.prog w r b0 t v) : ∃ cs, v = .agg cs := by
  cases v <;> simp_all [Value.okWide]
theorem arg_pair {H : Type} {enc : TypeId × Value → H} {w : World} {base : Nat} {sp : Nat → Bool} {held : Bool} {r : Reach} {b0 : Nat} {v : Value} {d : DataW H} {p : List MemPlace} (hv : Value.okWide Tryd.prog w r b0 59 v) (h : DataW.Trod enc Tryd.prog w base sp held 59 v d p) : ∃ a b : Int, v = .agg #[.int .i64 a, .int .i64 b] := by
  obtain ⟨cs, rfl⟩ := agg_arr Tryd.underlying59 hv
  obtain ⟨f, hf⟩ := h
  obtain ⟨z, hc⟩ := flPair.cells hf
  exact ⟨z 0, z 1, by rw [show cs = cs.toList.toArray by simp, show cs.toList = _ from hc]; rfl⟩
end Go.Proofs.YtkidicfpfknfoaaDoor
