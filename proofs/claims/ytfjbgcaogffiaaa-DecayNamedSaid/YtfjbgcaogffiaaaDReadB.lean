/-
  More arguments as data: numbers, slices of numbers.
-/
import Derived.Test.YtfjbgcaogffiaaaDReadA
namespace Go.Proofs.Ytfjbgcaogffiaaa
open Go.RowKit Go.Deep Go.WideShapes D
set_option linter.unusedVariables false
set_option maxRecDepth 100000
section
variable {H : Type} {enc : TypeId × Value → H} {w : World} {base : Nat} {sp : Nat → Bool} {held : Bool} {fuel : Nat} {cs : List Value} {x : DataW H × List MemPlace}
theorem read_ints (h : DataW.trod enc Try.prog w base sp held fuel 44 cs = some x) : ∃ (s : Sl) (l : List Int), cs = [.slice s.a l.length s.cap] ∧ IntsS w s l := by
  obtain ⟨s, n, z, rfl, hr⟩ := slice_flat Try.underlying44 flInt (by omega) h
  refine ⟨s, (List.range n).map fun i => z i 0, by simp, ?_⟩
  unfold IntsS
  rw [List.length_map, List.length_range]
  refine ⟨hr.le, hr.max, fun i j hi hj => ?_⟩
  obtain ⟨b, off, h1, h2⟩ := hr.cell i j hi hj
  refine ⟨b, off, h1, h2.trans ?_⟩
  obtain rfl : j = 0 := by omega
  simp [intC, intD, hi]
theorem cells_one {v u : Value} (h : v.cells.toList = [u]) (hu : ∀ cs, u ≠ .agg cs) (hv : ∀ cs, v ≠ .agg cs) : v = u := by
  cases v <;> simp_all [Value.cells]
theorem arg_ints {r : Reach} {b0 : Nat} {v : Value} {d : DataW H} {p : List MemPlace} (hv : Value.okWide Try.prog w r b0 44 v) (h : DataW.Trod enc Try.prog w base sp held 44 v d p) : ∃ (l : List Int) (s : Sl), v = .slice s.a l.length s.cap ∧ IntsS w s l := by
  obtain ⟨a, n, c, rfl⟩ := okWide_slice Try.underlying44 hv
  obtain ⟨f, hf⟩ := h
  obtain ⟨s, l, hc, hl⟩ := read_ints hf
  simp only [Value.cells, List.cons.injEq, and_true] at hc
  exact ⟨l, s, hc, hl⟩
theorem okWide_int' {r : Reach} {b0 : Nat} {t : TypeId} {k : IntKind} {v : Value} (ht : Try.prog.underlying t = some (.int k)) (hv : Value.okWide Try.prog w r b0 t v) : ∃ n, v = .int k n := by
  simp only [Value.okWide, ht, Cell.okWide] at hv
  cases v <;> simp_all [Cell.ok, IntKind.has]
theorem arg_int {r : Reach} {b0 : Nat} {v : Value} {d : DataW H} {p : List MemPlace} (hv : Value.okWide Try.prog w r b0 3 v) (h : DataW.Trod enc Try.prog w base sp held 3 v d p) : ∃ n : Int, v = .int .i64 n ∧ -9223372036854775808 ≤ n ∧ n ≤ 9223372036854775807 := by
  obtain ⟨n, rfl⟩ := okWide_int' Try.underlying3 hv
  obtain ⟨f, hf⟩ := h
  obtain ⟨z, hz, -, hw⟩ := DataW.trod_int Try.underlying3 hf
  simp only [Value.cells, List.cons.injEq, and_true] at hz
  obtain rfl : n = z := by injection hz
  have e1 : IntKind.i64.min = -9223372036854775808 := rfl
  have e2 : IntKind.i64.max = 9223372036854775807 := rfl
  simp only [Lit.wf, Bool.and_eq_true, decide_eq_true_eq, e1, e2] at hw
  exact ⟨n, rfl, hw⟩
end
end Go.Proofs.Ytfjbgcaogffiaaa
