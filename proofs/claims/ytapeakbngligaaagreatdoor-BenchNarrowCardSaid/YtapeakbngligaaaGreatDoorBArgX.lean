/-
  BenchNarrow's argument Further as data.
-/
import Derived.Test.YtapeakbngligaaaGreatDoorBArgM
namespace Go.Proofs.YtapeakbngligaaaGreatDoor
open Go.RowKit Go.Deep Go.WideShapes D
set_option linter.unusedVariables false
set_option maxRecDepth 100000
/-- The index of a gap, and what is missing there by a further note. -/
structure Fur where
  which : Int
  lo : Int
  wide : Int
structure FurOk (x : Fur) : Prop where
  which : 0 ≤ x.which ∧ x.which ≤ 255
  lo : 0 ≤ x.lo ∧ x.lo ≤ 65535
  wide : 0 ≤ x.wide ∧ x.wide ≤ 65535
theorem cU8 : Tryz.prog.cellsOf 5 = 1 := by kernel_rfl
theorem cU16 : Tryz.prog.cellsOf 32 = 1 := by kernel_rfl
theorem cFur : Tryz.prog.cellsOf 55 = 3 := by kernel_rfl
theorem listN3 {α : Type} : ∀ {l : List α}, l.length = 3 → ∃ a0 a1 a2, l = [a0, a1, a2]
  | [a0, a1, a2], _ => ⟨a0, a1, a2, rfl⟩
section
variable {H : Type} {enc : TypeId × Value → H} {w : World} {base : Nat} {sp : Nat → Bool} {held : Bool} {fuel : Nat} {cs : List Value} {x : DataW H × List MemPlace} {r : Reach} {b0 : Nat} {v : Value} {d : DataW H} {p : List MemPlace}
theorem read_fur (h : DataW.trod enc Tryz.prog w base sp held fuel 55 cs = some x) : ∃ X : Fur, cs = [.int .u8 X.which, .int .u16 X.lo, .int .u16 X.wide] ∧ FurOk X := by
  obtain ⟨xs, k, -, -, hl, hxl, hx⟩ := DataW.trod_struct Tryz.underlying55 h
  rw [cFur] at hl
  obtain ⟨c0, c1, c2, rfl⟩ := listN3 hl
  have g : ∀ j, j < xs.length → ∃ y, xs[j]? = some y := fun j hj => ⟨_, List.getElem?_eq_getElem hj⟩
  have hn : xs.length = 3 := hxl
  obtain ⟨y0, g0⟩ := g 0 (by omega)
  have h0 : DataW.trod enc Tryz.prog w base sp held k 5 (List.take (Tryz.prog.cellsOf 5) (List.drop 0 [c0, c1, c2])) = some y0 := (hx 0 _ rfl).trans g0
  rw [cU8] at h0
  have h0 : DataW.trod enc Tryz.prog w base sp held k 5 [c0] = some y0 := h0
  obtain ⟨y1, g1⟩ := g 1 (by omega)
  have h1 : DataW.trod enc Tryz.prog w base sp held k 32 (List.take (Tryz.prog.cellsOf 32) (List.drop 1 [c0, c1, c2])) = some y1 := (hx 1 _ rfl).trans g1
  rw [cU16] at h1
  have h1 : DataW.trod enc Tryz.prog w base sp held k 32 [c1] = some y1 := h1
  obtain ⟨y2, g2⟩ := g 2 (by omega)
  have h2 : DataW.trod enc Tryz.prog w base sp held k 32 (List.take (Tryz.prog.cellsOf 32) (List.drop 2 [c0, c1, c2])) = some y2 := (hx 2 _ rfl).trans g2
  rw [cU16] at h2
  have h2 : DataW.trod enc Tryz.prog w base sp held k 32 [c2] = some y2 := h2
  obtain ⟨z0, e0, -, w0⟩ := DataW.trod_int Tryz.underlying5 h0
  obtain ⟨z1, e1, -, w1⟩ := DataW.trod_int Tryz.underlying32 h1
  obtain ⟨z2, e2, -, w2⟩ := DataW.trod_int Tryz.underlying32 h2
  simp only [List.cons.injEq, and_true] at e0 e1 e2
  exact ⟨⟨z0, z1, z2⟩, by rw [e0, e1, e2], ⟨u8_in w0, u16_in w1, u16_in w2⟩⟩
theorem arg_further (hv : Value.okWide Tryz.prog w r b0 55 v) (h : DataW.Trod enc Tryz.prog w base sp held 55 v d p) : ∃ X : Fur, v = .agg #[.int .u8 X.which, .int .u16 X.lo, .int .u16 X.wide] ∧ FurOk X := by
  obtain ⟨cs, rfl⟩ := agg_of Tryz.underlying55 hv
  obtain ⟨f, hf⟩ := h
  obtain ⟨X, hc, hX⟩ := read_fur hf
  exact ⟨X, by rw [show cs = cs.toList.toArray by simp, show cs.toList = _ from hc], hX⟩
end
end Go.Proofs.YtapeakbngligaaaGreatDoor
