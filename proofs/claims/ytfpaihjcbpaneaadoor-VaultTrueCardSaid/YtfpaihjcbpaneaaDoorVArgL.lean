/-
  A can's life as an argument.
-/
import Derived.Test.YtfpaihjcbpaneaaDoorVTrA
namespace Go.Proofs.YtfpaihjcbpaneaaDoor
open Go.RowKit Go.Deep Go.WideShapes D
set_option linter.unusedVariables false
set_option maxRecDepth 100000
theorem cU8 : Tryd.prog.cellsOf 5 = 1 := by kernel_rfl
theorem cU8s : Tryd.prog.cellsOf 30 = 1 := by kernel_rfl
theorem cLife : Tryd.prog.cellsOf 32 = 6 := by kernel_rfl
theorem listN6 {α : Type} : ∀ {l : List α}, l.length = 6 → ∃ a0 a1 a2 a3 a4 a5, l = [a0, a1, a2, a3, a4, a5]
  | [a0, a1, a2, a3, a4, a5], _ => ⟨a0, a1, a2, a3, a4, a5, rfl⟩
/-- The slices of a life. -/
structure LSl where
  t : Sl
  d : Sl
  r : Sl
  o : Sl
structure LifeAt (w : World) (X : D.Life) (q : LSl) : Prop where
  can : 0 ≤ X.can ∧ X.can ≤ 255
  days : 0 ≤ X.days ∧ X.days ≤ 255
  t : KindS .u8 w q.t X.temps
  d : KindS .u8 w q.d X.damps
  r : KindS .u8 w q.r X.rates
  o : KindS .u8 w q.o X.rounded
theorem LifeAt.below {w w' : World} {X : D.Life} {q : LSl} (h : LifeAt w X q) (hB : Ext2 w w') : LifeAt w' X q := ⟨h.can, h.days, h.t.below hB, h.d.below hB, h.r.below hB, h.o.below hB⟩
section
variable {H : Type} {enc : TypeId × Value → H} {w : World} {base : Nat} {sp : Nat → Bool} {held : Bool} {fuel : Nat} {cs : List Value} {x : DataW H × List MemPlace}
theorem read_u8 (h : DataW.trod enc Tryd.prog w base sp held fuel 5 cs = some x) : ∃ z : Int, cs = [.int .u8 z] ∧ 0 ≤ z ∧ z ≤ 255 := by
  obtain ⟨z, hc, -, hw⟩ := DataW.trod_int Tryd.underlying5 h
  exact ⟨z, hc, u8_in hw⟩
theorem read_life (h : DataW.trod enc Tryd.prog w base sp held fuel 32 cs = some x) : ∃ (X : D.Life) (q : LSl), cs = [.int .u8 X.can, .int .u8 X.days, .slice q.t.a X.temps.length q.t.cap, .slice q.d.a X.damps.length q.d.cap, .slice q.r.a X.rates.length q.r.cap, .slice q.o.a X.rounded.length q.o.cap] ∧ LifeAt w X q := by
  obtain ⟨xs, k, -, -, hl, hxl, hx⟩ := DataW.trod_struct Tryd.underlying32 h
  rw [cLife] at hl
  obtain ⟨c0, c1, c2, c3, c4, c5, rfl⟩ := listN6 hl
  have g : ∀ j, j < xs.length → ∃ y, xs[j]? = some y := fun j hj => ⟨_, List.getElem?_eq_getElem hj⟩
  have hn : xs.length = 6 := hxl
  obtain ⟨y0, g0⟩ := g 0 (by omega)
  have h0 : DataW.trod enc Tryd.prog w base sp held k 5 (List.take (Tryd.prog.cellsOf 5) (List.drop 0 [c0, c1, c2, c3, c4, c5])) = some y0 := (hx 0 _ rfl).trans g0
  rw [cU8] at h0
  replace h0 : DataW.trod enc Tryd.prog w base sp held k 5 [c0] = some y0 := h0
  obtain ⟨y1, g1⟩ := g 1 (by omega)
  have h1 : DataW.trod enc Tryd.prog w base sp held k 5 (List.take (Tryd.prog.cellsOf 5) (List.drop 1 [c0, c1, c2, c3, c4, c5])) = some y1 := (hx 1 _ rfl).trans g1
  rw [cU8] at h1
  replace h1 : DataW.trod enc Tryd.prog w base sp held k 5 [c1] = some y1 := h1
  obtain ⟨y2, g2⟩ := g 2 (by omega)
  have h2 : DataW.trod enc Tryd.prog w base sp held k 30 (List.take (Tryd.prog.cellsOf 30) (List.drop 2 [c0, c1, c2, c3, c4, c5])) = some y2 := (hx 2 _ rfl).trans g2
  rw [cU8s] at h2
  replace h2 : DataW.trod enc Tryd.prog w base sp held k 30 [c2] = some y2 := h2
  obtain ⟨y3, g3⟩ := g 3 (by omega)
  have h3 : DataW.trod enc Tryd.prog w base sp held k 30 (List.take (Tryd.prog.cellsOf 30) (List.drop 3 [c0, c1, c2, c3, c4, c5])) = some y3 := (hx 3 _ rfl).trans g3
  rw [cU8s] at h3
  replace h3 : DataW.trod enc Tryd.prog w base sp held k 30 [c3] = some y3 := h3
  obtain ⟨y4, g4⟩ := g 4 (by omega)
  have h4 : DataW.trod enc Tryd.prog w base sp held k 30 (List.take (Tryd.prog.cellsOf 30) (List.drop 4 [c0, c1, c2, c3, c4, c5])) = some y4 := (hx 4 _ rfl).trans g4
  rw [cU8s] at h4
  replace h4 : DataW.trod enc Tryd.prog w base sp held k 30 [c4] = some y4 := h4
  obtain ⟨y5, g5⟩ := g 5 (by omega)
  have h5 : DataW.trod enc Tryd.prog w base sp held k 30 (List.take (Tryd.prog.cellsOf 30) (List.drop 5 [c0, c1, c2, c3, c4, c5])) = some y5 := (hx 5 _ rfl).trans g5
  rw [cU8s] at h5
  replace h5 : DataW.trod enc Tryd.prog w base sp held k 30 [c5] = some y5 := h5
  obtain ⟨z0, e0, b0⟩ := read_u8 h0
  obtain ⟨z1, e1, b1⟩ := read_u8 h1
  obtain ⟨s2, l2, e2, r2⟩ := read_kinds Tryd.underlying30 flU8 h2
  obtain ⟨s3, l3, e3, r3⟩ := read_kinds Tryd.underlying30 flU8 h3
  obtain ⟨s4, l4, e4, r4⟩ := read_kinds Tryd.underlying30 flU8 h4
  obtain ⟨s5, l5, e5, r5⟩ := read_kinds Tryd.underlying30 flU8 h5
  simp only [List.cons.injEq, and_true] at e0 e1 e2 e3 e4 e5
  exact ⟨⟨z0, z1, l2, l3, l4, l5⟩, ⟨s2, s3, s4, s5⟩, by rw [e0, e1, e2, e3, e4, e5], ⟨b0, b1, r2, r3, r4, r5⟩⟩
theorem arg_life {r : Reach} {b0 : Nat} {v : Value} {d : DataW H} {p : List MemPlace} (hv : Value.okWide Tryd.prog w r b0 32 v) (h : DataW.Trod enc Tryd.prog w base sp held 32 v d p) : ∃ (X : D.Life) (q : LSl), v = .agg #[.int .u8 X.can, .int .u8 X.days, .slice q.t.a X.temps.length q.t.cap, .slice q.d.a X.damps.length q.d.cap, .slice q.r.a X.rates.length q.r.cap, .slice q.o.a X.rounded.length q.o.cap] ∧ LifeAt w X q := by
  obtain ⟨cs, rfl⟩ := agg_of Tryd.underlying32 hv
  obtain ⟨f, hf⟩ := h
  obtain ⟨X, q, hc, ht⟩ := read_life hf
  exact ⟨X, q, by rw [show cs = cs.toList.toArray by simp, show cs.toList = _ from hc], ht⟩
end
end Go.Proofs.YtfpaihjcbpaneaaDoor
