/-
  A job as data.
-/
import Derived.Test.YtahgbecfaihfpaaDoorTArgM
namespace Go.Proofs.YtahgbecfaihfpaaDoor
open Go.RowKit Go.Deep Go.WideShapes D
set_option linter.unusedVariables false
set_option maxRecDepth 100000
theorem list11 {α : Type} : ∀ {l : List α}, l.length = 11 → ∃ a b c d e f g h i j k, l = [a, b, c, d, e, f, g, h, i, j, k]
  | [a, b, c, d, e, f, g, h, i, j, k], _ => ⟨a, b, c, d, e, f, g, h, i, j, k, rfl⟩
section
variable {H : Type} {enc : TypeId × Value → H} {w : World} {base : Nat} {sp : Nat → Bool} {held : Bool} {fuel : Nat} {cs : List Value} {x : DataW H × List MemPlace}
theorem read_job (h : DataW.trod enc Tryd.prog w base sp held fuel 36 cs = some x) : ∃ (F : Font) (s : FSl) (R : Rul) (t : ByteArray), cs = [.int .i64 F.high, .int .i64 F.space, .slice s.g.a F.glyphs.length s.g.cap, .slice s.k.a F.kerns.length s.k.cap, .int .i64 R.measure, .int .i64 R.lines, .int .i64 R.lead, .int .i64 R.short, .int .i64 R.extra, .int .i64 R.ink, .string t] ∧ FontAt w F s ∧ t.size ≤ maxLen := by
  obtain ⟨xs, k, -, -, hl, hxl, hx⟩ := DataW.trod_struct Tryd.underlying36 h
  rw [cJob] at hl
  obtain ⟨c0, c1, c2, c3, c4, c5, c6, c7, c8, c9, c10, rfl⟩ := list11 hl
  have g : ∀ j, j < xs.length → ∃ y, xs[j]? = some y := fun j hj => ⟨_, List.getElem?_eq_getElem hj⟩
  have hn : xs.length = 3 := hxl
  obtain ⟨y0, g0⟩ := g 0 (by omega); obtain ⟨y1, g1⟩ := g 1 (by omega); obtain ⟨y2, g2⟩ := g 2 (by omega)
  have h0 : DataW.trod enc Tryd.prog w base sp held k 25 (List.take (Tryd.prog.cellsOf 25) (List.drop 0 [c0, c1, c2, c3, c4, c5, c6, c7, c8, c9, c10])) = some y0 := (hx 0 _ rfl).trans g0
  rw [cFont] at h0
  have h0 : DataW.trod enc Tryd.prog w base sp held k 25 [c0, c1, c2, c3] = some y0 := h0
  have h1 : DataW.trod enc Tryd.prog w base sp held k 34 (List.take (Tryd.prog.cellsOf 34) (List.drop 4 [c0, c1, c2, c3, c4, c5, c6, c7, c8, c9, c10])) = some y1 := (hx 1 _ rfl).trans g1
  rw [cTiRule] at h1
  have h1 : DataW.trod enc Tryd.prog w base sp held k 34 [c4, c5, c6, c7, c8, c9] = some y1 := h1
  have h2 : DataW.trod enc Tryd.prog w base sp held k 9 (List.take (Tryd.prog.cellsOf 9) (List.drop 10 [c0, c1, c2, c3, c4, c5, c6, c7, c8, c9, c10])) = some y2 := (hx 2 _ rfl).trans g2
  rw [cStr] at h2
  have h2 : DataW.trod enc Tryd.prog w base sp held k 9 [c10] = some y2 := h2
  obtain ⟨F, s, e0, hF⟩ := read_font h0
  obtain ⟨z, e1⟩ := flTiRule.cells h1
  rw [range6] at e1
  obtain ⟨t, e2, -, ht⟩ := DataW.trod_string Tryd.underlying9 h2
  simp only [List.cons.injEq, and_true] at e0 e1 e2
  obtain ⟨f0, f1, f2, f3⟩ := e0
  obtain ⟨r0, r1, r2, r3, r4, r5⟩ := e1
  exact ⟨F, s, ⟨z 0, z 1, z 2, z 3, z 4, z 5⟩, t, by rw [f0, f1, f2, f3, r0, r1, r2, r3, r4, r5, e2], hF, ht⟩
theorem arg_job {r : Reach} {b0 : Nat} {v : Value} {d : DataW H} {p : List MemPlace} (hv : Value.okWide Tryd.prog w r b0 36 v) (h : DataW.Trod enc Tryd.prog w base sp held 36 v d p) : ∃ (F : Font) (s : FSl) (R : Rul) (t : ByteArray), v = .agg #[.int .i64 F.high, .int .i64 F.space, .slice s.g.a F.glyphs.length s.g.cap, .slice s.k.a F.kerns.length s.k.cap, .int .i64 R.measure, .int .i64 R.lines, .int .i64 R.lead, .int .i64 R.short, .int .i64 R.extra, .int .i64 R.ink, .string t] ∧ FontAt w F s ∧ t.size ≤ maxLen := by
  obtain ⟨cs, rfl⟩ := agg_of Tryd.underlying36 hv
  obtain ⟨f, hf⟩ := h
  obtain ⟨F, s, R, t, hc, hF, ht⟩ := read_job hf
  exact ⟨F, s, R, t, by rw [show cs = cs.toList.toArray by simp, show cs.toList = _ from hc], hF, ht⟩
end
end Go.Proofs.YtahgbecfaihfpaaDoor
