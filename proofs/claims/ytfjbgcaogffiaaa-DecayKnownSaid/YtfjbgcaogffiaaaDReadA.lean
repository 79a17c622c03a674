/-
  Arguments as data: flat types (all cells are integers), slices of flat elements. Program independent.
  The law's arguments as data: rules, tasks, climates.
  More arguments as data: numbers, slices of numbers.
  From a law's walk to its statement: what all laws share.
-/
import Derived.Test.YtfjbgcaogffiaaaDBase
import Derived.Deep.Slices
import Derived.OpenShut
import Derived.Carry
import Derived.WalkKit
import Derived.Test.YtfjbgcaogffiaaaRows
import Derived.ProofKit
namespace Go.Proofs.Ytfjbgcaogffiaaa
open Go.RowKit Go.Deep Go.WideShapes
set_option linter.unusedVariables false
section
variable {P : Program}
/-- A type all whose cells are integers of 64 bits. -/
structure FlatI (P : Program) (t : TypeId) (n : Nat) : Prop where
  size : P.cellsOf t = n
  read : ∀ {H : Type} {enc : TypeId × Value → H} {w : World} {base : Nat} {sp : Nat → Bool} {held : Bool} {fuel : Nat} {cs : List Value} {x : DataW H × List MemPlace}, DataW.trod enc P w base sp held fuel t cs = some x →
    cs.length = n ∧ ∀ i, i < n → ∃ z, cs[i]? = some (.int .i64 z) ∧ (Lit.int .i64 z).wf = true
theorem FlatI.int {t : TypeId} (ht : P.underlying t = some (.int .i64)) (hc : P.cellsOf t = 1) : FlatI P t 1 :=
  ⟨hc, fun h => by
    obtain ⟨z, rfl, -, hw⟩ := DataW.trod_int ht h
    refine ⟨rfl, fun i hi => ?_⟩
    obtain rfl : i = 0 := by omega
    exact ⟨z, rfl, hw⟩⟩
theorem FlatI.array {t e : TypeId} {n m : Nat} (ht : P.underlying t = some (.array n e)) (he : FlatI P e m) (hc : P.cellsOf t = n * m) : FlatI P t (n * m) :=
  ⟨hc, fun {H enc w base sp held fuel cs x} h => by
    obtain ⟨xs, k, -, -, hl, hxl, hx⟩ := DataW.trod_array ht h
    rw [hc] at hl
    refine ⟨hl, fun i hi => ?_⟩
    have hm : 0 < m := Nat.pos_of_ne_zero fun h0 => by subst h0; simp at hi
    have h1 : i / m < n := Nat.div_lt_of_lt_mul (by rw [Nat.mul_comm]; exact hi)
    have h2 : i % m < m := Nat.mod_lt _ hm
    have h3 := hx (i / m) h1
    rw [List.getElem?_eq_getElem (by rw [hxl]; exact h1), he.size] at h3
    obtain ⟨h4, h5⟩ := he.read h3
    obtain ⟨z, h6, h7⟩ := h5 (i % m) h2
    refine ⟨z, ?_, h7⟩
    rw [List.getElem?_take, if_pos h2, List.getElem?_drop] at h6
    rw [← h6]; congr 1
    rw [Nat.mul_comm]; exact (Nat.div_add_mod i m).symm⟩
theorem FlatI.struct {t : TypeId} {fs : Array Field} {n : Nat} (ht : P.underlying t = some (.struct fs)) (hc : P.cellsOf t = n) (hf : ∀ i, i < n → ∃ (j : Nat) (f : Field) (m : Nat), fs[j]? = some f ∧ f.offset ≤ i ∧ i < f.offset + m ∧ FlatI P f.type m) : FlatI P t n :=
  ⟨hc, fun {H enc w base sp held fuel cs x} h => by
    obtain ⟨xs, k, -, -, hl, hxl, hx⟩ := DataW.trod_struct ht h
    rw [hc] at hl
    refine ⟨hl, fun i hi => ?_⟩
    obtain ⟨j, f, m, hj, h1, h2, he⟩ := hf i hi
    have h3 := hx j f hj
    have hjs : j < fs.size := (Array.getElem?_eq_some_iff.1 hj).1
    rw [List.getElem?_eq_getElem (by rw [hxl]; exact hjs), he.size] at h3
    obtain ⟨h4, h5⟩ := he.read h3
    obtain ⟨z, h6, h7⟩ := h5 (i - f.offset) (by omega)
    refine ⟨z, ?_, h7⟩
    rw [List.getElem?_take, if_pos (by omega), List.getElem?_drop] at h6
    rw [← h6]; congr 1; omega⟩
theorem FlatI.cells {t : TypeId} {n : Nat} (hF : FlatI P t n) {H : Type} {enc : TypeId × Value → H} {w : World} {base : Nat} {sp : Nat → Bool} {held : Bool} {fuel : Nat} {cs : List Value} {x : DataW H × List MemPlace} (h : DataW.trod enc P w base sp held fuel t cs = some x) :
    ∃ z : Nat → Int, cs = (List.range n).map fun i => .int .i64 (z i) := by
  obtain ⟨hl, hr⟩ := hF.read h
  have : ∀ i, ∃ z, i < n → cs[i]? = some (.int .i64 z) := fun i => by
    by_cases hi : i < n
    · obtain ⟨z, hz, _⟩ := hr i hi; exact ⟨z, fun _ => hz⟩
    · exact ⟨0, fun h => absurd h hi⟩
  refine ⟨fun i => Classical.choose (this i), List.ext_getElem? fun i => ?_⟩
  by_cases hi : i < n
  · rw [Classical.choose_spec (this i) hi]; simp [hi]
  · rw [List.getElem?_eq_none (by omega)]; simp [hi]
/-- A slice of flat elements, opened. -/
theorem slice_flat {t e : TypeId} {m : Nat} (ht : P.underlying t = some (.slice e)) (he : FlatI P e m) (hm : 0 < m) {H : Type} {enc : TypeId × Value → H} {w : World} {base : Nat} {sp : Nat → Bool} {held : Bool} {fuel : Nat} {cs : List Value} {x : DataW H × List MemPlace} (h : DataW.trod enc P w base sp held fuel t cs = some x) :
    ∃ (s : Sl) (n : Nat) (z : Nat → Nat → Int), cs = [.slice s.a n s.cap] ∧ RowS w s m n (fun i j => .int .i64 (z i j)) := by
  rcases open_slice ht h with ⟨rfl, -⟩ | ⟨a, len, cap, mm, k, D, Pl, rfl, -, hlc, hcm, hmm, -, hel⟩
  · exact ⟨⟨none, 0⟩, 0, fun _ _ => 0, rfl, Nat.le_refl _, by simp, fun i j hi => absurd hi (Nat.not_lt_zero i)⟩
  · have hmm' : len ≤ mm := by rw [hmm]; split <;> omega
    have key : ∀ i, ∃ zi : Nat → Int, i < len → ∀ j, j < m → w.cell? ((a.add (i * m)).add j) = some (.int .i64 (zi j)) := fun i => by
      by_cases hi : i < len
      · obtain ⟨cs', hc, ht'⟩ := hel i (by omega)
        rw [he.size] at hc
        obtain ⟨z, hz⟩ := he.cells ht'
        refine ⟨z, fun _ j hj => ?_⟩
        obtain ⟨-, -, h1⟩ := World.cells?_some hc
        rw [h1 j hj, hz]; simp [hj]
      · exact ⟨fun _ => 0, fun h => absurd h hi⟩
    refine ⟨⟨some a, cap⟩, len, fun i j => Classical.choose (key i) j, rfl, hlc, by unfold maxLen at hcm; exact hcm, fun i j hi hj => ?_⟩
    have h2 := Classical.choose_spec (key i) hi j hj
    obtain ⟨b, off, spot⟩ := a
    have h0 := Classical.choose_spec (key 0) (by omega) 0 (by omega)
    have hspot : spot = none := by simpa [Addr.add] using World.cell?_spot h0
    subst hspot
    refine ⟨b, off, rfl, ?_⟩
    rw [← h2, Go.Deep.add_add, add_plain, Nat.add_assoc]
end
end Go.Proofs.Ytfjbgcaogffiaaa
namespace Go.Proofs.Ytfjbgcaogffiaaa
open Go.RowKit Go.Deep Go.WideShapes D
set_option linter.unusedVariables false
set_option maxRecDepth 100000
theorem cI : Try.prog.cellsOf 3 = 1 := by kernel_rfl
theorem cSpan : Try.prog.cellsOf 28 = 2 := by kernel_rfl
theorem cDay : Try.prog.cellsOf 48 = 4 := by kernel_rfl
theorem cTest : Try.prog.cellsOf 51 = 3 := by kernel_rfl
theorem cPt : Try.prog.cellsOf 120 = 2 := by kernel_rfl
theorem cG : Try.prog.cellsOf 23 = 3 * 1 := by kernel_rfl
theorem cRule : Try.prog.cellsOf 25 = 8 := by kernel_rfl
theorem cPts : Try.prog.cellsOf 22 = 1 := by kernel_rfl
theorem cDays : Try.prog.cellsOf 26 = 1 := by kernel_rfl
theorem cTests : Try.prog.cellsOf 29 = 1 := by kernel_rfl
theorem cG3 : Try.prog.cellsOf 23 = 3 := by kernel_rfl
theorem cTask : Try.prog.cellsOf 31 = 13 := by kernel_rfl
theorem flInt : FlatI Try.prog 3 1 := FlatI.int Try.underlying3 cI
theorem flSpan : FlatI Try.prog 28 2 := FlatI.struct Try.underlying28 cSpan fun i hi => by
  rcases (by omega : i = 0 ∨ i = 1) with rfl | rfl
  · exact ⟨0, _, 1, rfl, by decide, by decide, flInt⟩
  · exact ⟨1, _, 1, rfl, by decide, by decide, flInt⟩
theorem flPt : FlatI Try.prog 120 2 := FlatI.struct Try.underlying120 cPt fun i hi => by
  rcases (by omega : i = 0 ∨ i = 1) with rfl | rfl
  · exact ⟨0, _, 1, rfl, by decide, by decide, flInt⟩
  · exact ⟨1, _, 1, rfl, by decide, by decide, flInt⟩
theorem flTest : FlatI Try.prog 51 3 := FlatI.struct Try.underlying51 cTest fun i hi => by
  rcases (by omega : i = 0 ∨ i = 1 ∨ i = 2) with rfl | rfl | rfl
  · exact ⟨0, _, 1, rfl, by decide, by decide, flInt⟩
  · exact ⟨1, _, 1, rfl, by decide, by decide, flInt⟩
  · exact ⟨2, _, 1, rfl, by decide, by decide, flInt⟩
theorem flDay : FlatI Try.prog 48 4 := FlatI.struct Try.underlying48 cDay fun i hi => by
  rcases (by omega : i = 0 ∨ i = 1 ∨ i = 2 ∨ i = 3) with rfl | rfl | rfl | rfl
  · exact ⟨0, _, 2, rfl, by decide, by decide, flSpan⟩
  · exact ⟨0, _, 2, rfl, by decide, by decide, flSpan⟩
  · exact ⟨1, _, 2, rfl, by decide, by decide, flSpan⟩
  · exact ⟨1, _, 2, rfl, by decide, by decide, flSpan⟩
theorem flG : FlatI Try.prog 23 (3 * 1) := FlatI.array Try.underlying23 flInt cG
section
variable {H : Type} {enc : TypeId × Value → H} {w : World} {base : Nat} {sp : Nat → Bool} {held : Bool} {fuel : Nat} {cs : List Value} {x : DataW H × List MemPlace}
theorem read_pts (h : DataW.trod enc Try.prog w base sp held fuel 22 cs = some x) : ∃ (s : Sl) (l : List Pt), cs = [.slice s.a l.length s.cap] ∧ PtsS w s l := by
  obtain ⟨s, n, z, rfl, hr⟩ := slice_flat Try.underlying22 flPt (by omega) h
  refine ⟨s, (List.range n).map fun i => ⟨z i 0, z i 1⟩, by simp, ?_⟩
  unfold PtsS
  rw [List.length_map, List.length_range]
  refine ⟨hr.le, hr.max, fun i j hi hj => ?_⟩
  obtain ⟨b, off, h1, h2⟩ := hr.cell i j hi hj
  refine ⟨b, off, h1, h2.trans ?_⟩
  rcases (by omega : j = 0 ∨ j = 1) with rfl | rfl <;> simp [ptC, ptD, hi]
theorem read_days (h : DataW.trod enc Try.prog w base sp held fuel 26 cs = some x) : ∃ (s : Sl) (l : List Day), cs = [.slice s.a l.length s.cap] ∧ DaysS w s l := by
  obtain ⟨s, n, z, rfl, hr⟩ := slice_flat Try.underlying26 flDay (by omega) h
  refine ⟨s, (List.range n).map fun i => ⟨z i 0, z i 1, z i 2, z i 3⟩, by simp, ?_⟩
  unfold DaysS
  rw [List.length_map, List.length_range]
  refine ⟨hr.le, hr.max, fun i j hi hj => ?_⟩
  obtain ⟨b, off, h1, h2⟩ := hr.cell i j hi hj
  refine ⟨b, off, h1, h2.trans ?_⟩
  rcases (by omega : j = 0 ∨ j = 1 ∨ j = 2 ∨ j = 3) with rfl | rfl | rfl | rfl <;> simp [dayC, dayD, hi]
theorem read_tests (h : DataW.trod enc Try.prog w base sp held fuel 29 cs = some x) : ∃ (s : Sl) (l : List Test), cs = [.slice s.a l.length s.cap] ∧ TestsS w s l := by
  obtain ⟨s, n, z, rfl, hr⟩ := slice_flat Try.underlying29 flTest (by omega) h
  refine ⟨s, (List.range n).map fun i => ⟨z i 0, z i 1, z i 2⟩, by simp, ?_⟩
  unfold TestsS
  rw [List.length_map, List.length_range]
  refine ⟨hr.le, hr.max, fun i j hi hj => ?_⟩
  obtain ⟨b, off, h1, h2⟩ := hr.cell i j hi hj
  refine ⟨b, off, h1, h2.trans ?_⟩
  rcases (by omega : j = 0 ∨ j = 1 ∨ j = 2) with rfl | rfl | rfl <;> simp [testC, testD, hi]
theorem range1 (z : Nat → Int) : ((List.range 1).map fun i => Value.int .i64 (z i)) = [.int .i64 (z 0)] := rfl
theorem range2 (z : Nat → Int) : ((List.range 2).map fun i => Value.int .i64 (z i)) = [.int .i64 (z 0), .int .i64 (z 1)] := rfl
theorem range3 (z : Nat → Int) : ((List.range (3 * 1)).map fun i => Value.int .i64 (z i)) = [.int .i64 (z 0), .int .i64 (z 1), .int .i64 (z 2)] := rfl
theorem range4 (z : Nat → Int) : ((List.range 4).map fun i => Value.int .i64 (z i)) = [.int .i64 (z 0), .int .i64 (z 1), .int .i64 (z 2), .int .i64 (z 3)] := rfl
theorem list8 {α : Type} : ∀ {l : List α}, l.length = 8 → ∃ a b c d e f g h, l = [a, b, c, d, e, f, g, h]
  | [a, b, c, d, e, f, g, h], _ => ⟨a, b, c, d, e, f, g, h, rfl⟩
theorem list13 {α : Type} {l : List α} (h : l.length = 13) : ∃ a b c d e f g h i j k m n, l = [a, b, c, d, e, f, g, h, i, j, k, m, n] := by
  obtain ⟨a, b, c, d, e, f, g, h', he⟩ := list8 (l := l.take 8) (by simp [h])
  have h2 : (l.drop 8).length = 5 := by simp [h]
  match hq : l.drop 8, h2 with
  | [i, j, k, m, n], _ => exact ⟨a, b, c, d, e, f, g, h', i, j, k, m, n, by rw [← List.take_append_drop 8 l, he, hq]; rfl⟩
theorem read_rule (h : DataW.trod enc Try.prog w base sp held fuel 25 cs = some x) : ∃ (R : Rule) (hh hv : Sl), cs = [.slice hh.a R.heat.length hh.cap, .slice hv.a R.wet.length hv.cap, .int .i64 R.own, .int .i64 R.feed, .int .i64 R.g0, .int .i64 R.g1, .int .i64 R.g2, .int .i64 R.lost] ∧ RuleAt w R hh hv := by
  obtain ⟨xs, k, -, -, hl, hxl, hx⟩ := DataW.trod_struct Try.underlying25 h
  rw [cRule] at hl
  obtain ⟨c0, c1, c2, c3, c4, c5, c6, c7, rfl⟩ := list8 hl
  have g : ∀ j, j < xs.length → ∃ y, xs[j]? = some y := fun j hj => ⟨_, List.getElem?_eq_getElem hj⟩
  have hn : xs.length = 6 := hxl
  obtain ⟨y0, g0⟩ := g 0 (by omega); obtain ⟨y1, g1⟩ := g 1 (by omega); obtain ⟨y2, g2⟩ := g 2 (by omega); obtain ⟨y3, g3⟩ := g 3 (by omega); obtain ⟨y4, g4⟩ := g 4 (by omega); obtain ⟨y5, g5⟩ := g 5 (by omega)
  have h0 : DataW.trod enc Try.prog w base sp held k 22 (List.take (Try.prog.cellsOf 22) (List.drop 0 [c0, c1, c2, c3, c4, c5, c6, c7])) = some y0 := (hx 0 _ rfl).trans g0
  rw [cPts] at h0
  have h0 : DataW.trod enc Try.prog w base sp held k 22 [c0] = some y0 := h0
  have h1 : DataW.trod enc Try.prog w base sp held k 22 (List.take (Try.prog.cellsOf 22) (List.drop 1 [c0, c1, c2, c3, c4, c5, c6, c7])) = some y1 := (hx 1 _ rfl).trans g1
  rw [cPts] at h1
  have h1 : DataW.trod enc Try.prog w base sp held k 22 [c1] = some y1 := h1
  have h2 : DataW.trod enc Try.prog w base sp held k 3 (List.take (Try.prog.cellsOf 3) (List.drop 2 [c0, c1, c2, c3, c4, c5, c6, c7])) = some y2 := (hx 2 _ rfl).trans g2
  rw [cI] at h2
  have h2 : DataW.trod enc Try.prog w base sp held k 3 [c2] = some y2 := h2
  have h3 : DataW.trod enc Try.prog w base sp held k 3 (List.take (Try.prog.cellsOf 3) (List.drop 3 [c0, c1, c2, c3, c4, c5, c6, c7])) = some y3 := (hx 3 _ rfl).trans g3
  rw [cI] at h3
  have h3 : DataW.trod enc Try.prog w base sp held k 3 [c3] = some y3 := h3
  have h4 : DataW.trod enc Try.prog w base sp held k 23 (List.take (Try.prog.cellsOf 23) (List.drop 4 [c0, c1, c2, c3, c4, c5, c6, c7])) = some y4 := (hx 4 _ rfl).trans g4
  rw [cG3] at h4
  have h4 : DataW.trod enc Try.prog w base sp held k 23 [c4, c5, c6] = some y4 := h4
  have h5 : DataW.trod enc Try.prog w base sp held k 3 (List.take (Try.prog.cellsOf 3) (List.drop 7 [c0, c1, c2, c3, c4, c5, c6, c7])) = some y5 := (hx 5 _ rfl).trans g5
  rw [cI] at h5
  have h5 : DataW.trod enc Try.prog w base sp held k 3 [c7] = some y5 := h5
  obtain ⟨hh, lh, e0, r0⟩ := read_pts h0
  obtain ⟨hv, lv, e1, r1⟩ := read_pts h1
  obtain ⟨z2, e2⟩ := flInt.cells h2
  obtain ⟨z3, e3⟩ := flInt.cells h3
  obtain ⟨z4, e4⟩ := flG.cells h4
  obtain ⟨z5, e5⟩ := flInt.cells h5
  rw [range1] at e2 e3 e5
  rw [range3] at e4
  simp only [List.cons.injEq, and_true] at e0 e1 e2 e3 e4 e5
  refine ⟨⟨lh, lv, z2 0, z3 0, z4 0, z4 1, z4 2, z5 0⟩, hh, hv, ?_, ⟨r0, r1⟩⟩
  rw [e0, e1, e2, e3, e4.1, e4.2.1, e4.2.2, e5]
theorem read_task (h : DataW.trod enc Try.prog w base sp held fuel 31 cs = some x) : ∃ (T : Task) (s : TSl), cs = [.slice s.h.a T.rule.heat.length s.h.cap, .slice s.w.a T.rule.wet.length s.w.cap, .int .i64 T.rule.own, .int .i64 T.rule.feed, .int .i64 T.rule.g0, .int .i64 T.rule.g1, .int .i64 T.rule.g2, .int .i64 T.rule.lost, .int .i64 T.first, .slice s.d.a T.days.length s.d.cap, .int .i64 T.start.lo, .int .i64 T.start.hi, .slice s.t.a T.tests.length s.t.cap] ∧ TaskAt w T s := by
  obtain ⟨xs, k, -, -, hl, hxl, hx⟩ := DataW.trod_struct Try.underlying31 h
  rw [cTask] at hl
  obtain ⟨c0, c1, c2, c3, c4, c5, c6, c7, c8, c9, c10, c11, c12, rfl⟩ := list13 hl
  have g : ∀ j, j < xs.length → ∃ y, xs[j]? = some y := fun j hj => ⟨_, List.getElem?_eq_getElem hj⟩
  have hn : xs.length = 5 := hxl
  obtain ⟨y0, g0⟩ := g 0 (by omega); obtain ⟨y1, g1⟩ := g 1 (by omega); obtain ⟨y2, g2⟩ := g 2 (by omega); obtain ⟨y3, g3⟩ := g 3 (by omega); obtain ⟨y4, g4⟩ := g 4 (by omega)
  have h0 : DataW.trod enc Try.prog w base sp held k 25 (List.take (Try.prog.cellsOf 25) (List.drop 0 [c0, c1, c2, c3, c4, c5, c6, c7, c8, c9, c10, c11, c12])) = some y0 := (hx 0 _ rfl).trans g0
  rw [cRule] at h0
  have h0 : DataW.trod enc Try.prog w base sp held k 25 [c0, c1, c2, c3, c4, c5, c6, c7] = some y0 := h0
  have h1 : DataW.trod enc Try.prog w base sp held k 3 (List.take (Try.prog.cellsOf 3) (List.drop 8 [c0, c1, c2, c3, c4, c5, c6, c7, c8, c9, c10, c11, c12])) = some y1 := (hx 1 _ rfl).trans g1
  rw [cI] at h1
  have h1 : DataW.trod enc Try.prog w base sp held k 3 [c8] = some y1 := h1
  have h2 : DataW.trod enc Try.prog w base sp held k 26 (List.take (Try.prog.cellsOf 26) (List.drop 9 [c0, c1, c2, c3, c4, c5, c6, c7, c8, c9, c10, c11, c12])) = some y2 := (hx 2 _ rfl).trans g2
  rw [cDays] at h2
  have h2 : DataW.trod enc Try.prog w base sp held k 26 [c9] = some y2 := h2
  have h3 : DataW.trod enc Try.prog w base sp held k 28 (List.take (Try.prog.cellsOf 28) (List.drop 10 [c0, c1, c2, c3, c4, c5, c6, c7, c8, c9, c10, c11, c12])) = some y3 := (hx 3 _ rfl).trans g3
  rw [cSpan] at h3
  have h3 : DataW.trod enc Try.prog w base sp held k 28 [c10, c11] = some y3 := h3
  have h4 : DataW.trod enc Try.prog w base sp held k 29 (List.take (Try.prog.cellsOf 29) (List.drop 12 [c0, c1, c2, c3, c4, c5, c6, c7, c8, c9, c10, c11, c12])) = some y4 := (hx 4 _ rfl).trans g4
  rw [cTests] at h4
  have h4 : DataW.trod enc Try.prog w base sp held k 29 [c12] = some y4 := h4
  obtain ⟨R, hh, hv, e0, r0⟩ := read_rule h0
  obtain ⟨z1, e1⟩ := flInt.cells h1
  obtain ⟨sd, ld, e2, r2⟩ := read_days h2
  obtain ⟨z3, e3⟩ := flSpan.cells h3
  obtain ⟨st, lt, e4, r4⟩ := read_tests h4
  rw [range1] at e1
  rw [range2] at e3
  simp only [List.cons.injEq, and_true] at e0 e1 e2 e3 e4
  refine ⟨⟨R, z1 0, ld, ⟨z3 0, z3 1⟩, lt⟩, ⟨hh, hv, sd, st⟩, ?_, ⟨r0, r2, r4⟩⟩
  obtain ⟨f0, f1, f2, f3, f4, f5, f6, f7⟩ := e0
  rw [f0, f1, f2, f3, f4, f5, f6, f7, e1, e2, e3.1, e3.2, e4]
theorem agg_of {r : Reach} {b0 : Nat} {t : TypeId} {fs : Array Field} {v : Value} (hs : Try.prog.underlying t = some (.struct fs)) (hv : Value.okWide Try.prog w r b0 t v) : ∃ cs, v = .agg cs := by
  obtain ⟨cs, h, _⟩ := okWide_struct hs hv; exact ⟨cs, h⟩
theorem arg_task {r : Reach} {b0 : Nat} {v : Value} {d : DataW H} {p : List MemPlace} (hv : Value.okWide Try.prog w r b0 31 v) (h : DataW.Trod enc Try.prog w base sp held 31 v d p) : ∃ (T : Task) (s : TSl), v = .agg #[.slice s.h.a T.rule.heat.length s.h.cap, .slice s.w.a T.rule.wet.length s.w.cap, .int .i64 T.rule.own, .int .i64 T.rule.feed, .int .i64 T.rule.g0, .int .i64 T.rule.g1, .int .i64 T.rule.g2, .int .i64 T.rule.lost, .int .i64 T.first, .slice s.d.a T.days.length s.d.cap, .int .i64 T.start.lo, .int .i64 T.start.hi, .slice s.t.a T.tests.length s.t.cap] ∧ TaskAt w T s := by
  obtain ⟨cs, rfl⟩ := agg_of Try.underlying31 hv
  obtain ⟨f, hf⟩ := h
  obtain ⟨T, s, hc, ht⟩ := read_task hf
  exact ⟨T, s, by rw [show cs = cs.toList.toArray by simp, show cs.toList = _ from hc], ht⟩
theorem arg_rule {r : Reach} {b0 : Nat} {v : Value} {d : DataW H} {p : List MemPlace} (hv : Value.okWide Try.prog w r b0 25 v) (h : DataW.Trod enc Try.prog w base sp held 25 v d p) : ∃ (R : Rule) (hh hv : Sl), v = .agg #[.slice hh.a R.heat.length hh.cap, .slice hv.a R.wet.length hv.cap, .int .i64 R.own, .int .i64 R.feed, .int .i64 R.g0, .int .i64 R.g1, .int .i64 R.g2, .int .i64 R.lost] ∧ RuleAt w R hh hv := by
  obtain ⟨cs, rfl⟩ := agg_of Try.underlying25 hv
  obtain ⟨f, hf⟩ := h
  obtain ⟨R, hh, hv, hc, ht⟩ := read_rule hf
  exact ⟨R, hh, hv, by rw [show cs = cs.toList.toArray by simp, show cs.toList = _ from hc], ht⟩
theorem arg_day {r : Reach} {b0 : Nat} {v : Value} {d : DataW H} {p : List MemPlace} (hv : Value.okWide Try.prog w r b0 48 v) (h : DataW.Trod enc Try.prog w base sp held 48 v d p) : ∃ d : Day, v = .agg #[.int .i64 d.tlo, .int .i64 d.thi, .int .i64 d.dlo, .int .i64 d.dhi] := by
  obtain ⟨cs, rfl⟩ := agg_of Try.underlying48 hv
  obtain ⟨f, hf⟩ := h
  obtain ⟨z, hc⟩ := flDay.cells hf
  rw [range4] at hc
  exact ⟨⟨z 0, z 1, z 2, z 3⟩, by rw [show cs = cs.toList.toArray by simp, show cs.toList = _ from hc]⟩
theorem arg_span {r : Reach} {b0 : Nat} {v : Value} {d : DataW H} {p : List MemPlace} (hv : Value.okWide Try.prog w r b0 28 v) (h : DataW.Trod enc Try.prog w base sp held 28 v d p) : ∃ n : Span, v = .agg #[.int .i64 n.lo, .int .i64 n.hi] := by
  obtain ⟨cs, rfl⟩ := agg_of Try.underlying28 hv
  obtain ⟨f, hf⟩ := h
  obtain ⟨z, hc⟩ := flSpan.cells hf
  rw [range2] at hc
  exact ⟨⟨z 0, z 1⟩, by rw [show cs = cs.toList.toArray by simp, show cs.toList = _ from hc]⟩
end
end Go.Proofs.Ytfjbgcaogffiaaa
namespace Go.Proofs.Ytfjbgcaogffiaaa
open Go.RowKit Go.Deep Go.WideShapes D
set_option linter.unusedVariables false
set_option maxRecDepth 100000
section
variable {H : Type} {enc : TypeId × Value → H} {w : World} {base : Nat} {sp : Nat → Bool} {held : Bool} {fuel : Nat} {cs : List Value} {x : DataW H × List MemPlace}
theorem read_ints (h : DataW.trod enc Try.prog w base sp held fuel 44 cs = some x) : ∃ (s : Sl) (l : List Int), cs = [.slice s.a l.length s.cap] ∧ IntsS w s l := by
  obtain ⟨s, n, z, rfl, hr⟩ := slice_flat Try.underlying44 flInt (by omega) h
  refine ⟨s, (List.range n).map fun i => z i 0, by simp, ?_⟩
  unfold IntsS
  rw [List.length_map, List.length_range]
  refine ⟨hr.le, hr.max, fun i j hi hj => ?_⟩
  obtain ⟨b, off, h1, h2⟩ := hr.cell i j hi hj
  refine ⟨b, off, h1, h2.trans ?_⟩
  obtain rfl : j = 0 := by omega
  simp [intC, intD, hi]
theorem cells_one {v u : Value} (h : v.cells.toList = [u]) (hu : ∀ cs, u ≠ .agg cs) (hv : ∀ cs, v ≠ .agg cs) : v = u := by
  cases v <;> simp_all [Value.cells]
theorem arg_ints {r : Reach} {b0 : Nat} {v : Value} {d : DataW H} {p : List MemPlace} (hv : Value.okWide Try.prog w r b0 44 v) (h : DataW.Trod enc Try.prog w base sp held 44 v d p) : ∃ (l : List Int) (s : Sl), v = .slice s.a l.length s.cap ∧ IntsS w s l := by
  obtain ⟨a, n, c, rfl⟩ := okWide_slice Try.underlying44 hv
  obtain ⟨f, hf⟩ := h
  obtain ⟨s, l, hc, hl⟩ := read_ints hf
  simp only [Value.cells, List.cons.injEq, and_true] at hc
  exact ⟨l, s, hc, hl⟩
theorem okWide_int' {r : Reach} {b0 : Nat} {t : TypeId} {k : IntKind} {v : Value} (ht : Try.prog.underlying t = some (.int k)) (hv : Value.okWide Try.prog w r b0 t v) : ∃ n, v = .int k n := by
  simp only [Value.okWide, ht, Cell.okWide] at hv
  cases v <;> simp_all [Cell.ok, IntKind.has]
theorem arg_int {r : Reach} {b0 : Nat} {v : Value} {d : DataW H} {p : List MemPlace} (hv : Value.okWide Try.prog w r b0 3 v) (h : DataW.Trod enc Try.prog w base sp held 3 v d p) : ∃ n : Int, v = .int .i64 n ∧ -9223372036854775808 ≤ n ∧ n ≤ 9223372036854775807 := by
  obtain ⟨n, rfl⟩ := okWide_int' Try.underlying3 hv
  obtain ⟨f, hf⟩ := h
  obtain ⟨z, hz, -, hw⟩ := DataW.trod_int Try.underlying3 hf
  simp only [Value.cells, List.cons.injEq, and_true] at hz
  obtain rfl : n = z := by injection hz
  have e1 : IntKind.i64.min = -9223372036854775808 := rfl
  have e2 : IntKind.i64.max = 9223372036854775807 := rfl
  simp only [Lit.wf, Bool.and_eq_true, decide_eq_true_eq, e1, e2] at hw
  exact ⟨n, rfl, hw⟩
end
end Go.Proofs.Ytfjbgcaogffiaaa
namespace Go.Proofs.Ytfjbgcaogffiaaa
open Go.ChangeShapes Go.WideShapes Go.ChangeAt Go.RowKit
set_option linter.unusedVariables false
theorem ownT : ownKnob Try.prog.godebug = none := by kernel_rfl
theorem laidT : laidOutB Try.prog = true := by kernel_rfl
theorem post_below {H : Type} {enc : TypeId × Value → H} {P : Program} {f : Func} {s : ChangeSpec} {apart fresh handsOn : Bool} {W W' : World} {args : Array Value} {v : Value} {ds : List (DataW H)} {before : List MemPlace}
    (hW : DataW.Whole enc P f.params.toList s.vars apart W args.toList ds [] before) (hvars : s.vars = [])
    (hres : ∀ (b : Nat), DataW.TrodAll enc P W' b (fun _ => false) handsOn f.resultTypes.toList (v.resultList f.resultTypes.size) (s.fn H (ds ++ [])).results [])
    (hargs : DataW.TrodAll enc P W' 0 (fun b => decide (b < W.heap.size)) true f.params.toList args.toList (s.fn H (ds ++ [])).args before) (hv : (s.fn H (ds ++ [])).vars = []) (hB : Below W.heap.size W W') :
    s.post enc P f apart fresh handsOn false W args v W' :=
  ⟨ds, [], before, [], before, [], hW, hres _, hargs, by rw [hvars, hv]; rfl, hB.frame _, fun h => by cases h⟩
end Go.Proofs.Ytfjbgcaogffiaaa
