/-
  The arguments of the bench's laws as data: cuts, reels, notes, tasks, lists of notes.
  From a law's walk to its tied card: the wrap (the condition on listed variables, and the world's shape), the witness.
-/
import Derived.Test.YtapeakbngligaaaGreatDoorBView
import Derived.Test.YtapeakbngligaaaGreatDoorBCut
import Derived.Test.YtapeakbngligaaaGreatDoorBMrg
import Derived.Test.YtapeakbngligaaaGreatDoorBNam2
import Derived.Deep.Slices
import Derived.OpenShut
import Derived.Carry
import Derived.WalkKit
import Derived.Test.YtapeakbngligaaaGreatDoorRows
import Derived.ProofKit
import Derived.Test.YtapeakbngligaaaGreatDoorTie
import Derived.Test.YtapeakbngligaaaGreatDoorCards
import Derived.HandedShaped
import Derived.Handed
import Derived.Lay
import Derived.SevenTiedAt
import Derived.Shelf.Vars
namespace Go.Proofs.YtapeakbngligaaaGreatDoor
open Go.RowKit Go.Deep Go.WideShapes
set_option linter.unusedVariables false
section
variable {P : Program}
/-- A type all whose cells are integers of 64 bits. -/
structure FlatI (P : Program) (t : TypeId) (n : Nat) : Prop where
  size : P.cellsOf t = n
  read : ∀ {H : Type} {enc : TypeId × Value → H} {w : World} {base : Nat} {sp : Nat → Bool} {held : Bool} {fuel : Nat} {cs : List Value} {x : DataW H × List MemPlace}, DataW.trod enc P w base sp held fuel t cs = some x →
    cs.length = n ∧ ∀ i, i < n → ∃ z, cs[i]? = some (.int .i64 z) ∧ (Lit.int .i64 z).wf = true
theorem FlatI.int {t : TypeId} (ht : P.underlying t = some (.int .i64)) (hc : P.cellsOf t = 1) : FlatI P t 1 :=
  ⟨hc, fun h => by
    obtain ⟨z, rfl, -, hw⟩ := DataW.trod_int ht h
    refine ⟨rfl, fun i hi => ?_⟩
    obtain rfl : i = 0 := by omega
    exact ⟨z, rfl, hw⟩⟩
theorem FlatI.array {t e : TypeId} {n m : Nat} (ht : P.underlying t = some (.array n e)) (he : FlatI P e m) (hc : P.cellsOf t = n * m) : FlatI P t (n * m) :=
  ⟨hc, fun {H enc w base sp held fuel cs x} h => by
    obtain ⟨xs, k, -, -, hl, hxl, hx⟩ := DataW.trod_array ht h
    rw [hc] at hl
    refine ⟨hl, fun i hi => ?_⟩
    have hm : 0 < m := Nat.pos_of_ne_zero fun h0 => by subst h0; simp at hi
    have h1 : i / m < n := Nat.div_lt_of_lt_mul (by rw [Nat.mul_comm]; exact hi)
    have h2 : i % m < m := Nat.mod_lt _ hm
    have h3 := hx (i / m) h1
    rw [List.getElem?_eq_getElem (by rw [hxl]; exact h1), he.size] at h3
    obtain ⟨h4, h5⟩ := he.read h3
    obtain ⟨z, h6, h7⟩ := h5 (i % m) h2
    refine ⟨z, ?_, h7⟩
    rw [List.getElem?_take, if_pos h2, List.getElem?_drop] at h6
    rw [← h6]; congr 1
    rw [Nat.mul_comm]; exact (Nat.div_add_mod i m).symm⟩
theorem FlatI.struct {t : TypeId} {fs : Array Field} {n : Nat} (ht : P.underlying t = some (.struct fs)) (hc : P.cellsOf t = n) (hf : ∀ i, i < n → ∃ (j : Nat) (f : Field) (m : Nat), fs[j]? = some f ∧ f.offset ≤ i ∧ i < f.offset + m ∧ FlatI P f.type m) : FlatI P t n :=
  ⟨hc, fun {H enc w base sp held fuel cs x} h => by
    obtain ⟨xs, k, -, -, hl, hxl, hx⟩ := DataW.trod_struct ht h
    rw [hc] at hl
    refine ⟨hl, fun i hi => ?_⟩
    obtain ⟨j, f, m, hj, h1, h2, he⟩ := hf i hi
    have h3 := hx j f hj
    have hjs : j < fs.size := (Array.getElem?_eq_some_iff.1 hj).1
    rw [List.getElem?_eq_getElem (by rw [hxl]; exact hjs), he.size] at h3
    obtain ⟨h4, h5⟩ := he.read h3
    obtain ⟨z, h6, h7⟩ := h5 (i - f.offset) (by omega)
    refine ⟨z, ?_, h7⟩
    rw [List.getElem?_take, if_pos (by omega), List.getElem?_drop] at h6
    rw [← h6]; congr 1; omega⟩
theorem FlatI.cells {t : TypeId} {n : Nat} (hF : FlatI P t n) {H : Type} {enc : TypeId × Value → H} {w : World} {base : Nat} {sp : Nat → Bool} {held : Bool} {fuel : Nat} {cs : List Value} {x : DataW H × List MemPlace} (h : DataW.trod enc P w base sp held fuel t cs = some x) :
    ∃ z : Nat → Int, cs = (List.range n).map fun i => .int .i64 (z i) := by
  obtain ⟨hl, hr⟩ := hF.read h
  have : ∀ i, ∃ z, i < n → cs[i]? = some (.int .i64 z) := fun i => by
    by_cases hi : i < n
    · obtain ⟨z, hz, _⟩ := hr i hi; exact ⟨z, fun _ => hz⟩
    · exact ⟨0, fun h => absurd h hi⟩
  refine ⟨fun i => Classical.choose (this i), List.ext_getElem? fun i => ?_⟩
  by_cases hi : i < n
  · rw [Classical.choose_spec (this i) hi]; simp [hi]
  · rw [List.getElem?_eq_none (by omega)]; simp [hi]
/-- A slice of flat elements, opened. -/
theorem slice_flat {t e : TypeId} {m : Nat} (ht : P.underlying t = some (.slice e)) (he : FlatI P e m) (hm : 0 < m) {H : Type} {enc : TypeId × Value → H} {w : World} {base : Nat} {sp : Nat → Bool} {held : Bool} {fuel : Nat} {cs : List Value} {x : DataW H × List MemPlace} (h : DataW.trod enc P w base sp held fuel t cs = some x) :
    ∃ (s : Sl) (n : Nat) (z : Nat → Nat → Int), cs = [.slice s.a n s.cap] ∧ RowS w s m n (fun i j => .int .i64 (z i j)) := by
  rcases open_slice ht h with ⟨rfl, -⟩ | ⟨a, len, cap, mm, k, D, Pl, rfl, -, hlc, hcm, hmm, -, hel⟩
  · exact ⟨⟨none, 0⟩, 0, fun _ _ => 0, rfl, Nat.le_refl _, by simp, fun i j hi => absurd hi (Nat.not_lt_zero i)⟩
  · have hmm' : len ≤ mm := by rw [hmm]; split <;> omega
    have key : ∀ i, ∃ zi : Nat → Int, i < len → ∀ j, j < m → w.cell? ((a.add (i * m)).add j) = some (.int .i64 (zi j)) := fun i => by
      by_cases hi : i < len
      · obtain ⟨cs', hc, ht'⟩ := hel i (by omega)
        rw [he.size] at hc
        obtain ⟨z, hz⟩ := he.cells ht'
        refine ⟨z, fun _ j hj => ?_⟩
        obtain ⟨-, -, h1⟩ := World.cells?_some hc
        rw [h1 j hj, hz]; simp [hj]
      · exact ⟨fun _ => 0, fun h => absurd h hi⟩
    refine ⟨⟨some a, cap⟩, len, fun i j => Classical.choose (key i) j, rfl, hlc, by unfold maxLen at hcm; exact hcm, fun i j hi hj => ?_⟩
    have h2 := Classical.choose_spec (key i) hi j hj
    obtain ⟨b, off, spot⟩ := a
    have h0 := Classical.choose_spec (key 0) (by omega) 0 (by omega)
    have hspot : spot = none := by simpa [Addr.add] using World.cell?_spot h0
    subst hspot
    refine ⟨b, off, rfl, ?_⟩
    rw [← h2, Go.Deep.add_add, add_plain, Nat.add_assoc]
end
theorem slice_cells {P : Program} {t e : TypeId} {m : Nat} (ht : P.underlying t = some (.slice e)) (he : P.cellsOf e = m) (hm : 0 < m) {H : Type} {enc : TypeId × Value → H} {w : World} {base : Nat} {sp : Nat → Bool} {held : Bool} {fuel : Nat} {cs : List Value} {x : DataW H × List MemPlace} (h : DataW.trod enc P w base sp held fuel t cs = some x) :
    ∃ (s : Sl) (n : Nat), cs = [.slice s.a n s.cap] ∧ n ≤ s.cap ∧ s.cap ≤ 9223372036854775807 ∧ ∀ i, i < n → ∃ (b off fuel' : Nat) (cs' : List Value) (y : DataW H × List MemPlace), s.a = some ⟨b, off, none⟩ ∧ DataW.trod enc P w base sp held fuel' e cs' = some y ∧ ∀ j, j < m → w.cell? ⟨b, off + i * m + j, none⟩ = cs'[j]? := by
  rcases open_slice ht h with ⟨rfl, -⟩ | ⟨a, len, cap, mm, k, D, Pl, rfl, -, hlc, hcm, hmm, -, hel⟩
  · exact ⟨⟨none, 0⟩, 0, rfl, Nat.le_refl _, by simp, fun i hi => absurd hi (Nat.not_lt_zero i)⟩
  · have hmm' : len ≤ mm := by rw [hmm]; split <;> omega
    refine ⟨⟨some a, cap⟩, len, rfl, hlc, by unfold maxLen at hcm; exact hcm, fun i hi => ?_⟩
    obtain ⟨cs', hc, ht'⟩ := hel i (by omega)
    rw [he] at hc
    obtain ⟨-, hlen, h1⟩ := World.cells?_some hc
    obtain ⟨b, off, spot⟩ := a
    have hspot : spot = none := by
      obtain ⟨cs0, hc0, -⟩ := hel 0 (by omega)
      rw [he] at hc0
      obtain ⟨-, hl0, h10⟩ := World.cells?_some hc0
      have h2 := h10 0 hm
      rw [List.getElem?_eq_getElem (by omega)] at h2
      simpa [Addr.add] using World.cell?_spot h2
    subst hspot
    refine ⟨b, off, k, cs', _, rfl, ht', fun j hj => ?_⟩
    rw [← h1 j hj, Go.Deep.add_add, add_plain, Nat.add_assoc]
end Go.Proofs.YtapeakbngligaaaGreatDoor
namespace Go.Proofs.YtapeakbngligaaaGreatDoor
open Go.RowKit Go.Deep Go.WideShapes D
set_option linter.unusedVariables false
set_option maxRecDepth 100000
theorem cI : Tryz.prog.cellsOf 3 = 1 := by kernel_rfl
theorem cStr : Tryz.prog.cellsOf 9 = 1 := by kernel_rfl
theorem cSpan : Tryz.prog.cellsOf 23 = 2 := by kernel_rfl
theorem cMk : Tryz.prog.cellsOf 68 = 3 := by kernel_rfl
theorem cSy : Tryz.prog.cellsOf 103 = 2 := by kernel_rfl
theorem cLn : Tryz.prog.cellsOf 105 = 3 := by kernel_rfl
theorem cMks : Tryz.prog.cellsOf 24 = 1 := by kernel_rfl
theorem cSys : Tryz.prog.cellsOf 25 = 1 := by kernel_rfl
theorem cLns : Tryz.prog.cellsOf 26 = 1 := by kernel_rfl
theorem cCut : Tryz.prog.cellsOf 79 = 2 := by kernel_rfl
theorem cReel : Tryz.prog.cellsOf 28 = 10 := by kernel_rfl
theorem cNote : Tryz.prog.cellsOf 58 = 8 := by kernel_rfl
theorem cNotes : Tryz.prog.cellsOf 29 = 1 := by kernel_rfl
theorem cTask : Tryz.prog.cellsOf 31 = 13 := by kernel_rfl
theorem flInt : FlatI Tryz.prog 3 1 := FlatI.int Tryz.underlying3 cI
theorem flSpan : FlatI Tryz.prog 23 2 := FlatI.struct Tryz.underlying23 cSpan fun i hi => by
  rcases (by omega : i = 0 ∨ i = 1) with rfl | rfl
  · exact ⟨0, _, 1, rfl, by decide, by decide, flInt⟩
  · exact ⟨1, _, 1, rfl, by decide, by decide, flInt⟩
theorem flMk : FlatI Tryz.prog 68 3 := FlatI.struct Tryz.underlying68 cMk fun i hi => by
  rcases (by omega : i = 0 ∨ i = 1 ∨ i = 2) with rfl | rfl | rfl
  · exact ⟨0, _, 1, rfl, by decide, by decide, flInt⟩
  · exact ⟨1, _, 1, rfl, by decide, by decide, flInt⟩
  · exact ⟨2, _, 1, rfl, by decide, by decide, flInt⟩
theorem flSy : FlatI Tryz.prog 103 2 := FlatI.struct Tryz.underlying103 cSy fun i hi => by
  rcases (by omega : i = 0 ∨ i = 1) with rfl | rfl
  · exact ⟨0, _, 1, rfl, by decide, by decide, flInt⟩
  · exact ⟨1, _, 1, rfl, by decide, by decide, flInt⟩
theorem flLn : FlatI Tryz.prog 105 3 := FlatI.struct Tryz.underlying105 cLn fun i hi => by
  rcases (by omega : i = 0 ∨ i = 1 ∨ i = 2) with rfl | rfl | rfl
  · exact ⟨0, _, 1, rfl, by decide, by decide, flInt⟩
  · exact ⟨1, _, 1, rfl, by decide, by decide, flInt⟩
  · exact ⟨2, _, 1, rfl, by decide, by decide, flInt⟩
theorem flCut : FlatI Tryz.prog 79 2 := FlatI.struct Tryz.underlying79 cCut fun i hi => by
  rcases (by omega : i = 0 ∨ i = 1) with rfl | rfl
  · exact ⟨0, _, 1, rfl, by decide, by decide, flInt⟩
  · exact ⟨1, _, 1, rfl, by decide, by decide, flInt⟩
section
variable {H : Type} {enc : TypeId × Value → H} {w : World} {base : Nat} {sp : Nat → Bool} {held : Bool} {fuel : Nat} {cs : List Value} {x : DataW H × List MemPlace}
theorem read_ints (h : DataW.trod enc Tryz.prog w base sp held fuel 37 cs = some x) : ∃ (s : Sl) (l : List Int), cs = [.slice s.a l.length s.cap] ∧ IntsS w s l := by
  obtain ⟨s, n, z, rfl, hr⟩ := slice_flat Tryz.underlying37 flInt (by omega) h
  refine ⟨s, (List.range n).map fun i => z i 0, by simp, ?_⟩
  unfold IntsS
  rw [List.length_map, List.length_range]
  refine ⟨hr.le, hr.max, fun i j hi hj => ?_⟩
  obtain ⟨b, off, h1, h2⟩ := hr.cell i j hi hj
  refine ⟨b, off, h1, h2.trans ?_⟩
  obtain rfl : j = 0 := by omega
  simp [intC, intD, hi]
theorem read_mks (h : DataW.trod enc Tryz.prog w base sp held fuel 24 cs = some x) : ∃ (s : Sl) (l : List D.Mark), cs = [.slice s.a l.length s.cap] ∧ MarksS w s l := by
  obtain ⟨s, n, z, rfl, hr⟩ := slice_flat Tryz.underlying24 flMk (by omega) h
  refine ⟨s, (List.range n).map fun i => ⟨z i 0, z i 1, z i 2⟩, by simp, ?_⟩
  show RowS w s 3 _ _
  rw [List.length_map, List.length_range]
  refine ⟨hr.le, hr.max, fun i j hi hj => ?_⟩
  obtain ⟨b, off, h1, h2⟩ := hr.cell i j hi hj
  refine ⟨b, off, h1, h2.trans ?_⟩
  rcases (by omega : j = 0 ∨ j = 1 ∨ j = 2) with rfl | rfl | rfl <;> simp [mkC, mkD, hi]
theorem read_sys (h : DataW.trod enc Tryz.prog w base sp held fuel 25 cs = some x) : ∃ (s : Sl) (l : List Sym), cs = [.slice s.a l.length s.cap] ∧ SymsS w s l := by
  obtain ⟨s, n, z, rfl, hr⟩ := slice_flat Tryz.underlying25 flSy (by omega) h
  refine ⟨s, (List.range n).map fun i => ⟨z i 0, z i 1⟩, by simp, ?_⟩
  show RowS w s 2 _ _
  rw [List.length_map, List.length_range]
  refine ⟨hr.le, hr.max, fun i j hi hj => ?_⟩
  obtain ⟨b, off, h1, h2⟩ := hr.cell i j hi hj
  refine ⟨b, off, h1, h2.trans ?_⟩
  rcases (by omega : j = 0 ∨ j = 1) with rfl | rfl <;> simp [syC, syD, hi]
theorem read_lns (h : DataW.trod enc Tryz.prog w base sp held fuel 26 cs = some x) : ∃ (s : Sl) (l : List Len), cs = [.slice s.a l.length s.cap] ∧ LensS w s l := by
  obtain ⟨s, n, z, rfl, hr⟩ := slice_flat Tryz.underlying26 flLn (by omega) h
  refine ⟨s, (List.range n).map fun i => ⟨z i 0, z i 1, z i 2⟩, by simp, ?_⟩
  show RowS w s 3 _ _
  rw [List.length_map, List.length_range]
  refine ⟨hr.le, hr.max, fun i j hi hj => ?_⟩
  obtain ⟨b, off, h1, h2⟩ := hr.cell i j hi hj
  refine ⟨b, off, h1, h2.trans ?_⟩
  rcases (by omega : j = 0 ∨ j = 1 ∨ j = 2) with rfl | rfl | rfl <;> simp [lnC, lnD, hi]
theorem read_cuts (h : DataW.trod enc Tryz.prog w base sp held fuel 80 cs = some x) : ∃ (s : Sl) (l : List Cut), cs = [.slice s.a l.length s.cap] ∧ CutsS w s l := by
  obtain ⟨s, n, z, rfl, hr⟩ := slice_flat Tryz.underlying80 flCut (by omega) h
  refine ⟨s, (List.range n).map fun i => ⟨z i 0, z i 1⟩, by simp, ?_⟩
  show RowS w s 2 _ _
  rw [List.length_map, List.length_range]
  refine ⟨hr.le, hr.max, fun i j hi hj => ?_⟩
  obtain ⟨b, off, h1, h2⟩ := hr.cell i j hi hj
  refine ⟨b, off, h1, h2.trans ?_⟩
  rcases (by omega : j = 0 ∨ j = 1) with rfl | rfl <;> simp [cutC, ctD, hi]
theorem listN8 {α : Type} : ∀ {l : List α}, l.length = 8 → ∃ a0 a1 a2 a3 a4 a5 a6 a7, l = [a0, a1, a2, a3, a4, a5, a6, a7]
  | [a0, a1, a2, a3, a4, a5, a6, a7], _ => ⟨a0, a1, a2, a3, a4, a5, a6, a7, rfl⟩
theorem listN10 {α : Type} : ∀ {l : List α}, l.length = 10 → ∃ a0 a1 a2 a3 a4 a5 a6 a7 a8 a9, l = [a0, a1, a2, a3, a4, a5, a6, a7, a8, a9]
  | [a0, a1, a2, a3, a4, a5, a6, a7, a8, a9], _ => ⟨a0, a1, a2, a3, a4, a5, a6, a7, a8, a9, rfl⟩
theorem listN13 {α : Type} : ∀ {l : List α}, l.length = 13 → ∃ a0 a1 a2 a3 a4 a5 a6 a7 a8 a9 a10 a11 a12, l = [a0, a1, a2, a3, a4, a5, a6, a7, a8, a9, a10, a11, a12]
  | [a0, a1, a2, a3, a4, a5, a6, a7, a8, a9, a10, a11, a12], _ => ⟨a0, a1, a2, a3, a4, a5, a6, a7, a8, a9, a10, a11, a12, rfl⟩
theorem range2 (z : Nat → Int) : ((List.range 2).map fun i => Value.int .i64 (z i)) = [.int .i64 (z 0), .int .i64 (z 1)] := rfl
theorem read_note (h : DataW.trod enc Tryz.prog w base sp held fuel 58 cs = some x) : ∃ r : Note, cs = [.string r.by_, .int .i64 r.number, .int .i64 r.rev, .int .i64 r.kind, .int .i64 r.from_, .int .i64 r.until_, .int .i64 r.mlo, .int .i64 r.mhi] ∧ r.by_.size ≤ maxLen := by
  obtain ⟨xs, k, -, -, hl, hxl, hx⟩ := DataW.trod_struct Tryz.underlying58 h
  rw [cNote] at hl
  obtain ⟨c0, c1, c2, c3, c4, c5, c6, c7, rfl⟩ := listN8 hl
  have g : ∀ j, j < xs.length → ∃ y, xs[j]? = some y := fun j hj => ⟨_, List.getElem?_eq_getElem hj⟩
  have hn : xs.length = 7 := hxl
  obtain ⟨y0, g0⟩ := g 0 (by omega)
  have h0 : DataW.trod enc Tryz.prog w base sp held k 9 (List.take (Tryz.prog.cellsOf 9) (List.drop 0 [c0, c1, c2, c3, c4, c5, c6, c7])) = some y0 := (hx 0 _ rfl).trans g0
  rw [cStr] at h0
  have h0 : DataW.trod enc Tryz.prog w base sp held k 9 [c0] = some y0 := h0
  obtain ⟨y1, g1⟩ := g 1 (by omega)
  have h1 : DataW.trod enc Tryz.prog w base sp held k 3 (List.take (Tryz.prog.cellsOf 3) (List.drop 1 [c0, c1, c2, c3, c4, c5, c6, c7])) = some y1 := (hx 1 _ rfl).trans g1
  rw [cI] at h1
  have h1 : DataW.trod enc Tryz.prog w base sp held k 3 [c1] = some y1 := h1
  obtain ⟨y2, g2⟩ := g 2 (by omega)
  have h2 : DataW.trod enc Tryz.prog w base sp held k 3 (List.take (Tryz.prog.cellsOf 3) (List.drop 2 [c0, c1, c2, c3, c4, c5, c6, c7])) = some y2 := (hx 2 _ rfl).trans g2
  rw [cI] at h2
  have h2 : DataW.trod enc Tryz.prog w base sp held k 3 [c2] = some y2 := h2
  obtain ⟨y3, g3⟩ := g 3 (by omega)
  have h3 : DataW.trod enc Tryz.prog w base sp held k 3 (List.take (Tryz.prog.cellsOf 3) (List.drop 3 [c0, c1, c2, c3, c4, c5, c6, c7])) = some y3 := (hx 3 _ rfl).trans g3
  rw [cI] at h3
  have h3 : DataW.trod enc Tryz.prog w base sp held k 3 [c3] = some y3 := h3
  obtain ⟨y4, g4⟩ := g 4 (by omega)
  have h4 : DataW.trod enc Tryz.prog w base sp held k 3 (List.take (Tryz.prog.cellsOf 3) (List.drop 4 [c0, c1, c2, c3, c4, c5, c6, c7])) = some y4 := (hx 4 _ rfl).trans g4
  rw [cI] at h4
  have h4 : DataW.trod enc Tryz.prog w base sp held k 3 [c4] = some y4 := h4
  obtain ⟨y5, g5⟩ := g 5 (by omega)
  have h5 : DataW.trod enc Tryz.prog w base sp held k 3 (List.take (Tryz.prog.cellsOf 3) (List.drop 5 [c0, c1, c2, c3, c4, c5, c6, c7])) = some y5 := (hx 5 _ rfl).trans g5
  rw [cI] at h5
  have h5 : DataW.trod enc Tryz.prog w base sp held k 3 [c5] = some y5 := h5
  obtain ⟨y6, g6⟩ := g 6 (by omega)
  have h6 : DataW.trod enc Tryz.prog w base sp held k 23 (List.take (Tryz.prog.cellsOf 23) (List.drop 6 [c0, c1, c2, c3, c4, c5, c6, c7])) = some y6 := (hx 6 _ rfl).trans g6
  rw [cSpan] at h6
  have h6 : DataW.trod enc Tryz.prog w base sp held k 23 [c6, c7] = some y6 := h6
  obtain ⟨t, e0, -, ht⟩ := DataW.trod_string Tryz.underlying9 h0
  obtain ⟨z1, e1, -, -⟩ := DataW.trod_int Tryz.underlying3 h1
  obtain ⟨z2, e2, -, -⟩ := DataW.trod_int Tryz.underlying3 h2
  obtain ⟨z3, e3, -, -⟩ := DataW.trod_int Tryz.underlying3 h3
  obtain ⟨z4, e4, -, -⟩ := DataW.trod_int Tryz.underlying3 h4
  obtain ⟨z5, e5, -, -⟩ := DataW.trod_int Tryz.underlying3 h5
  obtain ⟨z6, e6⟩ := flSpan.cells h6
  rw [range2] at e6
  simp only [List.cons.injEq, and_true] at e0 e1 e2 e3 e4 e5 e6
  exact ⟨⟨t, z1, z2, z3, z4, z5, z6 0, z6 1⟩, by rw [e0, e1, e2, e3, e4, e5, e6.1, e6.2], ht⟩
theorem read_notes (h : DataW.trod enc Tryz.prog w base sp held fuel 29 cs = some x) : ∃ (s : Sl) (l : List Note), cs = [.slice s.a l.length s.cap] ∧ NotesS w s l ∧ ∀ x ∈ l, x.by_.size ≤ maxLen := by
  obtain ⟨s, n, rfl, hle, hmx, hel⟩ := slice_cells Tryz.underlying29 cNote (by omega) h
  have key : ∀ i, ∃ r : Note, i < n → (∀ j, j < 8 → ∃ b off, s.a = some ⟨b, off, none⟩ ∧ w.cell? ⟨b, off + i * 8 + j, none⟩ = some (ntC [r] 0 j)) ∧ r.by_.size ≤ maxLen := fun i => by
    by_cases hi : i < n
    · obtain ⟨b, off, f', cs', y, ha, ht, hc⟩ := hel i hi
      obtain ⟨r, rfl, h1⟩ := read_note ht
      refine ⟨r, fun _ => ⟨fun j hj => ⟨b, off, ha, (hc j hj).trans ?_⟩, h1⟩⟩
      rcases (by omega : j = 0 ∨ j = 1 ∨ j = 2 ∨ j = 3 ∨ j = 4 ∨ j = 5 ∨ j = 6 ∨ j = 7) with rfl | rfl | rfl | rfl | rfl | rfl | rfl | rfl <;> rfl
    · exact ⟨default, fun h => absurd h hi⟩
  obtain ⟨f, hf⟩ := Classical.axiomOfChoice key
  have e : ∀ i, i < n → ntD ((List.range n).map fun i => f i) i = f i := fun i hi => by simp [ntD, hi]
  refine ⟨s, (List.range n).map fun i => f i, by simp, ?_, fun x hx => ?_⟩
  · show RowS w s 8 _ _
    rw [List.length_map, List.length_range]
    refine ⟨hle, hmx, fun i j hi hj => ?_⟩
    obtain ⟨b, off, h1, h2⟩ := (hf i hi).1 j hj
    refine ⟨b, off, h1, h2.trans ?_⟩
    have e2 : ntD [f i] 0 = ntD ((List.range n).map fun i => f i) i := (e i hi).symm
    rcases (by omega : j = 0 ∨ j = 1 ∨ j = 2 ∨ j = 3 ∨ j = 4 ∨ j = 5 ∨ j = 6 ∨ j = 7) with rfl | rfl | rfl | rfl | rfl | rfl | rfl | rfl <;> simp only [ntC] <;> rw [e2]
  · obtain ⟨i, hi, rfl⟩ := List.mem_map.1 hx
    exact (hf i (List.mem_range.1 hi)).2
theorem read_reel (h : DataW.trod enc Tryz.prog w base sp held fuel 28 cs = some x) : ∃ (R : Reel) (r : RSl), cs = [.string R.name, .int .i64 R.gauge, .int .i64 R.base, .int .i64 R.frames, .int .i64 R.ylo, .int .i64 R.yhi, .int .i64 R.keep, .slice r.m.a R.marks.length r.m.cap, .slice r.s.a R.syms.length r.s.cap, .slice r.l.a R.lens.length r.l.cap] ∧ ReelAt w R r := by
  obtain ⟨xs, k, -, -, hl, hxl, hx⟩ := DataW.trod_struct Tryz.underlying28 h
  rw [cReel] at hl
  obtain ⟨c0, c1, c2, c3, c4, c5, c6, c7, c8, c9, rfl⟩ := listN10 hl
  have g : ∀ j, j < xs.length → ∃ y, xs[j]? = some y := fun j hj => ⟨_, List.getElem?_eq_getElem hj⟩
  have hn : xs.length = 9 := hxl
  obtain ⟨y0, g0⟩ := g 0 (by omega)
  have h0 : DataW.trod enc Tryz.prog w base sp held k 9 (List.take (Tryz.prog.cellsOf 9) (List.drop 0 [c0, c1, c2, c3, c4, c5, c6, c7, c8, c9])) = some y0 := (hx 0 _ rfl).trans g0
  rw [cStr] at h0
  have h0 : DataW.trod enc Tryz.prog w base sp held k 9 [c0] = some y0 := h0
  obtain ⟨y1, g1⟩ := g 1 (by omega)
  have h1 : DataW.trod enc Tryz.prog w base sp held k 3 (List.take (Tryz.prog.cellsOf 3) (List.drop 1 [c0, c1, c2, c3, c4, c5, c6, c7, c8, c9])) = some y1 := (hx 1 _ rfl).trans g1
  rw [cI] at h1
  have h1 : DataW.trod enc Tryz.prog w base sp held k 3 [c1] = some y1 := h1
  obtain ⟨y2, g2⟩ := g 2 (by omega)
  have h2 : DataW.trod enc Tryz.prog w base sp held k 3 (List.take (Tryz.prog.cellsOf 3) (List.drop 2 [c0, c1, c2, c3, c4, c5, c6, c7, c8, c9])) = some y2 := (hx 2 _ rfl).trans g2
  rw [cI] at h2
  have h2 : DataW.trod enc Tryz.prog w base sp held k 3 [c2] = some y2 := h2
  obtain ⟨y3, g3⟩ := g 3 (by omega)
  have h3 : DataW.trod enc Tryz.prog w base sp held k 3 (List.take (Tryz.prog.cellsOf 3) (List.drop 3 [c0, c1, c2, c3, c4, c5, c6, c7, c8, c9])) = some y3 := (hx 3 _ rfl).trans g3
  rw [cI] at h3
  have h3 : DataW.trod enc Tryz.prog w base sp held k 3 [c3] = some y3 := h3
  obtain ⟨y4, g4⟩ := g 4 (by omega)
  have h4 : DataW.trod enc Tryz.prog w base sp held k 23 (List.take (Tryz.prog.cellsOf 23) (List.drop 4 [c0, c1, c2, c3, c4, c5, c6, c7, c8, c9])) = some y4 := (hx 4 _ rfl).trans g4
  rw [cSpan] at h4
  have h4 : DataW.trod enc Tryz.prog w base sp held k 23 [c4, c5] = some y4 := h4
  obtain ⟨y5, g5⟩ := g 5 (by omega)
  have h5 : DataW.trod enc Tryz.prog w base sp held k 3 (List.take (Tryz.prog.cellsOf 3) (List.drop 6 [c0, c1, c2, c3, c4, c5, c6, c7, c8, c9])) = some y5 := (hx 5 _ rfl).trans g5
  rw [cI] at h5
  have h5 : DataW.trod enc Tryz.prog w base sp held k 3 [c6] = some y5 := h5
  obtain ⟨y6, g6⟩ := g 6 (by omega)
  have h6 : DataW.trod enc Tryz.prog w base sp held k 24 (List.take (Tryz.prog.cellsOf 24) (List.drop 7 [c0, c1, c2, c3, c4, c5, c6, c7, c8, c9])) = some y6 := (hx 6 _ rfl).trans g6
  rw [cMks] at h6
  have h6 : DataW.trod enc Tryz.prog w base sp held k 24 [c7] = some y6 := h6
  obtain ⟨y7, g7⟩ := g 7 (by omega)
  have h7 : DataW.trod enc Tryz.prog w base sp held k 25 (List.take (Tryz.prog.cellsOf 25) (List.drop 8 [c0, c1, c2, c3, c4, c5, c6, c7, c8, c9])) = some y7 := (hx 7 _ rfl).trans g7
  rw [cSys] at h7
  have h7 : DataW.trod enc Tryz.prog w base sp held k 25 [c8] = some y7 := h7
  obtain ⟨y8, g8⟩ := g 8 (by omega)
  have h8 : DataW.trod enc Tryz.prog w base sp held k 26 (List.take (Tryz.prog.cellsOf 26) (List.drop 9 [c0, c1, c2, c3, c4, c5, c6, c7, c8, c9])) = some y8 := (hx 8 _ rfl).trans g8
  rw [cLns] at h8
  have h8 : DataW.trod enc Tryz.prog w base sp held k 26 [c9] = some y8 := h8
  obtain ⟨t, e0, -, ht⟩ := DataW.trod_string Tryz.underlying9 h0
  obtain ⟨z1, e1, -, -⟩ := DataW.trod_int Tryz.underlying3 h1
  obtain ⟨z2, e2, -, -⟩ := DataW.trod_int Tryz.underlying3 h2
  obtain ⟨z3, e3, -, -⟩ := DataW.trod_int Tryz.underlying3 h3
  obtain ⟨z4, e4⟩ := flSpan.cells h4
  obtain ⟨z5, e5, -, -⟩ := DataW.trod_int Tryz.underlying3 h5
  obtain ⟨s6, l6, e6, r6⟩ := read_mks h6
  obtain ⟨s7, l7, e7, r7⟩ := read_sys h7
  obtain ⟨s8, l8, e8, r8⟩ := read_lns h8
  rw [range2] at e4
  simp only [List.cons.injEq, and_true] at e0 e1 e2 e3 e4 e5 e6 e7 e8
  exact ⟨⟨t, z1, z2, z3, z4 0, z4 1, z5, l6, l7, l8⟩, ⟨s6, s7, s8⟩, by rw [e0, e1, e2, e3, e4.1, e4.2, e5, e6, e7, e8], ⟨r6, r7, r8, ht⟩⟩
theorem read_task (h : DataW.trod enc Tryz.prog w base sp held fuel 31 cs = some x) : ∃ (S : Task) (s : TSl), cs = [.string S.reel.name, .int .i64 S.reel.gauge, .int .i64 S.reel.base, .int .i64 S.reel.frames, .int .i64 S.reel.ylo, .int .i64 S.reel.yhi, .int .i64 S.reel.keep, .slice s.r.m.a S.reel.marks.length s.r.m.cap, .slice s.r.s.a S.reel.syms.length s.r.s.cap, .slice s.r.l.a S.reel.lens.length s.r.l.cap, .int .i64 S.whole.lo, .int .i64 S.whole.hi, .slice s.n.a S.notes.length s.n.cap] ∧ TaskAt w S s := by
  obtain ⟨xs, k, -, -, hl, hxl, hx⟩ := DataW.trod_struct Tryz.underlying31 h
  rw [cTask] at hl
  obtain ⟨c0, c1, c2, c3, c4, c5, c6, c7, c8, c9, c10, c11, c12, rfl⟩ := listN13 hl
  have g : ∀ j, j < xs.length → ∃ y, xs[j]? = some y := fun j hj => ⟨_, List.getElem?_eq_getElem hj⟩
  have hn : xs.length = 3 := hxl
  obtain ⟨y0, g0⟩ := g 0 (by omega)
  have h0 : DataW.trod enc Tryz.prog w base sp held k 28 (List.take (Tryz.prog.cellsOf 28) (List.drop 0 [c0, c1, c2, c3, c4, c5, c6, c7, c8, c9, c10, c11, c12])) = some y0 := (hx 0 _ rfl).trans g0
  rw [cReel] at h0
  have h0 : DataW.trod enc Tryz.prog w base sp held k 28 [c0, c1, c2, c3, c4, c5, c6, c7, c8, c9] = some y0 := h0
  obtain ⟨y1, g1⟩ := g 1 (by omega)
  have h1 : DataW.trod enc Tryz.prog w base sp held k 23 (List.take (Tryz.prog.cellsOf 23) (List.drop 10 [c0, c1, c2, c3, c4, c5, c6, c7, c8, c9, c10, c11, c12])) = some y1 := (hx 1 _ rfl).trans g1
  rw [cSpan] at h1
  have h1 : DataW.trod enc Tryz.prog w base sp held k 23 [c10, c11] = some y1 := h1
  obtain ⟨y2, g2⟩ := g 2 (by omega)
  have h2 : DataW.trod enc Tryz.prog w base sp held k 29 (List.take (Tryz.prog.cellsOf 29) (List.drop 12 [c0, c1, c2, c3, c4, c5, c6, c7, c8, c9, c10, c11, c12])) = some y2 := (hx 2 _ rfl).trans g2
  rw [cNotes] at h2
  have h2 : DataW.trod enc Tryz.prog w base sp held k 29 [c12] = some y2 := h2
  obtain ⟨R, r, e0, hr⟩ := read_reel h0
  obtain ⟨z1, e1⟩ := flSpan.cells h1
  obtain ⟨s2, l2, e2, r2, m2⟩ := read_notes h2
  rw [range2] at e1
  simp only [List.cons.injEq, and_true] at e0 e1 e2
  obtain ⟨e00, e01, e02, e03, e04, e05, e06, e07, e08, e09⟩ := e0
  exact ⟨⟨R, ⟨z1 0, z1 1⟩, l2⟩, ⟨r, s2⟩, by rw [e00, e01, e02, e03, e04, e05, e06, e07, e08, e09, e1.1, e1.2, e2], ⟨hr, r2, m2⟩⟩
theorem read_lists (h : DataW.trod enc Tryz.prog w base sp held fuel 61 cs = some x) : ∃ (s : Sl) (hs : Nat → Sl) (ls : List (List Note)), cs = [.slice s.a ls.length s.cap] ∧ NListsS w s hs ls := by
  obtain ⟨s, n, rfl, hle, hmx, hel⟩ := slice_cells Tryz.underlying61 cNotes (by omega) h
  have key : ∀ i, ∃ r : Sl × List Note, i < n → (∃ b off, s.a = some ⟨b, off, none⟩ ∧ w.cell? ⟨b, off + i * 1 + 0, none⟩ = some (.slice r.1.a r.2.length r.1.cap)) ∧ NotesS w r.1 r.2 ∧ ∀ x ∈ r.2, x.by_.size ≤ maxLen := fun i => by
    by_cases hi : i < n
    · obtain ⟨b, off, f', cs', y, ha, ht, hc⟩ := hel i hi
      obtain ⟨q, l, rfl, h1, h2⟩ := read_notes ht
      exact ⟨(q, l), fun _ => ⟨⟨b, off, ha, (hc 0 (by omega)).trans rfl⟩, h1, h2⟩⟩
    · exact ⟨(⟨none, 0⟩, []), fun h => absurd h hi⟩
  obtain ⟨f, hf⟩ := Classical.axiomOfChoice key
  have e : ∀ i, i < n → ((List.range n).map fun i => (f i).2).getD i [] = (f i).2 := fun i hi => by simp [hi]
  refine ⟨s, fun i => (f i).1, (List.range n).map fun i => (f i).2, by simp, ?_, fun i hi => ?_, fun l hl => ?_⟩
  · rw [List.length_map, List.length_range]
    refine ⟨hle, hmx, fun i j hi hj => ?_⟩
    obtain rfl : j = 0 := by omega
    obtain ⟨b, off, h1, h2⟩ := (hf i hi).1
    exact ⟨b, off, h1, by rw [h2]; simp only [e i hi]⟩
  · rw [List.length_map, List.length_range] at hi
    rw [e i hi]; exact (hf i hi).2.1
  · obtain ⟨i, hi, rfl⟩ := List.mem_map.1 hl
    exact (hf i (List.mem_range.1 hi)).2.2
theorem agg_of {r : Reach} {b0 : Nat} {t : TypeId} {fs : Array Field} {v : Value} (hs : Tryz.prog.underlying t = some (.struct fs)) (hv : Value.okWide Tryz.prog w r b0 t v) : ∃ cs, v = .agg cs := by
  obtain ⟨cs, h, _⟩ := okWide_struct hs hv; exact ⟨cs, h⟩
theorem arg_task {r : Reach} {b0 : Nat} {v : Value} {d : DataW H} {p : List MemPlace} (hv : Value.okWide Tryz.prog w r b0 31 v) (h : DataW.Trod enc Tryz.prog w base sp held 31 v d p) : ∃ (S : Task) (s : TSl), v = .agg #[.string S.reel.name, .int .i64 S.reel.gauge, .int .i64 S.reel.base, .int .i64 S.reel.frames, .int .i64 S.reel.ylo, .int .i64 S.reel.yhi, .int .i64 S.reel.keep, .slice s.r.m.a S.reel.marks.length s.r.m.cap, .slice s.r.s.a S.reel.syms.length s.r.s.cap, .slice s.r.l.a S.reel.lens.length s.r.l.cap, .int .i64 S.whole.lo, .int .i64 S.whole.hi, .slice s.n.a S.notes.length s.n.cap] ∧ TaskAt w S s := by
  obtain ⟨cs, rfl⟩ := agg_of Tryz.underlying31 hv
  obtain ⟨f, hf⟩ := h
  obtain ⟨S, s, hc, ht⟩ := read_task hf
  exact ⟨S, s, by rw [show cs = cs.toList.toArray by simp, show cs.toList = _ from hc], ht⟩
theorem okWide_int' {r : Reach} {b0 : Nat} {t : TypeId} {k : IntKind} {v : Value} (ht : Tryz.prog.underlying t = some (.int k)) (hv : Value.okWide Tryz.prog w r b0 t v) : ∃ n, v = .int k n := by
  simp only [Value.okWide, ht, Cell.okWide] at hv
  cases v <;> simp_all [Cell.ok, IntKind.has]
theorem arg_int {r : Reach} {b0 : Nat} {v : Value} {d : DataW H} {p : List MemPlace} (hv : Value.okWide Tryz.prog w r b0 3 v) (h : DataW.Trod enc Tryz.prog w base sp held 3 v d p) : ∃ n : Int, v = .int .i64 n ∧ -9223372036854775808 ≤ n ∧ n ≤ 9223372036854775807 := by
  obtain ⟨n, rfl⟩ := okWide_int' Tryz.underlying3 hv
  obtain ⟨f, hf⟩ := h
  obtain ⟨z, hz, -, hw⟩ := DataW.trod_int Tryz.underlying3 hf
  simp only [Value.cells, List.cons.injEq, and_true] at hz
  obtain rfl : n = z := by injection hz
  have e1 : IntKind.i64.min = -9223372036854775808 := rfl
  have e2 : IntKind.i64.max = 9223372036854775807 := rfl
  simp only [Lit.wf, Bool.and_eq_true, decide_eq_true_eq, e1, e2] at hw
  exact ⟨n, rfl, hw⟩
theorem arg_u8 {r : Reach} {b0 : Nat} {v : Value} {d : DataW H} {p : List MemPlace} (hv : Value.okWide Tryz.prog w r b0 5 v) (h : DataW.Trod enc Tryz.prog w base sp held 5 v d p) : ∃ n : Int, v = .int .u8 n ∧ 0 ≤ n ∧ n ≤ 255 := by
  obtain ⟨n, rfl⟩ := okWide_int' Tryz.underlying5 hv
  obtain ⟨f, hf⟩ := h
  obtain ⟨z, hz, -, hw⟩ := DataW.trod_int Tryz.underlying5 hf
  simp only [Value.cells, List.cons.injEq, and_true] at hz
  obtain rfl : n = z := by injection hz
  have e1 : IntKind.u8.min = 0 := rfl
  have e2 : IntKind.u8.max = 255 := rfl
  simp only [Lit.wf, Bool.and_eq_true, decide_eq_true_eq, e1, e2] at hw
  exact ⟨n, rfl, hw⟩
theorem arg_ints {r : Reach} {b0 : Nat} {v : Value} {d : DataW H} {p : List MemPlace} (hv : Value.okWide Tryz.prog w r b0 37 v) (h : DataW.Trod enc Tryz.prog w base sp held 37 v d p) : ∃ (l : List Int) (s : Sl), v = .slice s.a l.length s.cap ∧ IntsS w s l := by
  obtain ⟨a, n, c, rfl⟩ := okWide_slice Tryz.underlying37 hv
  obtain ⟨f, hf⟩ := h
  obtain ⟨s, l, hc, hl⟩ := read_ints hf
  simp only [Value.cells, List.cons.injEq, and_true] at hc
  exact ⟨l, s, hc, hl⟩
end
end Go.Proofs.YtapeakbngligaaaGreatDoor
namespace Go.Proofs.YtapeakbngligaaaGreatDoor
open Go.ChangeShapes Go.WideShapes Go.ChangeAt Go.RowKit
set_option linter.unusedVariables false
theorem ownT : ownKnob Tryz.prog.godebug = none := by kernel_rfl
theorem laidT : laidOutB Tryz.prog = true := by kernel_rfl
theorem post_below {H : Type} {enc : TypeId × Value → H} {P : Program} {f : Func} {s : ChangeSpec} {apart fresh handsOn : Bool} {W W' : World} {args : Array Value} {v : Value} {ds : List (DataW H)} {before : List MemPlace}
    (hW : DataW.Whole enc P f.params.toList s.vars apart W args.toList ds [] before) (hvars : s.vars = [])
    (hres : ∀ (b : Nat), DataW.TrodAll enc P W' b (fun _ => false) handsOn f.resultTypes.toList (v.resultList f.resultTypes.size) (s.fn H (ds ++ [])).results [])
    (hargs : DataW.TrodAll enc P W' 0 (fun b => decide (b < W.heap.size)) true f.params.toList args.toList (s.fn H (ds ++ [])).args before) (hv : (s.fn H (ds ++ [])).vars = []) (hB : Below W.heap.size W W') :
    s.post enc P f apart fresh handsOn false W args v W' :=
  ⟨ds, [], before, [], before, [], hW, hres _, hargs, by rw [hvars, hv]; rfl, hB.frame _, fun h => by cases h⟩
end Go.Proofs.YtapeakbngligaaaGreatDoor
namespace Go.Proofs.YtapeakbngligaaaGreatDoor
open Go.ChangeShapes Go.WideShapes Go.ChangeAt Go.RowKit
variable {H : Type} {enc : TypeId × Value → H}
theorem handed_and_shaped {a : Assume} {C : Checked} {os : Os} {f : FuncId} {fn : Func} {s : ChangeSpec} {conds : List PathCond} {apart fresh handsOn again : Bool} {X : World → Array Value → Prop}
    (own : ownKnob C.prog.godebug = none) (started : os.Started) (noInit : C.prog.inits.idxOf? f = none) (hfn : C.prog.funcs[f]? = some fn)
    (witness : ∃ (w : World) (tape : Tape) (i : Input), w.os = os ∧ (w.forCall tape i).Shaped C.prog ∧ i.vars = [] ∧ Input.okWide C.prog (w.forCall tape i) .any w.heap.size f i ∧
      ((s.pre enc C.prog fn conds apart (w.forCall tape i).memory i.args ∧ X (w.forCall tape i).memory i.args) ∧ sizedMet enc C.prog fn (OpenSpec.ofChange s) apart (w.forCall tape i).memory i.args) ∧ a.holds C.prog (lone (Frame.enter C.prog f i.args .normal) [] (w.forCall tape i)))
    (contract : ∀ (W : World) (base : Nat) (args : Array Value) (ds gs : List (DataW H)) (before : List MemPlace),
      (∀ (j : Nat) t v, fn.params[j]? = some t → args[j]? = some v → Value.okWide C.prog W .any base t v) →
      DataW.Whole enc C.prog fn.params.toList s.vars apart W args.toList ds gs before →
      W.ShapedOpen C.prog →
      Calls C.prog f args W fun e W' => ∃ v, e = .returned v ∧ s.post enc C.prog fn apart fresh handsOn again W args v W') :
    ReturnsInHanded a C os f .any (fun w args => (s.pre enc C.prog fn conds apart w args ∧ X w args) ∧ sizedMet enc C.prog fn (OpenSpec.ofChange s) apart w args) (s.post enc C.prog fn apart fresh handsOn again) := by
  refine returnsInHanded_of_calls own started noInit witness ?_
  intro w tape i _ hsh _ hok hpre hholds
  obtain ⟨_, _, _, fn', hfn', _, _, _, _, hval⟩ := hok
  have e : fn' = fn := Option.some.inj (hfn'.symm.trans hfn)
  subst e
  obtain ⟨⟨⟨ds, gs, before, hw, hc⟩, hx⟩, hz⟩ := hpre
  have hw' := DataW.Whole.of_heap (w' := w.forCall tape i) (by rfl) hw
  refine (contract (w.forCall tape i) w.heap.size i.args ds gs before hval hw' hsh).mono fun e W' ⟨v, he, hp⟩ => ?_
  subst he
  exact ChangeSpec.post_blind hp
theorem maxAt_shaped {W : World} (h : W.ShapedOpen Tryz.prog) : MaxAt W := by
  obtain ⟨m, hm⟩ := cell_of_shapedOpen_int (P := Tryz.prog) (g := Tryz.laysSplit_ren.g 1) (t := 3) (zero := #[.int .i64 0]) h (of_decide_eq_true (by kernel_rfl)) (by kernel_rfl) rfl (by kernel_rfl) (by kernel_rfl) Tryz.underlying3
  exact ⟨m, hm⟩
def laidL : List (String × DataW Unit) := [("unicode/utf8.acceptRanges", Rows.laid_unicode_utf8_acceptRanges), ("unicode/utf8.first", Rows.laid_unicode_utf8_first)]
set_option maxRecDepth 100000 in
theorem laid_shape (os : Os) : (World.laidAll Tryz.prog os laidL).Shaped Tryz.prog := World.shaped_of_ZipB (by kernel_rfl) (by kernel_rfl)
end Go.Proofs.YtapeakbngligaaaGreatDoor
namespace Go.Proofs.YtapeakbngligaaaGreatDoor
open Go.RowKit Go.Deep Go.WideShapes D
set_option linter.unusedVariables false
set_option maxRecDepth 100000
theorem agg_arr {r : Reach} {w : World} {b0 n : Nat} {t e : TypeId} {v : Value} (hs : Tryz.prog.underlying t = some (.array n e)) (hv : Value.okWide Tryz.prog w r b0 t v) : ∃ cs, v = .agg cs := by
  cases v <;> simp_all [Value.okWide]
end Go.Proofs.YtapeakbngligaaaGreatDoor
namespace Go.Proofs.YtapeakbngligaaaGreatDoor
open Go.RowKit Go.Deep Go.WideShapes D
set_option linter.unusedVariables false
set_option maxRecDepth 100000
section
variable {P : Program}
/-- A type all whose cells are integers of one kind. -/
structure FlatK (P : Program) (kd : IntKind) (t : TypeId) (n : Nat) : Prop where
  size : P.cellsOf t = n
  read : ∀ {H : Type} {enc : TypeId × Value → H} {w : World} {base : Nat} {sp : Nat → Bool} {held : Bool} {fuel : Nat} {cs : List Value} {x : DataW H × List MemPlace}, DataW.trod enc P w base sp held fuel t cs = some x →
    cs.length = n ∧ ∀ i, i < n → ∃ z, cs[i]? = some (.int kd z) ∧ (Lit.int kd z).wf = true
theorem FlatK.int {kd : IntKind} {t : TypeId} (ht : P.underlying t = some (.int kd)) (hc : P.cellsOf t = 1) : FlatK P kd t 1 :=
  ⟨hc, fun h => by
    obtain ⟨z, rfl, -, hw⟩ := DataW.trod_int ht h
    refine ⟨rfl, fun i hi => ?_⟩
    obtain rfl : i = 0 := by omega
    exact ⟨z, rfl, hw⟩⟩
theorem FlatK.array {kd : IntKind} {t e : TypeId} {n m : Nat} (ht : P.underlying t = some (.array n e)) (he : FlatK P kd e m) (hc : P.cellsOf t = n * m) : FlatK P kd t (n * m) :=
  ⟨hc, fun {H enc w base sp held fuel cs x} h => by
    obtain ⟨xs, k, -, -, hl, hxl, hx⟩ := DataW.trod_array ht h
    rw [hc] at hl
    refine ⟨hl, fun i hi => ?_⟩
    have hm : 0 < m := Nat.pos_of_ne_zero fun h0 => by subst h0; simp at hi
    have h1 : i / m < n := Nat.div_lt_of_lt_mul (by rw [Nat.mul_comm]; exact hi)
    have h2 : i % m < m := Nat.mod_lt _ hm
    have h3 := hx (i / m) h1
    rw [List.getElem?_eq_getElem (by rw [hxl]; exact h1), he.size] at h3
    obtain ⟨h4, h5⟩ := he.read h3
    obtain ⟨z, h6, h7⟩ := h5 (i % m) h2
    refine ⟨z, ?_, h7⟩
    rw [List.getElem?_take, if_pos h2, List.getElem?_drop] at h6
    rw [← h6]; congr 1
    rw [Nat.mul_comm]; exact (Nat.div_add_mod i m).symm⟩
theorem FlatK.cells {kd : IntKind} {t : TypeId} {n : Nat} (hF : FlatK P kd t n) {H : Type} {enc : TypeId × Value → H} {w : World} {base : Nat} {sp : Nat → Bool} {held : Bool} {fuel : Nat} {cs : List Value} {x : DataW H × List MemPlace} (h : DataW.trod enc P w base sp held fuel t cs = some x) :
    ∃ z : Nat → Int, (cs = (List.range n).map fun i => .int kd (z i)) ∧ ∀ i, i < n → (Lit.int kd (z i)).wf = true := by
  obtain ⟨hl, hr⟩ := hF.read h
  have : ∀ i, ∃ z, i < n → cs[i]? = some (.int kd z) ∧ (Lit.int kd z).wf = true := fun i => by
    by_cases hi : i < n
    · obtain ⟨z, hz, hy⟩ := hr i hi; exact ⟨z, fun _ => ⟨hz, hy⟩⟩
    · exact ⟨0, fun h => absurd h hi⟩
  obtain ⟨z, hz⟩ := Classical.axiomOfChoice this
  refine ⟨z, List.ext_getElem? fun i => ?_, fun i hi => (hz i hi).2⟩
  by_cases hi : i < n
  · rw [(hz i hi).1]; simp [hi]
  · rw [List.getElem?_eq_none (by omega)]; simp [hi]
/-- A slice of flat elements, opened. -/
theorem slice_flatK {kd : IntKind} {t e : TypeId} {m : Nat} (ht : P.underlying t = some (.slice e)) (he : FlatK P kd e m) (hm : 0 < m) {H : Type} {enc : TypeId × Value → H} {w : World} {base : Nat} {sp : Nat → Bool} {held : Bool} {fuel : Nat} {cs : List Value} {x : DataW H × List MemPlace} (h : DataW.trod enc P w base sp held fuel t cs = some x) :
    ∃ (s : Sl) (n : Nat) (z : Nat → Nat → Int), cs = [.slice s.a n s.cap] ∧ RowS w s m n (fun i j => .int kd (z i j)) ∧ ∀ i j, i < n → j < m → (Lit.int kd (z i j)).wf = true := by
  rcases open_slice ht h with ⟨rfl, -⟩ | ⟨a, len, cap, mm, k, D, Pl, rfl, -, hlc, hcm, hmm, -, hel⟩
  · exact ⟨⟨none, 0⟩, 0, fun _ _ => 0, rfl, ⟨Nat.le_refl _, by simp, fun i j hi => absurd hi (Nat.not_lt_zero i)⟩, fun i j hi => absurd hi (Nat.not_lt_zero i)⟩
  · have hmm' : len ≤ mm := by rw [hmm]; split <;> omega
    have key : ∀ i, ∃ zi : Nat → Int, i < len → ∀ j, j < m → w.cell? ((a.add (i * m)).add j) = some (.int kd (zi j)) ∧ (Lit.int kd (zi j)).wf = true := fun i => by
      by_cases hi : i < len
      · obtain ⟨cs', hc, ht'⟩ := hel i (by omega)
        rw [he.size] at hc
        obtain ⟨z, hz, hy⟩ := he.cells ht'
        refine ⟨z, fun _ j hj => ⟨?_, hy j hj⟩⟩
        obtain ⟨-, -, h1⟩ := World.cells?_some hc
        rw [h1 j hj, hz]; simp [hj]
      · exact ⟨fun _ => 0, fun h => absurd h hi⟩
    obtain ⟨zz, hzz⟩ := Classical.axiomOfChoice key
    refine ⟨⟨some a, cap⟩, len, zz, rfl, ⟨hlc, by unfold maxLen at hcm; exact hcm, fun i j hi hj => ?_⟩, fun i j hi hj => (hzz i hi j hj).2⟩
    have h2 := (hzz i hi j hj).1
    obtain ⟨b, off, spot⟩ := a
    have h0 := (hzz 0 (by omega) 0 (by omega)).1
    have hspot : spot = none := by simpa [Addr.add] using World.cell?_spot h0
    subst hspot
    refine ⟨b, off, rfl, ?_⟩
    rw [← h2, Go.Deep.add_add, add_plain, Nat.add_assoc]
end
/-- Numbers of one kind in memory. -/
def kC (kd : IntKind) (l : List Int) (i _ : Nat) : Value := .int kd (intD l i)
def KindS (kd : IntKind) (w : World) (s : Sl) (l : List Int) : Prop := RowS w s 1 l.length (kC kd l) ∧ ∀ i, i < l.length → (Lit.int kd (intD l i)).wf = true
theorem u8_in {z : Int} (h : (Lit.int .u8 z).wf = true) : 0 ≤ z ∧ z ≤ 255 := by
  have e1 : IntKind.u8.min = 0 := rfl
  have e2 : IntKind.u8.max = 255 := rfl
  simp only [Lit.wf, Bool.and_eq_true, decide_eq_true_eq, e1, e2] at h
  exact h
theorem u16_in {z : Int} (h : (Lit.int .u16 z).wf = true) : 0 ≤ z ∧ z ≤ 65535 := by
  have e1 : IntKind.u16.min = 0 := rfl
  have e2 : IntKind.u16.max = 65535 := rfl
  simp only [Lit.wf, Bool.and_eq_true, decide_eq_true_eq, e1, e2] at h
  exact h
theorem KindS.below {kd : IntKind} {w w' : World} {s : Sl} {l : List Int} (h : KindS kd w s l) (hB : Ext2 w w') : KindS kd w' s l := ⟨h.1.below hB, h.2⟩
section
variable {H : Type} {enc : TypeId × Value → H} {w : World} {base : Nat} {sp : Nat → Bool} {held : Bool} {fuel : Nat} {cs : List Value} {x : DataW H × List MemPlace}
theorem read_kinds {kd : IntKind} {t e : TypeId} (ht : Tryz.prog.underlying t = some (.slice e)) (he : FlatK Tryz.prog kd e 1) (h : DataW.trod enc Tryz.prog w base sp held fuel t cs = some x) : ∃ (s : Sl) (l : List Int), cs = [.slice s.a l.length s.cap] ∧ KindS kd w s l := by
  obtain ⟨s, n, z, rfl, hr, hy⟩ := slice_flatK ht he (by omega) h
  have e1 : ∀ i, i < n → intD ((List.range n).map fun i => z i 0) i = z i 0 := fun i hi => by simp [intD, hi]
  refine ⟨s, (List.range n).map fun i => z i 0, by simp, ?_, fun i hi => ?_⟩
  · rw [List.length_map, List.length_range]
    refine ⟨hr.le, hr.max, fun i j hi hj => ?_⟩
    obtain ⟨b, off, h1, h2⟩ := hr.cell i j hi hj
    refine ⟨b, off, h1, h2.trans ?_⟩
    obtain rfl : j = 0 := by omega
    unfold kC; rw [e1 i hi]
  · rw [List.length_map, List.length_range] at hi
    rw [e1 i hi]; exact hy i 0 hi (by omega)
end
theorem flU8 : FlatK Tryz.prog .u8 5 1 := FlatK.int Tryz.underlying5 (by kernel_rfl)
theorem flPair8 : FlatK Tryz.prog .u8 53 (2 * 1) := FlatK.array Tryz.underlying53 flU8 (by kernel_rfl)
section
variable {H : Type} {enc : TypeId × Value → H} {w : World} {base : Nat} {sp : Nat → Bool} {held : Bool} {fuel : Nat} {cs : List Value} {x : DataW H × List MemPlace} {r : Reach} {b0 : Nat} {v : Value} {d : DataW H} {p : List MemPlace}
theorem arg_pair8 (hv : Value.okWide Tryz.prog w r b0 53 v) (h : DataW.Trod enc Tryz.prog w base sp held 53 v d p) : ∃ a b : Int, v = .agg #[.int .u8 a, .int .u8 b] ∧ (0 ≤ a ∧ a ≤ 255) ∧ 0 ≤ b ∧ b ≤ 255 := by
  obtain ⟨cs, rfl⟩ := agg_arr Tryz.underlying53 hv
  obtain ⟨f, hf⟩ := h
  obtain ⟨z, hc, hy⟩ := flPair8.cells hf
  exact ⟨z 0, z 1, by rw [show cs = cs.toList.toArray by simp, show cs.toList = _ from hc]; rfl, u8_in (hy 0 (by omega)), u8_in (hy 1 (by omega))⟩
theorem arg_u16 (hv : Value.okWide Tryz.prog w r b0 32 v) (h : DataW.Trod enc Tryz.prog w base sp held 32 v d p) : ∃ n : Int, v = .int .u16 n ∧ 0 ≤ n ∧ n ≤ 65535 := by
  obtain ⟨n, rfl⟩ := okWide_int' Tryz.underlying32 hv
  obtain ⟨f, hf⟩ := h
  obtain ⟨z, hz, -, hw⟩ := DataW.trod_int Tryz.underlying32 hf
  simp only [Value.cells, List.cons.injEq, and_true] at hz
  obtain rfl : n = z := by injection hz
  exact ⟨n, rfl, u16_in hw⟩
theorem arg_u8s (hv : Value.okWide Tryz.prog w r b0 34 v) (h : DataW.Trod enc Tryz.prog w base sp held 34 v d p) : ∃ (l : List Int) (s : Sl), v = .slice s.a l.length s.cap ∧ KindS .u8 w s l := by
  obtain ⟨a, n, c, rfl⟩ := okWide_slice Tryz.underlying34 hv
  obtain ⟨f, hf⟩ := h
  obtain ⟨s, l, hc, hl⟩ := read_kinds Tryz.underlying34 flU8 hf
  simp only [Value.cells, List.cons.injEq, and_true] at hc
  exact ⟨l, s, hc, hl⟩
theorem flU16 : FlatK Tryz.prog .u16 32 1 := FlatK.int Tryz.underlying32 (by kernel_rfl)
theorem arg_cuts (hv : Value.okWide Tryz.prog w r b0 80 v) (h : DataW.Trod enc Tryz.prog w base sp held 80 v d p) : ∃ (l : List Cut) (s : Sl), v = .slice s.a l.length s.cap ∧ CutsS w s l := by
  obtain ⟨a, n, c, rfl⟩ := okWide_slice Tryz.underlying80 hv
  obtain ⟨f, hf⟩ := h
  obtain ⟨s, l, hc, hl⟩ := read_cuts hf
  simp only [Value.cells, List.cons.injEq, and_true] at hc
  exact ⟨l, s, hc, hl⟩
theorem arg_lists (hv : Value.okWide Tryz.prog w r b0 61 v) (h : DataW.Trod enc Tryz.prog w base sp held 61 v d p) : ∃ (ls : List (List Note)) (s : Sl) (hs : Nat → Sl), v = .slice s.a ls.length s.cap ∧ NListsS w s hs ls := by
  obtain ⟨a, n, c, rfl⟩ := okWide_slice Tryz.underlying61 hv
  obtain ⟨f, hf⟩ := h
  obtain ⟨s, hs, ls, hc, hl⟩ := read_lists hf
  simp only [Value.cells, List.cons.injEq, and_true] at hc
  exact ⟨ls, s, hs, hc, hl⟩
end
end Go.Proofs.YtapeakbngligaaaGreatDoor
