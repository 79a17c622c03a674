/-
  More arguments as data: bytes, small numbers, arrays and slices of bytes; courses.
-/
import Derived.Test.YtfjbgcaogffiaaaDReadA
import Derived.Test.YtfjbgcaogffiaaaDWalkA
namespace Go.Proofs.Ytfjbgcaogffiaaa
open Go.RowKit Go.Deep Go.WideShapes D
set_option linter.unusedVariables false
set_option maxRecDepth 100000
section
variable {P : Program}
/-- A type all whose cells are numbers of one kind. -/
structure FlatK (P : Program) (k : IntKind) (t : TypeId) (n : Nat) : Prop where
  size : P.cellsOf t = n
  read : ∀ {H : Type} {enc : TypeId × Value → H} {w : World} {base : Nat} {sp : Nat → Bool} {held : Bool} {fuel : Nat} {cs : List Value} {x : DataW H × List MemPlace}, DataW.trod enc P w base sp held fuel t cs = some x →
    cs.length = n ∧ ∀ i, i < n → ∃ z, cs[i]? = some (.int k z) ∧ (Lit.int k z).wf = true
theorem FlatK.int {k : IntKind} {t : TypeId} (ht : P.underlying t = some (.int k)) (hc : P.cellsOf t = 1) : FlatK P k t 1 :=
  ⟨hc, fun h => by
    obtain ⟨z, rfl, -, hw⟩ := DataW.trod_int ht h
    refine ⟨rfl, fun i hi => ?_⟩
    obtain rfl : i = 0 := by omega
    exact ⟨z, rfl, hw⟩⟩
theorem FlatK.array {k : IntKind} {t e : TypeId} {n m : Nat} (ht : P.underlying t = some (.array n e)) (he : FlatK P k e m) (hc : P.cellsOf t = n * m) : FlatK P k t (n * m) :=
  ⟨hc, fun {H enc w base sp held fuel cs x} h => by
    obtain ⟨xs, k', -, -, hl, hxl, hx⟩ := DataW.trod_array ht h
    rw [hc] at hl
    refine ⟨hl, fun i hi => ?_⟩
    have hm : 0 < m := Nat.pos_of_ne_zero fun h0 => by subst h0; simp at hi
    have h1 : i / m < n := Nat.div_lt_of_lt_mul (by rw [Nat.mul_comm]; exact hi)
    have h2 : i % m < m := Nat.mod_lt _ hm
    have h3 := hx (i / m) h1
    rw [List.getElem?_eq_getElem (by rw [hxl]; exact h1), he.size] at h3
    obtain ⟨h4, h5⟩ := he.read h3
    obtain ⟨z, h6, h7⟩ := h5 (i % m) h2
    refine ⟨z, ?_, h7⟩
    rw [List.getElem?_take, if_pos h2, List.getElem?_drop] at h6
    rw [← h6]; congr 1
    rw [Nat.mul_comm]; exact (Nat.div_add_mod i m).symm⟩
theorem FlatK.cells {k : IntKind} {t : TypeId} {n : Nat} (hF : FlatK P k t n) {H : Type} {enc : TypeId × Value → H} {w : World} {base : Nat} {sp : Nat → Bool} {held : Bool} {fuel : Nat} {cs : List Value} {x : DataW H × List MemPlace} (h : DataW.trod enc P w base sp held fuel t cs = some x) :
    ∃ z : Nat → Int, cs = (List.range n).map (fun i => .int k (z i)) ∧ ∀ i, i < n → (Lit.int k (z i)).wf = true := by
  obtain ⟨hl, hr⟩ := hF.read h
  have : ∀ i, ∃ z, i < n → cs[i]? = some (.int k z) ∧ (Lit.int k z).wf = true := fun i => by
    by_cases hi : i < n
    · obtain ⟨z, hz⟩ := hr i hi; exact ⟨z, fun _ => hz⟩
    · exact ⟨0, fun h => absurd h hi⟩
  refine ⟨fun i => Classical.choose (this i), List.ext_getElem? fun i => ?_, fun i hi => (Classical.choose_spec (this i) hi).2⟩
  by_cases hi : i < n
  · rw [(Classical.choose_spec (this i) hi).1]; simp [hi]
  · rw [List.getElem?_eq_none (by omega)]; simp [hi]
theorem slice_flatK {k : IntKind} {t e : TypeId} {m : Nat} (ht : P.underlying t = some (.slice e)) (he : FlatK P k e m) (hm : 0 < m) {H : Type} {enc : TypeId × Value → H} {w : World} {base : Nat} {sp : Nat → Bool} {held : Bool} {fuel : Nat} {cs : List Value} {x : DataW H × List MemPlace} (h : DataW.trod enc P w base sp held fuel t cs = some x) :
    ∃ (s : Sl) (n : Nat) (z : Nat → Nat → Int), cs = [.slice s.a n s.cap] ∧ RowS w s m n (fun i j => .int k (z i j)) ∧ ∀ i j, i < n → j < m → (Lit.int k (z i j)).wf = true := by
  rcases open_slice ht h with ⟨rfl, -⟩ | ⟨a, len, cap, mm, k', D, Pl, rfl, -, hlc, hcm, hmm, -, hel⟩
  · exact ⟨⟨none, 0⟩, 0, fun _ _ => 0, rfl, ⟨Nat.le_refl _, by simp, fun i j hi => absurd hi (Nat.not_lt_zero i)⟩, fun i j hi => absurd hi (Nat.not_lt_zero i)⟩
  · have hmm' : len ≤ mm := by rw [hmm]; split <;> omega
    have key : ∀ i, ∃ zi : Nat → Int, i < len → ∀ j, j < m → w.cell? ((a.add (i * m)).add j) = some (.int k (zi j)) ∧ (Lit.int k (zi j)).wf = true := fun i => by
      by_cases hi : i < len
      · obtain ⟨cs', hc, ht'⟩ := hel i (by omega)
        rw [he.size] at hc
        obtain ⟨z, hz, hw⟩ := he.cells ht'
        refine ⟨z, fun _ j hj => ⟨?_, hw j hj⟩⟩
        obtain ⟨-, -, h1⟩ := World.cells?_some hc
        rw [h1 j hj, hz]; simp [hj]
      · exact ⟨fun _ => 0, fun h => absurd h hi⟩
    refine ⟨⟨some a, cap⟩, len, fun i j => Classical.choose (key i) j, rfl, ⟨hlc, by unfold maxLen at hcm; exact hcm, fun i j hi hj => ?_⟩, fun i j hi hj => (Classical.choose_spec (key i) hi j hj).2⟩
    have h2 := (Classical.choose_spec (key i) hi j hj).1
    obtain ⟨b, off, spot⟩ := a
    have h0 := (Classical.choose_spec (key 0) (by omega) 0 (by omega)).1
    have hspot : spot = none := by simpa [Addr.add] using World.cell?_spot h0
    subst hspot
    refine ⟨b, off, rfl, ?_⟩
    rw [← h2, Go.Deep.add_add, add_plain, Nat.add_assoc]
theorem wf_u8 {z : Int} (h : (Lit.int .u8 z).wf = true) : 0 ≤ z ∧ z ≤ 255 := by
  have e1 : IntKind.u8.min = 0 := rfl
  have e2 : IntKind.u8.max = 255 := rfl
  simpa only [Lit.wf, Bool.and_eq_true, decide_eq_true_eq, e1, e2] using h
theorem wf_u16 {z : Int} (h : (Lit.int .u16 z).wf = true) : 0 ≤ z ∧ z ≤ 65535 := by
  have e1 : IntKind.u16.min = 0 := rfl
  have e2 : IntKind.u16.max = 65535 := rfl
  simpa only [Lit.wf, Bool.and_eq_true, decide_eq_true_eq, e1, e2] using h
end
theorem list2' : ∀ {α : Type} {l : List α}, l.length = 2 → ∃ a b, l = [a, b]
  | _, [a, b], _ => ⟨a, b, rfl⟩
theorem cU8 : Try.prog.cellsOf 5 = 1 := by kernel_rfl
theorem flU8 : FlatK Try.prog .u8 5 1 := FlatK.int Try.underlying5 cU8
theorem fl2 : FlatK Try.prog .u8 66 (2 * 1) := FlatK.array Try.underlying66 flU8 (by kernel_rfl)
theorem fl3 : FlatK Try.prog .u8 67 (3 * 1) := FlatK.array Try.underlying67 flU8 (by kernel_rfl)
theorem cBytes : Try.prog.cellsOf 55 = 1 := by kernel_rfl
theorem cCourse : Try.prog.cellsOf 57 = 2 := by kernel_rfl
theorem agg_arr {r : Reach} {w : World} {b0 n : Nat} {t e : TypeId} {v : Value} (hs : Try.prog.underlying t = some (.array n e)) (hv : Value.okWide Try.prog w r b0 t v) : ∃ cs, v = .agg cs := by
  cases v <;> simp_all [Value.okWide]
section
variable {H : Type} {enc : TypeId × Value → H} {w : World} {base : Nat} {sp : Nat → Bool} {held : Bool} {fuel : Nat} {cs : List Value} {x : DataW H × List MemPlace}
theorem arg_u8 {r : Reach} {b0 : Nat} {v : Value} {d : DataW H} {p : List MemPlace} (hv : Value.okWide Try.prog w r b0 5 v) (h : DataW.Trod enc Try.prog w base sp held 5 v d p) : ∃ n : Int, (0 ≤ n ∧ n ≤ 255) ∧ v = .int .u8 n := by
  obtain ⟨n, rfl⟩ := okWide_int' Try.underlying5 hv
  obtain ⟨f, hf⟩ := h
  obtain ⟨z, hz, -, hw⟩ := DataW.trod_int Try.underlying5 hf
  simp only [Value.cells, List.cons.injEq, and_true] at hz
  obtain rfl : n = z := by injection hz
  exact ⟨n, wf_u8 hw, rfl⟩
theorem arg_u16 {r : Reach} {b0 : Nat} {v : Value} {d : DataW H} {p : List MemPlace} (hv : Value.okWide Try.prog w r b0 72 v) (h : DataW.Trod enc Try.prog w base sp held 72 v d p) : ∃ n : Int, (0 ≤ n ∧ n ≤ 65535) ∧ v = .int .u16 n := by
  obtain ⟨n, rfl⟩ := okWide_int' Try.underlying72 hv
  obtain ⟨f, hf⟩ := h
  obtain ⟨z, hz, -, hw⟩ := DataW.trod_int Try.underlying72 hf
  simp only [Value.cells, List.cons.injEq, and_true] at hz
  obtain rfl : n = z := by injection hz
  exact ⟨n, wf_u16 hw, rfl⟩
theorem arg_u8x2 {r : Reach} {b0 : Nat} {v : Value} {d : DataW H} {p : List MemPlace} (hv : Value.okWide Try.prog w r b0 66 v) (h : DataW.Trod enc Try.prog w base sp held 66 v d p) : ∃ n : Nat → Int, (∀ i, i < 2 → 0 ≤ n i ∧ n i ≤ 255) ∧ v = .agg #[.int .u8 (n 0), .int .u8 (n 1)] := by
  obtain ⟨cs, rfl⟩ := agg_arr Try.underlying66 hv
  obtain ⟨f, hf⟩ := h
  obtain ⟨z, hc, hw⟩ := fl2.cells hf
  exact ⟨z, fun i hi => wf_u8 (hw i (by omega)), by rw [show cs = cs.toList.toArray by simp, show cs.toList = _ from hc]; rfl⟩
theorem arg_u8x3 {r : Reach} {b0 : Nat} {v : Value} {d : DataW H} {p : List MemPlace} (hv : Value.okWide Try.prog w r b0 67 v) (h : DataW.Trod enc Try.prog w base sp held 67 v d p) : ∃ n : Nat → Int, (∀ i, i < 3 → 0 ≤ n i ∧ n i ≤ 255) ∧ v = .agg #[.int .u8 (n 0), .int .u8 (n 1), .int .u8 (n 2)] := by
  obtain ⟨cs, rfl⟩ := agg_arr Try.underlying67 hv
  obtain ⟨f, hf⟩ := h
  obtain ⟨z, hc, hw⟩ := fl3.cells hf
  exact ⟨z, fun i hi => wf_u8 (hw i (by omega)), by rw [show cs = cs.toList.toArray by simp, show cs.toList = _ from hc]; rfl⟩
theorem read_course (h : DataW.trod enc Try.prog w base sp held fuel 57 cs = some x) : ∃ (C : Cse) (s : Sl), cs = [.int .u8 C.start, .slice s.a C.steps.length s.cap] ∧ CseOk C ∧ U8S w s C.steps := by
  obtain ⟨xs, k, -, -, hl, hxl, hx⟩ := DataW.trod_struct Try.underlying57 h
  rw [cCourse] at hl
  obtain ⟨c0, c1, rfl⟩ := list2' hl
  have g : ∀ j, j < xs.length → ∃ y, xs[j]? = some y := fun j hj => ⟨_, List.getElem?_eq_getElem hj⟩
  have hn : xs.length = 2 := hxl
  obtain ⟨y0, g0⟩ := g 0 (by omega); obtain ⟨y1, g1⟩ := g 1 (by omega)
  have h0 : DataW.trod enc Try.prog w base sp held k 5 (List.take (Try.prog.cellsOf 5) (List.drop 0 [c0, c1])) = some y0 := (hx 0 _ rfl).trans g0
  rw [cU8] at h0
  have h0 : DataW.trod enc Try.prog w base sp held k 5 [c0] = some y0 := h0
  have h1 : DataW.trod enc Try.prog w base sp held k 55 (List.take (Try.prog.cellsOf 55) (List.drop 1 [c0, c1])) = some y1 := (hx 1 _ rfl).trans g1
  rw [cBytes] at h1
  have h1 : DataW.trod enc Try.prog w base sp held k 55 [c1] = some y1 := h1
  obtain ⟨z0, e0, b0⟩ := flU8.cells h0
  obtain ⟨s, n, z, e1, hr, hb⟩ := slice_flatK Try.underlying55 flU8 (by omega) h1
  have e0 : [c0] = [Value.int .u8 (z0 0)] := e0
  simp only [List.cons.injEq, and_true] at e0 e1
  have hd : ∀ j, j < n → intD ((List.range n).map fun i => z i 0) j = z j 0 := fun j hj => by simp [intD, hj]
  refine ⟨⟨z0 0, (List.range n).map fun i => z i 0⟩, s, by simp [e0, e1], ⟨wf_u8 (b0 0 (by omega)), fun j hj => ?_⟩, ?_⟩
  · have hj' : j < n := by simpa using hj
    rw [hd j hj']; exact wf_u8 (hb j 0 hj' (by omega))
  · unfold U8S
    rw [List.length_map, List.length_range]
    refine ⟨hr.le, hr.max, fun i j hi hj => ?_⟩
    obtain ⟨b, off, h1, h2⟩ := hr.cell i j hi hj
    refine ⟨b, off, h1, h2.trans ?_⟩
    obtain rfl : j = 0 := by omega
    rw [u8C, hd i hi]
theorem arg_course {r : Reach} {b0 : Nat} {v : Value} {d : DataW H} {p : List MemPlace} (hv : Value.okWide Try.prog w r b0 57 v) (h : DataW.Trod enc Try.prog w base sp held 57 v d p) : ∃ (C : Cse) (s : Sl), v = .agg #[.int .u8 C.start, .slice s.a C.steps.length s.cap] ∧ (CseOk C ∧ U8S w s C.steps) := by
  obtain ⟨cs, rfl⟩ := agg_of Try.underlying57 hv
  obtain ⟨f, hf⟩ := h
  obtain ⟨C, s, hc, h1, h2⟩ := read_course hf
  exact ⟨C, s, by rw [show cs = cs.toList.toArray by simp, show cs.toList = _ from hc], h1, h2⟩
end
end Go.Proofs.Ytfjbgcaogffiaaa
