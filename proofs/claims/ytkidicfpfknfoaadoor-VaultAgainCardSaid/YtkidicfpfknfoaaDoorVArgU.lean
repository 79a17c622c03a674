/-
  Arguments with numbers of 8 and 16 bits, and what is asked for, as data.
-/
import Derived.Test.YtkidicfpfknfoaaDoorVArgP
namespace Go.Proofs.YtkidicfpfknfoaaDoor.D
structure Ask where
  t : Span
  room : Int
  next : Int
  hours : Int
  base : Int
structure Life where
  can : Int
  days : Int
  temps : List Int
  damps : List Int
  rates : List Int
  rounded : List Int
end Go.Proofs.YtkidicfpfknfoaaDoor.D
namespace Go.Proofs.YtkidicfpfknfoaaDoor
open Go.RowKit Go.Deep Go.WideShapes D
set_option linter.unusedVariables false
set_option maxRecDepth 100000
section
variable {P : Program}
/-- A type all whose cells are integers of one kind. -/
structure FlatK (P : Program) (kd : IntKind) (t : TypeId) (n : Nat) : Prop where
  size : P.cellsOf t = n
  read : ∀ {H : Type} {enc : TypeId × Value → H} {w : World} {base : Nat} {sp : Nat → Bool} {held : Bool} {fuel : Nat} {cs : List Value} {x : DataW H × List MemPlace}, DataW.trod enc P w base sp held fuel t cs = some x →
    cs.length = n ∧ ∀ i, i < n → ∃ z, cs[i]? = some (.int kd z) ∧ (Lit.int kd z).wf = true
theorem FlatK.int {kd : IntKind} {t : TypeId} (ht : P.underlying t = some (.int kd)) (hc : P.cellsOf t = 1) : FlatK P kd t 1 :=
  ⟨hc, fun h => by
    obtain ⟨z, rfl, -, hw⟩ := DataW.trod_int ht h
    refine ⟨rfl, fun i hi => ?_⟩
    obtain rfl : i = 0 := by omega
    exact ⟨z, rfl, hw⟩⟩
theorem FlatK.array {kd : IntKind} {t e : TypeId} {n m : Nat} (ht : P.underlying t = some (.array n e)) (he : FlatK P kd e m) (hc : P.cellsOf t = n * m) : FlatK P kd t (n * m) :=
  ⟨hc, fun {H enc w base sp held fuel cs x} h => by
    obtain ⟨xs, k, -, -, hl, hxl, hx⟩ := DataW.trod_array ht h
    rw [hc] at hl
    refine ⟨hl, fun i hi => ?_⟩
    have hm : 0 < m := Nat.pos_of_ne_zero fun h0 => by subst h0; simp at hi
    have h1 : i / m < n := Nat.div_lt_of_lt_mul (by rw [Nat.mul_comm]; exact hi)
    have h2 : i % m < m := Nat.mod_lt _ hm
    have h3 := hx (i / m) h1
    rw [List.getElem?_eq_getElem (by rw [hxl]; exact h1), he.size] at h3
    obtain ⟨h4, h5⟩ := he.read h3
    obtain ⟨z, h6, h7⟩ := h5 (i % m) h2
    refine ⟨z, ?_, h7⟩
    rw [List.getElem?_take, if_pos h2, List.getElem?_drop] at h6
    rw [← h6]; congr 1
    rw [Nat.mul_comm]; exact (Nat.div_add_mod i m).symm⟩
theorem FlatK.cells {kd : IntKind} {t : TypeId} {n : Nat} (hF : FlatK P kd t n) {H : Type} {enc : TypeId × Value → H} {w : World} {base : Nat} {sp : Nat → Bool} {held : Bool} {fuel : Nat} {cs : List Value} {x : DataW H × List MemPlace} (h : DataW.trod enc P w base sp held fuel t cs = some x) :
    ∃ z : Nat → Int, (cs = (List.range n).map fun i => .int kd (z i)) ∧ ∀ i, i < n → (Lit.int kd (z i)).wf = true := by
  obtain ⟨hl, hr⟩ := hF.read h
  have : ∀ i, ∃ z, i < n → cs[i]? = some (.int kd z) ∧ (Lit.int kd z).wf = true := fun i => by
    by_cases hi : i < n
    · obtain ⟨z, hz, hy⟩ := hr i hi; exact ⟨z, fun _ => ⟨hz, hy⟩⟩
    · exact ⟨0, fun h => absurd h hi⟩
  obtain ⟨z, hz⟩ := Classical.axiomOfChoice this
  refine ⟨z, List.ext_getElem? fun i => ?_, fun i hi => (hz i hi).2⟩
  by_cases hi : i < n
  · rw [(hz i hi).1]; simp [hi]
  · rw [List.getElem?_eq_none (by omega)]; simp [hi]
/-- A slice of flat elements, opened. -/
theorem slice_flatK {kd : IntKind} {t e : TypeId} {m : Nat} (ht : P.underlying t = some (.slice e)) (he : FlatK P kd e m) (hm : 0 < m) {H : Type} {enc : TypeId × Value → H} {w : World} {base : Nat} {sp : Nat → Bool} {held : Bool} {fuel : Nat} {cs : List Value} {x : DataW H × List MemPlace} (h : DataW.trod enc P w base sp held fuel t cs = some x) :
    ∃ (s : Sl) (n : Nat) (z : Nat → Nat → Int), cs = [.slice s.a n s.cap] ∧ RowS w s m n (fun i j => .int kd (z i j)) ∧ ∀ i j, i < n → j < m → (Lit.int kd (z i j)).wf = true := by
  rcases open_slice ht h with ⟨rfl, -⟩ | ⟨a, len, cap, mm, k, D, Pl, rfl, -, hlc, hcm, hmm, -, hel⟩
  · exact ⟨⟨none, 0⟩, 0, fun _ _ => 0, rfl, ⟨Nat.le_refl _, by simp, fun i j hi => absurd hi (Nat.not_lt_zero i)⟩, fun i j hi => absurd hi (Nat.not_lt_zero i)⟩
  · have hmm' : len ≤ mm := by rw [hmm]; split <;> omega
    have key : ∀ i, ∃ zi : Nat → Int, i < len → ∀ j, j < m → w.cell? ((a.add (i * m)).add j) = some (.int kd (zi j)) ∧ (Lit.int kd (zi j)).wf = true := fun i => by
      by_cases hi : i < len
      · obtain ⟨cs', hc, ht'⟩ := hel i (by omega)
        rw [he.size] at hc
        obtain ⟨z, hz, hy⟩ := he.cells ht'
        refine ⟨z, fun _ j hj => ⟨?_, hy j hj⟩⟩
        obtain ⟨-, -, h1⟩ := World.cells?_some hc
        rw [h1 j hj, hz]; simp [hj]
      · exact ⟨fun _ => 0, fun h => absurd h hi⟩
    obtain ⟨zz, hzz⟩ := Classical.axiomOfChoice key
    refine ⟨⟨some a, cap⟩, len, zz, rfl, ⟨hlc, by unfold maxLen at hcm; exact hcm, fun i j hi hj => ?_⟩, fun i j hi hj => (hzz i hi j hj).2⟩
    have h2 := (hzz i hi j hj).1
    obtain ⟨b, off, spot⟩ := a
    have h0 := (hzz 0 (by omega) 0 (by omega)).1
    have hspot : spot = none := by simpa [Addr.add] using World.cell?_spot h0
    subst hspot
    refine ⟨b, off, rfl, ?_⟩
    rw [← h2, Go.Deep.add_add, add_plain, Nat.add_assoc]
end
/-- Numbers of one kind in memory. -/
def kC (kd : IntKind) (l : List Int) (i _ : Nat) : Value := .int kd (intD l i)
def KindS (kd : IntKind) (w : World) (s : Sl) (l : List Int) : Prop := RowS w s 1 l.length (kC kd l) ∧ ∀ i, i < l.length → (Lit.int kd (intD l i)).wf = true
theorem u8_in {z : Int} (h : (Lit.int .u8 z).wf = true) : 0 ≤ z ∧ z ≤ 255 := by
  have e1 : IntKind.u8.min = 0 := rfl
  have e2 : IntKind.u8.max = 255 := rfl
  simp only [Lit.wf, Bool.and_eq_true, decide_eq_true_eq, e1, e2] at h
  exact h
theorem u16_in {z : Int} (h : (Lit.int .u16 z).wf = true) : 0 ≤ z ∧ z ≤ 65535 := by
  have e1 : IntKind.u16.min = 0 := rfl
  have e2 : IntKind.u16.max = 65535 := rfl
  simp only [Lit.wf, Bool.and_eq_true, decide_eq_true_eq, e1, e2] at h
  exact h
theorem KindS.below {kd : IntKind} {w w' : World} {s : Sl} {l : List Int} (h : KindS kd w s l) (hB : Ext2 w w') : KindS kd w' s l := ⟨h.1.below hB, h.2⟩
section
variable {H : Type} {enc : TypeId × Value → H} {w : World} {base : Nat} {sp : Nat → Bool} {held : Bool} {fuel : Nat} {cs : List Value} {x : DataW H × List MemPlace}
theorem read_kinds {kd : IntKind} {t e : TypeId} (ht : Tryd.prog.underlying t = some (.slice e)) (he : FlatK Tryd.prog kd e 1) (h : DataW.trod enc Tryd.prog w base sp held fuel t cs = some x) : ∃ (s : Sl) (l : List Int), cs = [.slice s.a l.length s.cap] ∧ KindS kd w s l := by
  obtain ⟨s, n, z, rfl, hr, hy⟩ := slice_flatK ht he (by omega) h
  have e1 : ∀ i, i < n → intD ((List.range n).map fun i => z i 0) i = z i 0 := fun i hi => by simp [intD, hi]
  refine ⟨s, (List.range n).map fun i => z i 0, by simp, ?_, fun i hi => ?_⟩
  · rw [List.length_map, List.length_range]
    refine ⟨hr.le, hr.max, fun i j hi hj => ?_⟩
    obtain ⟨b, off, h1, h2⟩ := hr.cell i j hi hj
    refine ⟨b, off, h1, h2.trans ?_⟩
    obtain rfl : j = 0 := by omega
    unfold kC; rw [e1 i hi]
  · rw [List.length_map, List.length_range] at hi
    rw [e1 i hi]; exact hy i 0 hi (by omega)
end
theorem flU8 : FlatK Tryd.prog .u8 5 1 := FlatK.int Tryd.underlying5 (by kernel_rfl)
theorem flPair8 : FlatK Tryd.prog .u8 34 (2 * 1) := FlatK.array Tryd.underlying34 flU8 (by kernel_rfl)
theorem flQuad8 : FlatK Tryd.prog .u8 86 (4 * 1) := FlatK.array Tryd.underlying86 flU8 (by kernel_rfl)
section
variable {H : Type} {enc : TypeId × Value → H} {w : World} {base : Nat} {sp : Nat → Bool} {held : Bool} {fuel : Nat} {cs : List Value} {x : DataW H × List MemPlace} {r : Reach} {b0 : Nat} {v : Value} {d : DataW H} {p : List MemPlace}
theorem arg_pair8 (hv : Value.okWide Tryd.prog w r b0 34 v) (h : DataW.Trod enc Tryd.prog w base sp held 34 v d p) : ∃ a b : Int, v = .agg #[.int .u8 a, .int .u8 b] ∧ (0 ≤ a ∧ a ≤ 255) ∧ 0 ≤ b ∧ b ≤ 255 := by
  obtain ⟨cs, rfl⟩ := agg_arr Tryd.underlying34 hv
  obtain ⟨f, hf⟩ := h
  obtain ⟨z, hc, hy⟩ := flPair8.cells hf
  exact ⟨z 0, z 1, by rw [show cs = cs.toList.toArray by simp, show cs.toList = _ from hc]; rfl, u8_in (hy 0 (by omega)), u8_in (hy 1 (by omega))⟩
theorem arg_quad8 (hv : Value.okWide Tryd.prog w r b0 86 v) (h : DataW.Trod enc Tryd.prog w base sp held 86 v d p) : ∃ a : Nat → Int, v = .agg #[.int .u8 (a 0), .int .u8 (a 1), .int .u8 (a 2), .int .u8 (a 3)] ∧ ∀ i, i < 4 → 0 ≤ a i ∧ a i ≤ 255 := by
  obtain ⟨cs, rfl⟩ := agg_arr Tryd.underlying86 hv
  obtain ⟨f, hf⟩ := h
  obtain ⟨z, hc, hy⟩ := flQuad8.cells hf
  exact ⟨z, by rw [show cs = cs.toList.toArray by simp, show cs.toList = _ from hc]; rfl, fun i hi => u8_in (hy i (by omega))⟩
theorem arg_u16 (hv : Value.okWide Tryd.prog w r b0 71 v) (h : DataW.Trod enc Tryd.prog w base sp held 71 v d p) : ∃ n : Int, v = .int .u16 n ∧ 0 ≤ n ∧ n ≤ 65535 := by
  obtain ⟨n, rfl⟩ := okWide_int' Tryd.underlying71 hv
  obtain ⟨f, hf⟩ := h
  obtain ⟨z, hz, -, hw⟩ := DataW.trod_int Tryd.underlying71 hf
  simp only [Value.cells, List.cons.injEq, and_true] at hz
  obtain rfl : n = z := by injection hz
  exact ⟨n, rfl, u16_in hw⟩
theorem arg_u8s (hv : Value.okWide Tryd.prog w r b0 63 v) (h : DataW.Trod enc Tryd.prog w base sp held 63 v d p) : ∃ (l : List Int) (s : Sl), v = .slice s.a l.length s.cap ∧ KindS .u8 w s l := by
  obtain ⟨a, n, c, rfl⟩ := okWide_slice Tryd.underlying63 hv
  obtain ⟨f, hf⟩ := h
  obtain ⟨s, l, hc, hl⟩ := read_kinds Tryd.underlying63 flU8 hf
  simp only [Value.cells, List.cons.injEq, and_true] at hc
  exact ⟨l, s, hc, hl⟩
theorem arg_moves (hv : Value.okWide Tryd.prog w r b0 42 v) (h : DataW.Trod enc Tryd.prog w base sp held 42 v d p) : ∃ (l : List Mv) (s : Sl), v = .slice s.a l.length s.cap ∧ MovesS w s l := by
  obtain ⟨a, n, c, rfl⟩ := okWide_slice Tryd.underlying42 hv
  obtain ⟨f, hf⟩ := h
  obtain ⟨s, l, hc, hl⟩ := read_mvs hf
  simp only [Value.cells, List.cons.injEq, and_true] at hc
  exact ⟨l, s, hc, hl⟩
theorem flAsk : FlatI Tryd.prog 62 6 := FlatI.struct Tryd.underlying62 (by kernel_rfl) fun i hi => by
  rcases (by omega : i = 0 ∨ i = 1 ∨ i = 2 ∨ i = 3 ∨ i = 4 ∨ i = 5) with rfl | rfl | rfl | rfl | rfl | rfl
  · exact ⟨0, _, 2, rfl, by decide, by decide, flSpan⟩
  · exact ⟨0, _, 2, rfl, by decide, by decide, flSpan⟩
  · exact ⟨1, _, 1, rfl, by decide, by decide, flInt⟩
  · exact ⟨2, _, 1, rfl, by decide, by decide, flInt⟩
  · exact ⟨3, _, 1, rfl, by decide, by decide, flInt⟩
  · exact ⟨4, _, 1, rfl, by decide, by decide, flInt⟩
theorem arg_ask (hv : Value.okWide Tryd.prog w r b0 62 v) (h : DataW.Trod enc Tryd.prog w base sp held 62 v d p) : ∃ X : D.Ask, v = .agg #[.int .i64 X.t.lo, .int .i64 X.t.hi, .int .i64 X.room, .int .i64 X.next, .int .i64 X.hours, .int .i64 X.base] := by
  obtain ⟨cs, rfl⟩ := agg_of Tryd.underlying62 hv
  obtain ⟨f, hf⟩ := h
  obtain ⟨z, hc⟩ := flAsk.cells hf
  exact ⟨⟨⟨z 0, z 1⟩, z 2, z 3, z 4, z 5⟩, by rw [show cs = cs.toList.toArray by simp, show cs.toList = _ from hc]; rfl⟩
end
end Go.Proofs.YtkidicfpfknfoaaDoor
