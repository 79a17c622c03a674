/-
  BenchTrue's argument Lost as data; law.turn.
-/
import Derived.Test.YtapeakbngligaaaGreatDoorBArgM
import Derived.Test.YtapeakbngligaaaGreatDoorBPlL
namespace Go.Proofs.YtapeakbngligaaaGreatDoor
open Go.RowKit Go.Deep Go.WideShapes D
set_option linter.unusedVariables false
set_option maxRecDepth 100000
structure LSl where
  p : Sl
  l : Sl
  x : Sl
  n : Sl
def prC (l : List (Int × Int)) (i j : Nat) : Value := if j = 0 then .int .u8 (l.getD i (0, 0)).1 else .int .u8 (l.getD i (0, 0)).2
structure LostAt (w : World) (X : Lost) (q : LSl) : Prop where
  ok : LostOk X
  pieces : RowS w q.p 2 X.pieces.length (prC X.pieces)
  leaders : KindS .u8 w q.l X.leaders
  wide : KindS .u8 w q.x X.wide
  noted : KindS .u8 w q.n X.noted
theorem LostAt.below {w w' : World} {X : Lost} {q : LSl} (h : LostAt w X q) (hB : Ext2 w w') : LostAt w' X q := ⟨h.ok, h.pieces.below hB, h.leaders.below hB, h.wide.below hB, h.noted.below hB⟩
theorem cLost : Tryz.prog.cellsOf 36 = 10 := by kernel_rfl
theorem czU8 : Tryz.prog.cellsOf 5 = 1 := by kernel_rfl
theorem czU16 : Tryz.prog.cellsOf 32 = 1 := by kernel_rfl
theorem czU8s : Tryz.prog.cellsOf 34 = 1 := by kernel_rfl
theorem czPrs : Tryz.prog.cellsOf 33 = 1 := by kernel_rfl
theorem listL10 {α : Type} : ∀ {l : List α}, l.length = 10 → ∃ a0 a1 a2 a3 a4 a5 a6 a7 a8 a9, l = [a0, a1, a2, a3, a4, a5, a6, a7, a8, a9]
  | [a0, a1, a2, a3, a4, a5, a6, a7, a8, a9], _ => ⟨a0, a1, a2, a3, a4, a5, a6, a7, a8, a9, rfl⟩
section
variable {H : Type} {enc : TypeId × Value → H} {w : World} {base : Nat} {sp : Nat → Bool} {held : Bool} {fuel : Nat} {cs : List Value} {x : DataW H × List MemPlace} {r : Reach} {b0 : Nat} {v : Value} {d : DataW H} {p : List MemPlace}
theorem read_pairs {kd : IntKind} {t e : TypeId} (hk : kd = .u8) (ht : Tryz.prog.underlying t = some (.slice e)) (he : FlatK Tryz.prog kd e (2 * 1)) (h : DataW.trod enc Tryz.prog w base sp held fuel t cs = some x) : ∃ (s : Sl) (l : List (Int × Int)), cs = [.slice s.a l.length s.cap] ∧ RowS w s 2 l.length (prC l) ∧ ∀ i, i < l.length → (0 ≤ (l.getD i (0, 0)).1 ∧ (l.getD i (0, 0)).1 ≤ 255) ∧ 0 ≤ (l.getD i (0, 0)).2 ∧ (l.getD i (0, 0)).2 ≤ 255 := by
  subst hk
  obtain ⟨s, n, z, rfl, hr, hy⟩ := slice_flatK ht he (by omega) h
  have e1 : ∀ i, i < n → ((List.range n).map fun i => (z i 0, z i 1)).getD i (0, 0) = (z i 0, z i 1) := fun i hi => by simp [hi]
  refine ⟨s, (List.range n).map fun i => (z i 0, z i 1), by simp, ?_, fun i hi => ?_⟩
  · rw [List.length_map, List.length_range]
    refine ⟨hr.le, hr.max, fun i j hi hj => ?_⟩
    obtain ⟨b, off, h1, h2⟩ := hr.cell i j hi hj
    refine ⟨b, off, h1, h2.trans ?_⟩
    unfold prC; rw [e1 i hi]
    rcases (by omega : j = 0 ∨ j = 1) with rfl | rfl <;> simp
  · rw [List.length_map, List.length_range] at hi
    rw [e1 i hi]; exact ⟨u8_in (hy i 0 hi (by omega)), u8_in (hy i 1 hi (by omega))⟩
theorem read_lost (h : DataW.trod enc Tryz.prog w base sp held fuel 36 cs = some x) : ∃ (X : Lost) (q : LSl), cs = [.int .u8 X.gauge, .int .u8 X.roll, .int .u16 X.first, .slice q.p.a X.pieces.length q.p.cap, .slice q.l.a X.leaders.length q.l.cap, .slice q.x.a X.wide.length q.x.cap, .slice q.n.a X.noted.length q.n.cap, .int .u8 X.end_, .int .u8 X.least, .int .u8 X.most] ∧ LostAt w X q := by
  obtain ⟨xs, k, -, -, hl, hxl, hx⟩ := DataW.trod_struct Tryz.underlying36 h
  rw [cLost] at hl
  obtain ⟨c0, c1, c2, c3, c4, c5, c6, c7, c8, c9, rfl⟩ := listL10 hl
  have g : ∀ j, j < xs.length → ∃ y, xs[j]? = some y := fun j hj => ⟨_, List.getElem?_eq_getElem hj⟩
  have hn : xs.length = 10 := hxl
  obtain ⟨y0, g0⟩ := g 0 (by omega)
  have h0 : DataW.trod enc Tryz.prog w base sp held k 5 (List.take (Tryz.prog.cellsOf 5) (List.drop 0 [c0, c1, c2, c3, c4, c5, c6, c7, c8, c9])) = some y0 := (hx 0 _ rfl).trans g0
  rw [czU8] at h0
  have h0 : DataW.trod enc Tryz.prog w base sp held k 5 [c0] = some y0 := h0
  obtain ⟨y1, g1⟩ := g 1 (by omega)
  have h1 : DataW.trod enc Tryz.prog w base sp held k 5 (List.take (Tryz.prog.cellsOf 5) (List.drop 1 [c0, c1, c2, c3, c4, c5, c6, c7, c8, c9])) = some y1 := (hx 1 _ rfl).trans g1
  rw [czU8] at h1
  have h1 : DataW.trod enc Tryz.prog w base sp held k 5 [c1] = some y1 := h1
  obtain ⟨y2, g2⟩ := g 2 (by omega)
  have h2 : DataW.trod enc Tryz.prog w base sp held k 32 (List.take (Tryz.prog.cellsOf 32) (List.drop 2 [c0, c1, c2, c3, c4, c5, c6, c7, c8, c9])) = some y2 := (hx 2 _ rfl).trans g2
  rw [czU16] at h2
  have h2 : DataW.trod enc Tryz.prog w base sp held k 32 [c2] = some y2 := h2
  obtain ⟨y3, g3⟩ := g 3 (by omega)
  have h3 : DataW.trod enc Tryz.prog w base sp held k 33 (List.take (Tryz.prog.cellsOf 33) (List.drop 3 [c0, c1, c2, c3, c4, c5, c6, c7, c8, c9])) = some y3 := (hx 3 _ rfl).trans g3
  rw [czPrs] at h3
  have h3 : DataW.trod enc Tryz.prog w base sp held k 33 [c3] = some y3 := h3
  obtain ⟨y4, g4⟩ := g 4 (by omega)
  have h4 : DataW.trod enc Tryz.prog w base sp held k 34 (List.take (Tryz.prog.cellsOf 34) (List.drop 4 [c0, c1, c2, c3, c4, c5, c6, c7, c8, c9])) = some y4 := (hx 4 _ rfl).trans g4
  rw [czU8s] at h4
  have h4 : DataW.trod enc Tryz.prog w base sp held k 34 [c4] = some y4 := h4
  obtain ⟨y5, g5⟩ := g 5 (by omega)
  have h5 : DataW.trod enc Tryz.prog w base sp held k 34 (List.take (Tryz.prog.cellsOf 34) (List.drop 5 [c0, c1, c2, c3, c4, c5, c6, c7, c8, c9])) = some y5 := (hx 5 _ rfl).trans g5
  rw [czU8s] at h5
  have h5 : DataW.trod enc Tryz.prog w base sp held k 34 [c5] = some y5 := h5
  obtain ⟨y6, g6⟩ := g 6 (by omega)
  have h6 : DataW.trod enc Tryz.prog w base sp held k 34 (List.take (Tryz.prog.cellsOf 34) (List.drop 6 [c0, c1, c2, c3, c4, c5, c6, c7, c8, c9])) = some y6 := (hx 6 _ rfl).trans g6
  rw [czU8s] at h6
  have h6 : DataW.trod enc Tryz.prog w base sp held k 34 [c6] = some y6 := h6
  obtain ⟨y7, g7⟩ := g 7 (by omega)
  have h7 : DataW.trod enc Tryz.prog w base sp held k 5 (List.take (Tryz.prog.cellsOf 5) (List.drop 7 [c0, c1, c2, c3, c4, c5, c6, c7, c8, c9])) = some y7 := (hx 7 _ rfl).trans g7
  rw [czU8] at h7
  have h7 : DataW.trod enc Tryz.prog w base sp held k 5 [c7] = some y7 := h7
  obtain ⟨y8, g8⟩ := g 8 (by omega)
  have h8 : DataW.trod enc Tryz.prog w base sp held k 5 (List.take (Tryz.prog.cellsOf 5) (List.drop 8 [c0, c1, c2, c3, c4, c5, c6, c7, c8, c9])) = some y8 := (hx 8 _ rfl).trans g8
  rw [czU8] at h8
  have h8 : DataW.trod enc Tryz.prog w base sp held k 5 [c8] = some y8 := h8
  obtain ⟨y9, g9⟩ := g 9 (by omega)
  have h9 : DataW.trod enc Tryz.prog w base sp held k 5 (List.take (Tryz.prog.cellsOf 5) (List.drop 9 [c0, c1, c2, c3, c4, c5, c6, c7, c8, c9])) = some y9 := (hx 9 _ rfl).trans g9
  rw [czU8] at h9
  have h9 : DataW.trod enc Tryz.prog w base sp held k 5 [c9] = some y9 := h9
  obtain ⟨z0, e0, -, w0⟩ := DataW.trod_int Tryz.underlying5 h0
  obtain ⟨z1, e1, -, w1⟩ := DataW.trod_int Tryz.underlying5 h1
  obtain ⟨z2, e2, -, w2⟩ := DataW.trod_int Tryz.underlying32 h2
  obtain ⟨z7, e7, -, w7⟩ := DataW.trod_int Tryz.underlying5 h7
  obtain ⟨z8, e8, -, w8⟩ := DataW.trod_int Tryz.underlying5 h8
  obtain ⟨z9, e9, -, w9⟩ := DataW.trod_int Tryz.underlying5 h9
  obtain ⟨s3, l3, e3, r3, p3⟩ := read_pairs rfl Tryz.underlying33 flPair8 h3
  obtain ⟨s4, l4, e4, r4⟩ := read_kinds Tryz.underlying34 flU8 h4
  obtain ⟨s5, l5, e5, r5⟩ := read_kinds Tryz.underlying34 flU8 h5
  obtain ⟨s6, l6, e6, r6⟩ := read_kinds Tryz.underlying34 flU8 h6
  simp only [List.cons.injEq, and_true] at e0 e1 e2 e3 e4 e5 e6 e7 e8 e9
  exact ⟨⟨z0, z1, z2, l3, l4, l5, l6, z7, z8, z9⟩, ⟨s3, s4, s5, s6⟩, by rw [e0, e1, e2, e3, e4, e5, e6, e7, e8, e9], ⟨⟨u8_in w0, u8_in w1, u16_in w2, p3, fun i hi => u8_in (r4.2 i hi), fun i hi => u8_in (r5.2 i hi), fun i hi => u8_in (r6.2 i hi), u8_in w7, u8_in w8, u8_in w9⟩, r3, r4, r5, r6⟩⟩
theorem arg_lost (hv : Value.okWide Tryz.prog w r b0 36 v) (h : DataW.Trod enc Tryz.prog w base sp held 36 v d p) : ∃ (X : Lost) (q : LSl), v = .agg #[.int .u8 X.gauge, .int .u8 X.roll, .int .u16 X.first, .slice q.p.a X.pieces.length q.p.cap, .slice q.l.a X.leaders.length q.l.cap, .slice q.x.a X.wide.length q.x.cap, .slice q.n.a X.noted.length q.n.cap, .int .u8 X.end_, .int .u8 X.least, .int .u8 X.most] ∧ LostAt w X q := by
  obtain ⟨cs, rfl⟩ := agg_of Tryz.underlying36 hv
  obtain ⟨f, hf⟩ := h
  obtain ⟨X, q, hc, hX⟩ := read_lost hf
  exact ⟨X, q, by rw [show cs = cs.toList.toArray by simp, show cs.toList = _ from hc], hX⟩
end
end Go.Proofs.YtapeakbngligaaaGreatDoor
