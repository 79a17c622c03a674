/-
  Blocks that are known whole.
  Slices that the call makes itself by append: their cells as a function of the index.
  A range over a function: the iterator by what it does between two rounds, the loop by what stands before and behind each round.
  A range over a function, once more: what iterator and body leave of each other's memory is told by the types of the blocks.
-/
import Derived.Test.YtapeakbngligaaaGreatDoorDReg
import Derived.Test.YtapeakbngligaaaGreatDoorBBase
import Derived.Laws.AppendOwn
import Derived.Laws.OwnMore
import Derived.OwnWalk
import Derived.RangeFuncNested
import Derived.RangeFuncLeaves
import Derived.OwnWalkIn
import Derived.TacticsInMore
import Derived.LoopNIn
import Derived.LoopIn
namespace Go.Proofs.YtapeakbngligaaaGreatDoor
open Go.RowKit D
set_option linter.unusedVariables false
theorem calls_name {P : Program} {f : FuncId} {args : Array Value} {w : World} {R : Ending → World → Prop} (h : ∀ w0, w0 = w → Calls P f args w0 R) : Calls P f args w R := h w rfl
theorem cell_blk {W : World} {b : Nat} {c : Array Value} {t : TypeId} {f : Nat × Nat} (h : W.heap[b]? = some (.cells c t f)) (o : Nat) : W.cell? ⟨b, o, none⟩ = c[o]? := by simp [World.cell?, h]
theorem frz_blk {W : World} {b : Nat} {c : Array Value} {t : TypeId} (h : W.heap[b]? = some (.cells c t (0, 0))) (o : Nat) : W.frozen? ⟨b, o, none⟩ = false := by simp [World.frozen?, h]
theorem blk_lt {W : World} {b : Nat} {x : Obj} (h : W.heap[b]? = some x) : b < W.heap.size := (Array.getElem?_eq_some_iff.1 h).1
theorem blk_set {W : World} {b : Nat} {c : Array Value} {t : TypeId} {f : Nat × Nat} (h : W.heap[b]? = some (.cells c t f)) (o : Nat) (v : Value) : (W.setCell ⟨b, o, none⟩ v).heap[b]? = some (.cells (c.setIfInBounds o v) t f) := by
  simp [World.setCell, Array.getElem?_modify, h]
theorem blk_set_ne {W : World} {b b' o : Nat} {v : Value} {x : Obj} (h : W.heap[b]? = some x) (hne : b' ≠ b) : (W.setCell ⟨b', o, none⟩ v).heap[b]? = some x := by
  simp [World.setCell, Array.getElem?_modify, h, hne]
theorem blk_alloc {W : World} {b : Nat} {x : Obj} (h : W.heap[b]? = some x) (o : Obj) : (W.alloc o).heap[b]? = some x := (Below.heap_alloc W o b (blk_lt h)).trans h
theorem blk_new (W : World) (o : Obj) : (W.alloc o).heap[W.heap.size]? = some o := World.alloc_heap_new W o
theorem blk_new' (W : World) (o : Obj) {b : Nat} (h : b = W.heap.size) : (W.alloc o).heap[b]? = some o := by rw [h]; exact blk_new W o
theorem Ext2.blk {w W : World} (hg : Ext2 w W) {b : Nat} {x : Obj} (h : w.heap[b]? = some x) : W.heap[b]? = some x := (hg.block _ (blk_lt h)).trans h
theorem below_blk {B : Nat} {w W : World} (hb : Below B w W) {b : Nat} {x : Obj} (h : w.heap[b]? = some x) (hlt : b < B) : W.heap[b]? = some x := (hb.block _ hlt).trans h
theorem below_set {B b o : Nat} {w W : World} {v : Value} (h : Below B w W) (hb : B ≤ b) : Below B w (W.setCell ⟨b, o, none⟩ v) := h.setCell hb v
/-- The cells of a row that lies in block b from off on. -/
def RowC (w : World) (b off sz n : Nat) (c : Nat → Nat → Value) : Prop := b < w.heap.size ∧ ∀ i j, i < n → j < sz → w.cell? ⟨b, off + i * sz + j, none⟩ = some (c i j)
theorem RowS.row {w : World} {s : Sl} {sz n : Nat} {c : Nat → Nat → Value} (h : RowS w s sz n c) (hn : 0 < n) (hz : 0 < sz) : ∃ b off, s.a = some ⟨b, off, none⟩ ∧ RowC w b off sz n c := by
  obtain ⟨b, off, ha, hc⟩ := h.cell 0 0 hn hz
  refine ⟨b, off, ha, cell_lt hc, fun i j hi hj => ?_⟩
  obtain ⟨b', off', ha', hc'⟩ := h.cell i j hi hj
  rw [ha] at ha'
  obtain ⟨rfl, rfl⟩ : b = b' ∧ off = off' := by simpa using ha'
  exact hc'
theorem RowC.below {w w' : World} {b off sz n : Nat} {c : Nat → Nat → Value} (h : RowC w b off sz n c) (hb : Below w.heap.size w w') : RowC w' b off sz n c :=
  ⟨Nat.lt_of_lt_of_le h.1 hb.size, fun i j hi hj => (hb.cell (p := ⟨b, _, none⟩) h.1).trans (h.2 i j hi hj)⟩
theorem RowC.sl {w : World} {b off cap sz n : Nat} {c : Nat → Nat → Value} (h : RowC w b off sz n c) (h1 : n ≤ cap) (h2 : cap ≤ 9223372036854775807) : RowS w ⟨some ⟨b, off, none⟩, cap⟩ sz n c :=
  ⟨h1, h2, fun i j hi hj => ⟨b, off, rfl, h.2 i j hi hj⟩⟩
theorem RowC.one {w : World} {b off n : Nat} {c : Nat → Nat → Value} (h : RowC w b off 1 n c) {i : Nat} (hi : i < n) : w.cell? ⟨b, off + i, none⟩ = some (c i 0) := by
  have := h.2 i 0 hi (by omega); rwa [Nat.mul_one, Nat.add_zero] at this
theorem RowC.two {w : World} {b off n : Nat} {c : Nat → Nat → Value} (h : RowC w b off 2 n c) {i : Nat} (hi : i < n) : w.cell? ⟨b, off + i * 2, none⟩ = some (c i 0) ∧ w.cell? ⟨b, off + i * 2 + 1, none⟩ = some (c i 1) :=
  ⟨h.2 i 0 hi (by omega), h.2 i 1 hi (by omega)⟩
theorem RowC.three {w : World} {b off n : Nat} {c : Nat → Nat → Value} (h : RowC w b off 3 n c) {i : Nat} (hi : i < n) : w.cell? ⟨b, off + i * 3, none⟩ = some (c i 0) ∧ w.cell? ⟨b, off + i * 3 + 1, none⟩ = some (c i 1) ∧ w.cell? ⟨b, off + i * 3 + 2, none⟩ = some (c i 2) :=
  ⟨h.2 i 0 hi (by omega), h.2 i 1 hi (by omega), h.2 i 2 hi (by omega)⟩
theorem RowC.four {w : World} {b off n : Nat} {c : Nat → Nat → Value} (h : RowC w b off 4 n c) {i : Nat} (hi : i < n) : w.cell? ⟨b, off + i * 4, none⟩ = some (c i 0) ∧ w.cell? ⟨b, off + i * 4 + 1, none⟩ = some (c i 1) ∧ w.cell? ⟨b, off + i * 4 + 2, none⟩ = some (c i 2) ∧ w.cell? ⟨b, off + i * 4 + 3, none⟩ = some (c i 3) :=
  ⟨h.2 i 0 hi (by omega), h.2 i 1 hi (by omega), h.2 i 2 hi (by omega), h.2 i 3 hi (by omega)⟩
end Go.Proofs.YtapeakbngligaaaGreatDoor
namespace Go.Proofs.YtapeakbngligaaaGreatDoor
open Go.RowKit D
set_option linter.unusedVariables false
def cellsOf (sz n : Nat) (c : Nat → Nat → Value) : List Value := (List.range n).flatMap fun i => (List.range sz).map (c i)
theorem cellsOf_succ (sz n : Nat) (c : Nat → Nat → Value) : cellsOf sz (n + 1) c = cellsOf sz n c ++ (List.range sz).map (c n) := by simp [cellsOf, List.range_succ, List.flatMap_append]
theorem cellsOf_len (sz : Nat) (c : Nat → Nat → Value) : ∀ n, (cellsOf sz n c).length = n * sz
  | 0 => by simp [cellsOf]
  | n + 1 => by rw [cellsOf_succ, List.length_append, cellsOf_len sz c n, List.length_map, List.length_range, Nat.succ_mul]
theorem cellsOf_congr {sz : Nat} {c c' : Nat → Nat → Value} : ∀ {n : Nat}, (∀ i j, i < n → j < sz → c i j = c' i j) → cellsOf sz n c = cellsOf sz n c'
  | 0, _ => rfl
  | n + 1, h => by
    rw [cellsOf_succ, cellsOf_succ, cellsOf_congr (fun i j hi hj => h i j (by omega) hj)]
    congr 1
    exact List.map_congr_left fun j hj => h n j (by omega) (List.mem_range.1 hj)
theorem cellsOf_at {sz : Nat} {c : Nat → Nat → Value} : ∀ {n i j : Nat}, i < n → j < sz → (cellsOf sz n c)[i * sz + j]? = some (c i j)
  | n + 1, i, j, hi, hj => by
    rw [cellsOf_succ]
    rcases Nat.lt_or_ge i n with h | h
    · rw [List.getElem?_append_left, cellsOf_at h hj]
      rw [cellsOf_len]
      calc i * sz + j < i * sz + sz := by omega
        _ = (i + 1) * sz := by rw [Nat.succ_mul]
        _ ≤ n * sz := Nat.mul_le_mul_right _ h
    · obtain rfl : i = n := by omega
      rw [List.getElem?_append_right (by rw [cellsOf_len]; omega), cellsOf_len, show i * sz + j - i * sz = j by omega]
      simp [hj]
def OwnR (w : World) (base : Nat) (e : TypeId) (sz : Nat) (v : Value) (n : Nat) (c : Nat → Nat → Value) : Prop := w.ownsRow base e sz v n (cellsOf sz n c)
theorem own_nil (w : World) (base : Nat) (e : TypeId) (sz : Nat) (c : Nat → Nat → Value) : OwnR w base e sz (.slice none 0 0) 0 c := World.ownsRow_nil w base e sz
theorem OwnR.congr {w : World} {base : Nat} {e : TypeId} {sz : Nat} {v : Value} {n : Nat} {c c' : Nat → Nat → Value} (h : OwnR w base e sz v n c) (hc : ∀ i j, i < n → j < sz → c i j = c' i j) : OwnR w base e sz v n c' := by
  unfold OwnR at *; rw [← cellsOf_congr hc]; exact h
/-- One element more. -/
def upd (c : Nat → Nat → Value) (n : Nat) (us : List Value) : Nat → Nat → Value := fun i j => if i = n then us.getD j undef else c i j
theorem upd_lt {c : Nat → Nat → Value} {n i : Nat} {us : List Value} (h : i < n) (j : Nat) : upd c n us i j = c i j := if_neg (by omega)
theorem upd_at {c : Nat → Nat → Value} {n : Nat} {us : List Value} (j : Nat) : upd c n us n j = us.getD j undef := if_pos rfl
theorem cells_upd {c : Nat → Nat → Value} {n : Nat} {us : List Value} : cellsOf us.length n c ++ us = cellsOf us.length (n + 1) (upd c n us) := by
  rw [cellsOf_succ, cellsOf_congr (c := upd c n us) (c' := c) (fun i j hi _ => upd_lt hi j)]
  congr 1
  apply List.ext_getElem
  · simp
  · intro i h1 h2
    simp [upd, h1]
theorem OwnR.forms {w : World} {base : Nat} {e : TypeId} {sz : Nat} {v : Value} {n : Nat} {c : Nat → Nat → Value} (h : OwnR w base e sz v n c) :
    (v = .slice none 0 0 ∧ n = 0) ∨ ∃ g cap, v = .slice (some ⟨g, 0, none⟩) n cap ∧ base ≤ g ∧ n ≤ cap ∧ cap ≤ 9223372036854775807 ∧ RowC w g 0 sz n c ∧ (∀ o, w.frozen? ⟨g, o, none⟩ = false) ∧ ∃ cur, w.heap[g]? = some (.cells cur e (0, 0)) := by
  have h0 := h
  rcases h with ⟨hl, ⟨rfl, rfl⟩ | ⟨g, cap, cur, rfl, hb, hg, hn, hc, hs, ht⟩⟩
  · exact .inl ⟨rfl, rfl⟩
  · refine .inr ⟨g, cap, rfl, hb, hn, hc, ⟨blk_lt hg, fun i j hi hj => ?_⟩, fun o => frz_blk hg o, cur, hg⟩
    have hlt : i * sz + j < n * sz := by
      calc i * sz + j < i * sz + sz := by omega
        _ = (i + 1) * sz := by rw [Nat.succ_mul]
        _ ≤ n * sz := Nat.mul_le_mul_right _ hi
    rw [Nat.zero_add, World.ownsRow.cellAt h0 _ hlt, cellsOf_at hi hj]
theorem OwnR.sl {w : World} {base : Nat} {e : TypeId} {sz : Nat} {v : Value} {n : Nat} {c : Nat → Nat → Value} (h : OwnR w base e sz v n c) : ∃ s : Sl, v = .slice s.a n s.cap ∧ RowS w s sz n c := by
  rcases h.forms with ⟨rfl, rfl⟩ | ⟨g, cap, rfl, _, h1, h2, hr, _, _⟩
  · exact ⟨⟨none, 0⟩, rfl, by simp, by simp, fun i j hi _ => by omega⟩
  · exact ⟨⟨some ⟨g, 0, none⟩, cap⟩, rfl, hr.sl h1 h2⟩
theorem OwnR.kept {w w' : World} {base : Nat} {e : TypeId} {sz : Nat} {v : Value} {n : Nat} {c : Nat → Nat → Value} {row : Option Nat} (h : OwnR w base e sz v n c) (hg : w.grownBy w' row) (hne : v.ownBlock = none ∨ v.ownBlock ≠ row) : OwnR w' base e sz v n c := World.ownsRow.kept h hg hne
theorem grownBy_of_below {w w' : World} (h : Below w.heap.size w w') : w.grownBy w' none := ⟨h.os, h.tape, h.output, h.size, fun k hk _ => h.block k hk⟩
theorem OwnR.below {w w' : World} {base : Nat} {e : TypeId} {sz : Nat} {v : Value} {n : Nat} {c : Nat → Nat → Value} (h : OwnR w base e sz v n c) (hb : Below w.heap.size w w') : OwnR w' base e sz v n c := by
  refine h.kept (grownBy_of_below hb) ?_
  cases v.ownBlock <;> simp
theorem OwnR.base {w : World} {base base' : Nat} {e : TypeId} {sz : Nat} {v : Value} {n : Nat} {c : Nat → Nat → Value} (h : OwnR w base e sz v n c) (hb : base' ≤ base) : OwnR w base' e sz v n c := by
  obtain ⟨h1, h2 | ⟨g, cap, cur, e1, e2, e3⟩⟩ := h
  · exact ⟨h1, .inl h2⟩
  · exact ⟨h1, .inr ⟨g, cap, cur, e1, by omega, e3⟩⟩
theorem OwnR.set {w : World} {base g cap : Nat} {e : TypeId} {sz n i j : Nat} {c : Nat → Nat → Value} (h : OwnR w base e sz (.slice (some ⟨g, 0, none⟩) n cap) n c) (hi : i < n) (hj : j < sz) (u : Value) :
    OwnR (w.setCell ⟨g, i * sz + j, none⟩ u) base e sz (.slice (some ⟨g, 0, none⟩) n cap) n (fun i' j' => if i' = i ∧ j' = j then u else c i' j') := by
  have h1 := (World.ownsRow.stored h (i * sz + j) u).1
  have h2 : (cellsOf sz n c).set (i * sz + j) u = cellsOf sz n (fun i' j' => if i' = i ∧ j' = j then u else c i' j') := by
    apply List.ext_getElem
    · simp [cellsOf_len]
    · intro k k1 k2
      have hk : k < n * sz := by rw [cellsOf_len] at k2; exact k2
      have hsz : 0 < sz := by omega
      have e1 : k = (k / sz) * sz + k % sz := by rw [Nat.mul_comm]; exact (Nat.div_add_mod k sz).symm
      have e2 : k / sz < n := Nat.div_lt_of_lt_mul (by rw [Nat.mul_comm]; exact hk)
      have e3 : k % sz < sz := Nat.mod_lt _ hsz
      have a1 := cellsOf_at (c := c) e2 e3
      have a2 := cellsOf_at (c := fun i' j' => if i' = i ∧ j' = j then u else c i' j') e2 e3
      rw [← e1] at a1 a2
      rw [List.getElem_set]
      have b2 : (cellsOf sz n fun i' j' => if i' = i ∧ j' = j then u else c i' j')[k] = if k / sz = i ∧ k % sz = j then u else c (k / sz) (k % sz) := by
        have := List.getElem?_eq_getElem k2; rw [a2] at this; exact (Option.some.inj this).symm
      rw [b2]
      by_cases hk2 : i * sz + j = k
      · have d1 : k / sz = i := by rw [← hk2, Nat.mul_comm, Nat.mul_add_div hsz, Nat.div_eq_of_lt hj]; omega
        have d2 : k % sz = j := by rw [← hk2, Nat.mul_comm, Nat.mul_add_mod, Nat.mod_eq_of_lt hj]
        rw [if_pos hk2, if_pos ⟨d1, d2⟩]
      · rw [if_neg hk2, if_neg (fun h => hk2 (by rw [← h.1, ← h.2]; exact e1.symm))]
        have k3 : k < (cellsOf sz n c).length := by rw [cellsOf_len]; exact hk
        have := List.getElem?_eq_getElem k3; rw [a1] at this; exact (Option.some.inj this).symm
  unfold OwnR; rw [← h2]; exact h1
/-- What lies from base on and was there lies as it lay. -/
def Above (base : Nat) (w W : World) : Prop := w.heap.size ≤ W.heap.size ∧ ∀ g, base ≤ g → g < w.heap.size → W.heap[g]? = w.heap[g]?
theorem Above.refl (base : Nat) (w : World) : Above base w w := ⟨Nat.le_refl _, fun _ _ _ => rfl⟩
theorem Above.ext {base : Nat} {w w1 W : World} (h : Above base w w1) (hg : Ext2 w1 W) : Above base w W := ⟨Nat.le_trans h.1 hg.size, fun g h1 h2 => (Below.block hg g (Nat.lt_of_lt_of_le h2 h.1)).trans (h.2 g h1 h2)⟩
theorem Above.set {base b o : Nat} {w W : World} {v : Value} (h : Above base w W) (hb : b < base ∨ w.heap.size ≤ b) : Above base w (W.setCell ⟨b, o, none⟩ v) :=
  ⟨by rw [World.size_setCell]; exact h.1, fun g h1 h2 => by
    rw [← h.2 g h1 h2]
    have hne : b ≠ g := by omega
    simp [World.setCell, Array.getElem?_modify, hne]⟩
theorem Above.alloc {base : Nat} {w W : World} (h : Above base w W) (o : Obj) : Above base w (W.alloc o) := ⟨by rw [World.size_alloc]; exact Nat.le_succ_of_le h.1, fun g h1 h2 => (Below.heap_alloc W o g (Nat.lt_of_lt_of_le h2 h.1)).trans (h.2 g h1 h2)⟩
theorem OwnR.above {w W : World} {base : Nat} {e : TypeId} {sz : Nat} {v : Value} {n : Nat} {c : Nat → Nat → Value} (h : OwnR w base e sz v n c) (ha : Above base w W) : OwnR W base e sz v n c := by
  obtain ⟨h1, h2 | ⟨g, cap, cur, e1, e2, e3, e4⟩⟩ := h
  · exact ⟨h1, .inl h2⟩
  · exact ⟨h1, .inr ⟨g, cap, cur, e1, e2, (ha.2 g e2 (blk_lt e3)).trans e3, e4⟩⟩
structure Elem (P : Program) (t e : TypeId) (z : Value) (sz bytes : Nat) : Prop where
  und : P.underlying t = some (.slice e)
  info : (P.info? e).map (fun i => (i.zero, i.size, i.bytes)) = some (some z, sz, bytes)
  zs : z.cells.size = sz
  pos : 0 < sz
  by_ : bytes ≤ 1000
theorem own_block {w : World} {base : Nat} {e : TypeId} {sz : Nat} {v : Value} {n : Nat} {c : Nat → Nat → Value} (h : OwnR w base e sz v n c) : ∀ k, v.ownBlock = some k → base ≤ k := fun k hk => (World.ownsRow.lt h k hk).1
end Go.Proofs.YtapeakbngligaaaGreatDoor
namespace Go.Proofs.YtapeakbngligaaaGreatDoor
open Go.RowKit
set_option linter.unusedVariables false
section
variable {P : Program}
theorem calls_of_wp_marks {f : FuncId} {fn : Func} {c : Code} {args : Array Value} {w : World} {R : Ending → World → Prop} (hf : P.funcs[f]? = some fn) (hb : fn.body = some c)
    (h : c.wp P (bodyPostM Fence.wide 0 P fn R) { tmps := args ++ Array.replicate (fn.ntmps - args.size) undef, defers := [] } w) : Calls P f args w R :=
  callsIn_wide.1 (callsIn_of_wp_marks (n := 0) hf hb trivial (wpIn_wide.2 h))
end
/-! What is said of cells abides. -/
theorem ownR_cells {W : World} {base : Nat} {e : TypeId} {sz : Nat} {v : Value} {n : Nat} {c : Nat → Nat → Value} (h : OwnR W base e sz v n c) {k : Nat} (hv : v.ownBlock = some k) : ∃ cur, W.heap[k]? = some (.cells cur e (0, 0)) := by
  rcases h.forms with ⟨rfl, _⟩ | ⟨g, cap, rfl, _, _, _, _, _, cur, hc⟩
  · cases hv
  · cases hv; exact ⟨cur, hc⟩
end Go.Proofs.YtapeakbngligaaaGreatDoor
namespace Go.Proofs.YtapeakbngligaaaGreatDoor
open Go.RowKit
set_option linter.unusedVariables false
set_option linter.unusedSimpArgs false
theorem wp_aname {P : Program} {c : Code} {Q : Exit → Act → World → Prop} {a : Act} {w : World} (h : ∀ a0, a0 = a → c.wp P Q a0 w) : c.wp P Q a w := h a rfl
/-- What the iterator does: below B nothing turns, nor do cells of other types than ts. -/
structure Sd (B : Nat) (ts : List TypeId) (W W' : World) : Prop where
  bel : Below B W W'
  keep : ∀ (g : Nat) (c : Array Value) (e : TypeId) (f : Nat × Nat), W.heap[g]? = some (Obj.cells c e f) → e ∉ ts → W'.heap[g]? = some (Obj.cells c e f)
/-- What the body does: below B nothing turns, and of the rest cells of the types ts alone. -/
structure Bd (B : Nat) (ts : List TypeId) (W W' : World) : Prop where
  bel : Below B W W'
  keep : ∀ (g : Nat) (o : Obj), W.heap[g]? = some o → (∀ (c : Array Value) (e : TypeId) (f : Nat × Nat), o = Obj.cells c e f → e ∉ ts) → W'.heap[g]? = some o
theorem Sd.refl (B : Nat) (ts : List TypeId) (W : World) : Sd B ts W W := ⟨Below.refl _ _, fun _ _ _ _ h _ => h⟩
theorem Sd.trans {B : Nat} {ts : List TypeId} {W W1 W2 : World} (h : Sd B ts W W1) (g : Sd B ts W1 W2) : Sd B ts W W2 := ⟨h.bel.trans g.bel, fun b c e f hb he => g.keep b c e f (h.keep b c e f hb he) he⟩
theorem Sd.mono {B B' : Nat} {ts : List TypeId} {W W1 : World} (h : Sd B ts W W1) (hB : B' ≤ B) : Sd B' ts W W1 := ⟨h.bel.mono hB, h.keep⟩
theorem Sd.types {B : Nat} {ts ts' : List TypeId} {W W1 : World} (h : Sd B ts W W1) (ht : ∀ t ∈ ts, t ∈ ts') : Sd B ts' W W1 := ⟨h.bel, fun b c e f hb he => h.keep b c e f hb fun h' => he (ht _ h')⟩
theorem Sd.ext {B : Nat} {ts : List TypeId} {W W' : World} (h : Ext2 W W') (hB : B ≤ W.heap.size) : Sd B ts W W' := ⟨h.mono hB, fun b c e f hb _ => h.blk hb⟩
theorem Sd.set {B : Nat} {ts : List TypeId} {W : World} {g o : Nat} {c : Array Value} {e : TypeId} {f : Nat × Nat} (h : W.heap[g]? = some (.cells c e f)) (he : e ∈ ts) (hB : B ≤ g) (v : Value) : Sd B ts W (W.setCell ⟨g, o, none⟩ v) :=
  ⟨below_set (Below.refl _ _) hB, fun b c' e' f' hb he' => blk_set_ne hb fun hgb => by
    subst hgb
    rw [h] at hb
    obtain ⟨-, rfl, -⟩ := Obj.cells.inj (Option.some.inj hb)
    exact he' he⟩
theorem Sd.put {B : Nat} {ts : List TypeId} {W : World} {l : Nat} {o o' : Obj} (h : W.heap[l]? = some o) (ho : o.isCells = false) (hB : B ≤ l) : Sd B ts W (W.putObj l o') := by
  have hg := grownBy_putObj' W l o'
  refine ⟨⟨hg.os, hg.tape, hg.output, hg.size, fun k hk => World.putObj_heap_other (by omega)⟩, fun b c e f hb _ => ?_⟩
  refine (World.putObj_heap_other fun hbl => ?_).trans hb
  subst hbl
  rw [h] at hb; cases hb; cases ho
theorem Sd.alloc {B : Nat} {ts : List TypeId} {W : World} (o : Obj) (hB : B ≤ W.heap.size) : Sd B ts W (W.alloc o) := Sd.ext ((Below.refl _ _).alloc (Nat.le_refl _) o) hB
theorem Bd.refl (B : Nat) (ts : List TypeId) (W : World) : Bd B ts W W := ⟨Below.refl _ _, fun _ _ h _ => h⟩
theorem Bd.trans {B : Nat} {ts : List TypeId} {W W1 W2 : World} (h : Bd B ts W W1) (g : Bd B ts W1 W2) : Bd B ts W W2 := ⟨h.bel.trans g.bel, fun b o hb ho => g.keep b o (h.keep b o hb ho) ho⟩
theorem Bd.types {B : Nat} {ts ts' : List TypeId} {W W1 : World} (h : Bd B ts W W1) (ht : ∀ t ∈ ts, t ∈ ts') : Bd B ts' W W1 := ⟨h.bel, fun b o hb ho => h.keep b o hb fun c e f he h' => ho c e f he (ht _ h')⟩
theorem Bd.ext {B : Nat} {ts : List TypeId} {W W' : World} (h : Ext2 W W') (hB : B ≤ W.heap.size) : Bd B ts W W' := ⟨h.mono hB, fun b o hb _ => h.blk hb⟩
theorem Bd.set {B : Nat} {ts : List TypeId} {W : World} {g o : Nat} {c : Array Value} {e : TypeId} {f : Nat × Nat} (h : W.heap[g]? = some (.cells c e f)) (he : e ∈ ts) (hB : B ≤ g) (v : Value) : Bd B ts W (W.setCell ⟨g, o, none⟩ v) :=
  ⟨below_set (Below.refl _ _) hB, fun b o' hb ho => blk_set_ne hb fun hgb => by
    subst hgb
    rw [h] at hb; cases hb
    exact ho _ _ _ rfl he⟩
theorem Bd.others {B : Nat} {ts : List TypeId} {W W' : World} (h : Bd B ts W W') : KeepsOthers W W' := ⟨h.bel.size, fun k o hk ho => h.keep k o hk fun c e f h' => by subst h'; cases ho⟩
theorem Bd.grown {B : Nat} {ts : List TypeId} {W W' : World} {row : Option Nat} (hg : W.grownBy W' row) (hB : B ≤ W.heap.size) (hr : ∀ k, row = some k → B ≤ k ∧ ∃ c e f, W.heap[k]? = some (.cells c e f) ∧ e ∈ ts) : Bd B ts W W' := by
  refine ⟨Below.grown (Below.refl _ _) hg hB fun k hk => (hr k hk).1, fun b o hb ho => ?_⟩
  refine (hg.block b (blk_lt hb) fun he => ?_).trans hb
  obtain ⟨-, c, e, f, hc, he'⟩ := hr b he.symm
  rw [hb] at hc; cases hc
  exact ho _ _ _ rfl he'
section
variable {P : Program}
end
end Go.Proofs.YtapeakbngligaaaGreatDoor
