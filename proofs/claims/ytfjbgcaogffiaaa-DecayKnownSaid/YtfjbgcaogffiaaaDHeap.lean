/-
  Blocks that are known whole.
-/
import Derived.Test.YtfjbgcaogffiaaaDRegA
import Derived.Test.YtfjbgcaogffiaaaDBase
namespace Go.Proofs.Ytfjbgcaogffiaaa
open Go.RowKit D
set_option linter.unusedVariables false
theorem calls_name {P : Program} {f : FuncId} {args : Array Value} {w : World} {R : Ending → World → Prop} (h : ∀ w0, w0 = w → Calls P f args w0 R) : Calls P f args w R := h w rfl
theorem cell_blk {W : World} {b : Nat} {c : Array Value} {t : TypeId} {f : Nat × Nat} (h : W.heap[b]? = some (.cells c t f)) (o : Nat) : W.cell? ⟨b, o, none⟩ = c[o]? := by simp [World.cell?, h]
theorem frz_blk {W : World} {b : Nat} {c : Array Value} {t : TypeId} (h : W.heap[b]? = some (.cells c t (0, 0))) (o : Nat) : W.frozen? ⟨b, o, none⟩ = false := by simp [World.frozen?, h]
theorem blk_lt {W : World} {b : Nat} {x : Obj} (h : W.heap[b]? = some x) : b < W.heap.size := (Array.getElem?_eq_some_iff.1 h).1
theorem blk_set {W : World} {b : Nat} {c : Array Value} {t : TypeId} {f : Nat × Nat} (h : W.heap[b]? = some (.cells c t f)) (o : Nat) (v : Value) : (W.setCell ⟨b, o, none⟩ v).heap[b]? = some (.cells (c.setIfInBounds o v) t f) := by
  simp [World.setCell, Array.getElem?_modify, h]
theorem blk_set_ne {W : World} {b b' o : Nat} {v : Value} {x : Obj} (h : W.heap[b]? = some x) (hne : b' ≠ b) : (W.setCell ⟨b', o, none⟩ v).heap[b]? = some x := by
  simp [World.setCell, Array.getElem?_modify, h, hne]
theorem blk_alloc {W : World} {b : Nat} {x : Obj} (h : W.heap[b]? = some x) (o : Obj) : (W.alloc o).heap[b]? = some x := (Below.heap_alloc W o b (blk_lt h)).trans h
theorem blk_new (W : World) (o : Obj) : (W.alloc o).heap[W.heap.size]? = some o := World.alloc_heap_new W o
theorem blk_new' (W : World) (o : Obj) {b : Nat} (h : b = W.heap.size) : (W.alloc o).heap[b]? = some o := by rw [h]; exact blk_new W o
theorem blk_drew {W : World} {b : Nat} {x : Obj} (h : W.heap[b]? = some x) : W.drew.heap[b]? = some x := h
theorem blk_drewN {W : World} {b : Nat} {x : Obj} (h : W.heap[b]? = some x) (n : Nat) : (W.drewN n).heap[b]? = some x := h
theorem Ext2.blk {w W : World} (hg : Ext2 w W) {b : Nat} {x : Obj} (h : w.heap[b]? = some x) : W.heap[b]? = some x := (hg.block _ (blk_lt h)).trans h
theorem below_blk {B : Nat} {w W : World} (hb : Below B w W) {b : Nat} {x : Obj} (h : w.heap[b]? = some x) (hlt : b < B) : W.heap[b]? = some x := (hb.block _ hlt).trans h
theorem below_set {B b o : Nat} {w W : World} {v : Value} (h : Below B w W) (hb : B ≤ b) : Below B w (W.setCell ⟨b, o, none⟩ v) := h.setCell hb v
/-- The cells of a row that lies in block b from off on. -/
def RowC (w : World) (b off sz n : Nat) (c : Nat → Nat → Value) : Prop := b < w.heap.size ∧ ∀ i j, i < n → j < sz → w.cell? ⟨b, off + i * sz + j, none⟩ = some (c i j)
theorem RowS.row {w : World} {s : Sl} {sz n : Nat} {c : Nat → Nat → Value} (h : RowS w s sz n c) (hn : 0 < n) (hz : 0 < sz) : ∃ b off, s.a = some ⟨b, off, none⟩ ∧ RowC w b off sz n c := by
  obtain ⟨b, off, ha, hc⟩ := h.cell 0 0 hn hz
  refine ⟨b, off, ha, cell_lt hc, fun i j hi hj => ?_⟩
  obtain ⟨b', off', ha', hc'⟩ := h.cell i j hi hj
  rw [ha] at ha'
  obtain ⟨rfl, rfl⟩ : b = b' ∧ off = off' := by simpa using ha'
  exact hc'
theorem RowC.below {w w' : World} {b off sz n : Nat} {c : Nat → Nat → Value} (h : RowC w b off sz n c) (hb : Below w.heap.size w w') : RowC w' b off sz n c :=
  ⟨Nat.lt_of_lt_of_le h.1 hb.size, fun i j hi hj => (hb.cell (p := ⟨b, _, none⟩) h.1).trans (h.2 i j hi hj)⟩
theorem RowC.sl {w : World} {b off cap sz n : Nat} {c : Nat → Nat → Value} (h : RowC w b off sz n c) (h1 : n ≤ cap) (h2 : cap ≤ 9223372036854775807) : RowS w ⟨some ⟨b, off, none⟩, cap⟩ sz n c :=
  ⟨h1, h2, fun i j hi hj => ⟨b, off, rfl, h.2 i j hi hj⟩⟩
theorem RowC.one {w : World} {b off n : Nat} {c : Nat → Nat → Value} (h : RowC w b off 1 n c) {i : Nat} (hi : i < n) : w.cell? ⟨b, off + i, none⟩ = some (c i 0) := by
  have := h.2 i 0 hi (by omega); rwa [Nat.mul_one, Nat.add_zero] at this
theorem RowC.two {w : World} {b off n : Nat} {c : Nat → Nat → Value} (h : RowC w b off 2 n c) {i : Nat} (hi : i < n) : w.cell? ⟨b, off + i * 2, none⟩ = some (c i 0) ∧ w.cell? ⟨b, off + i * 2 + 1, none⟩ = some (c i 1) :=
  ⟨h.2 i 0 hi (by omega), h.2 i 1 hi (by omega)⟩
theorem RowC.three {w : World} {b off n : Nat} {c : Nat → Nat → Value} (h : RowC w b off 3 n c) {i : Nat} (hi : i < n) : w.cell? ⟨b, off + i * 3, none⟩ = some (c i 0) ∧ w.cell? ⟨b, off + i * 3 + 1, none⟩ = some (c i 1) ∧ w.cell? ⟨b, off + i * 3 + 2, none⟩ = some (c i 2) :=
  ⟨h.2 i 0 hi (by omega), h.2 i 1 hi (by omega), h.2 i 2 hi (by omega)⟩
theorem RowC.four {w : World} {b off n : Nat} {c : Nat → Nat → Value} (h : RowC w b off 4 n c) {i : Nat} (hi : i < n) : w.cell? ⟨b, off + i * 4, none⟩ = some (c i 0) ∧ w.cell? ⟨b, off + i * 4 + 1, none⟩ = some (c i 1) ∧ w.cell? ⟨b, off + i * 4 + 2, none⟩ = some (c i 2) ∧ w.cell? ⟨b, off + i * 4 + 3, none⟩ = some (c i 3) :=
  ⟨h.2 i 0 hi (by omega), h.2 i 1 hi (by omega), h.2 i 2 hi (by omega), h.2 i 3 hi (by omega)⟩
end Go.Proofs.Ytfjbgcaogffiaaa
