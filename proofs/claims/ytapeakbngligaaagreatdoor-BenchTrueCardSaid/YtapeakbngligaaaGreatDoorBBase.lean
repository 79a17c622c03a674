/-
  Views of slices in memory: out of the vault chapter's text.
-/
import Derived.Test.YtapeakbngligaaaGreatDoorProg
import Derived.WalkKit
import Derived.WalkLawsBesides
import Derived.WalkSpells
import Derived.BigRegion
import Derived.Deep.QuietTactic
import Derived.BigQuiet
import Derived.Lib.Hide
import Derived.Deep.DeepFit
import Derived.Deep.RegionHeld3
import Derived.Deep.RegionHeld2
import Derived.Deep.DrawnRows
import Derived.Lib.OthersKept
import Derived.Test.YtapeakbngligaaaGreatDoorBNmA
namespace Go.Proofs.YtapeakbngligaaaGreatDoor.D
theorem beq_list (a b : ByteArray) : (a.toList == b.toList) = sameS a b := by
  rw [ByteArray.toList_eq, ByteArray.toList_eq]; rfl
end Go.Proofs.YtapeakbngligaaaGreatDoor.D
namespace Go.Proofs.YtapeakbngligaaaGreatDoor
open Go.RowKit D
set_option linter.unusedVariables false
theorem run_minI {P : Program} {w : World} (ts : Array TypeId) (t : TypeId) (k k' : IntKind) (x y : Int) : (Builtin.min_ ts t #[.int k x, .int k' y]).run P w = .ok (.int k (min x y)) w := by
  rw [run_min_int2]; congr 2; split <;> omega
theorem run_maxI {P : Program} {w : World} (ts : Array TypeId) (t : TypeId) (k k' : IntKind) (x y : Int) : (Builtin.max_ ts t #[.int k x, .int k' y]).run P w = .ok (.int k (max x y)) w := by
  rw [run_max_int2]; congr 2; split <;> omega
theorem ret_bool {a b : Bool} (h : a = b) : Ending.returned (.bool a) = .returned (.bool b) := by rw [h]
theorem ret_int {k : IntKind} {a b : Int} (h : a = b) : Ending.returned (.int k a) = .returned (.int k b) := by rw [h]
/-- A slice's header, its length apart. -/
structure Sl where
  a : Option Addr
  cap : Nat
/-- The cells of a slice of n elements of sz cells each. -/
structure RowS (w : World) (s : Sl) (sz n : Nat) (c : Nat → Nat → Value) : Prop where
  le : n ≤ s.cap
  max : s.cap ≤ 9223372036854775807
  cell : ∀ i j, i < n → j < sz → ∃ b off, s.a = some ⟨b, off, none⟩ ∧ w.cell? ⟨b, off + i * sz + j, none⟩ = some (c i j)
theorem cell_lt {w : World} {a : Addr} {v : Value} (h : w.cell? a = some v) : a.block < w.heap.size := by
  unfold World.cell? at h
  split at h
  · rename_i hb; exact (Array.getElem?_eq_some_iff.1 hb).1
  · cases h
theorem RowS.kept {w w' : World} {s : Sl} {sz n B : Nat} {c : Nat → Nat → Value} (h : RowS w s sz n c) (hs : ∀ b off, s.a = some ⟨b, off, none⟩ → 0 < n → 0 < sz → b < B) (hb : Below B w w') : RowS w' s sz n c :=
  ⟨h.le, h.max, fun i j hi hj => by
    obtain ⟨b, off, ha, hc⟩ := h.cell i j hi hj
    exact ⟨b, off, ha, (hb.cell (p := ⟨b, off + i * sz + j, none⟩) (hs b off ha (by omega) (by omega))).trans hc⟩⟩
theorem RowS.block {w : World} {s : Sl} {sz n : Nat} {c : Nat → Nat → Value} (h : RowS w s sz n c) {b off : Nat} (ha : s.a = some ⟨b, off, none⟩) (hn : 0 < n) (hz : 0 < sz) : b < w.heap.size := by
  obtain ⟨b', off', ha', hc⟩ := h.cell 0 0 hn hz
  rw [ha] at ha'
  obtain ⟨rfl, rfl⟩ : b = b' ∧ off = off' := by simpa using ha'
  exact cell_lt hc
theorem RowS.below {w w' : World} {s : Sl} {sz n : Nat} {c : Nat → Nat → Value} (h : RowS w s sz n c) (hb : Below w.heap.size w w') : RowS w' s sz n c :=
  h.kept (fun b off ha hn hz => h.block ha hn hz) hb
theorem RowS.drewN {w : World} {s : Sl} {sz n : Nat} {c : Nat → Nat → Value} (h : RowS w s sz n c) (q : Nat) : RowS (w.drewN q) s sz n c := ⟨h.le, h.max, h.cell⟩
def intC (l : List Int) (i : Nat) (_ : Nat) : Value := .int .i64 (intD l i)
abbrev IntsS (w : World) (s : Sl) (l : List Int) : Prop := RowS w s 1 l.length (intC l)
theorem below_drewN {B : Nat} {a w : World} (h : Below B a w) (n : Nat) : Below B a (w.drewN n) := ⟨h.os, h.tape, h.output, h.size, h.block⟩
theorem below_alloc (w : World) (o : Obj) : Below w.heap.size w (w.alloc o) := (Below.refl _ _).alloc (Nat.le_refl _) o
theorem bcell {w W w1 : World} (hb : Below W.heap.size W w1) : (∀ b o, b < W.heap.size → w1.cell? ⟨b, o, none⟩ = W.cell? ⟨b, o, none⟩) ∧ (∀ b o, b < W.heap.size → w1.frozen? ⟨b, o, none⟩ = W.frozen? ⟨b, o, none⟩) :=
  ⟨fun b o h => hb.cell (p := ⟨b, o, none⟩) h, fun b o h => hb.frozen (p := ⟨b, o, none⟩) h⟩
theorem below_trans {w w1 w2 : World} (h : Below w.heap.size w w1) (k : Below w1.heap.size w1 w2) : Below w.heap.size w w2 := h.trans (k.mono h.size)
end Go.Proofs.YtapeakbngligaaaGreatDoor
