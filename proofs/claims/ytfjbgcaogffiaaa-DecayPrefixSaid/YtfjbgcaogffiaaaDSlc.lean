/-
  Parts of slices: t.Days[m:], t.Days[:k]; a class of worlds with two blocks.
-/
import Derived.Test.YtfjbgcaogffiaaaDWlk2
namespace Go.Proofs.Ytfjbgcaogffiaaa
open Go.RowKit D
set_option linter.unusedVariables false
theorem then_name {N : Act → World → Prop} {Q : Exit → Act → World → Prop} {e : Exit} {a : Act} {w : World} (h : ∀ w0, w0 = w → Exit.then N Q e a w0) : Exit.then N Q e a w := h w rfl
def dropA (a : Option Addr) (cap m sz : Nat) : Option Addr := if cap = m then a else a.map (·.add (m * sz))
def takeA (a : Option Addr) (cap sz : Nat) : Option Addr := if cap = 0 then a else a.map (·.add (0 * sz))
theorem addr_addA (b o k : Nat) : (⟨b, o, none⟩ : Addr).add k = ⟨b, o + k, none⟩ := by
  unfold Addr.add; split
  · rename_i h; rw [h]; rfl
  · rfl
theorem row_drop {w : World} {s : Sl} {sz n m : Nat} {c : Nat → Nat → Value} (h : RowS w s sz n c) (hm : m ≤ n) : RowS w ⟨dropA s.a s.cap m sz, s.cap - m⟩ sz (n - m) (fun i j => c (m + i) j) := by
  have h1 := h.le; have h2 := h.max
  refine ⟨by simp only; omega, by simp only; omega, fun i j hi hj => ?_⟩
  obtain ⟨b, off, ha, hc⟩ := h.cell (m + i) j (by omega) hj
  refine ⟨b, off + m * sz, ?_, ?_⟩
  · unfold dropA
    rw [if_neg (by omega), ha, Option.map_some, addr_addA]
  · rw [← hc]
    congr 2
    rw [Nat.add_mul]; omega
theorem row_take {w : World} {s : Sl} {sz n m : Nat} {c : Nat → Nat → Value} (h : RowS w s sz n c) (hm : m ≤ n) : RowS w ⟨takeA s.a s.cap sz, s.cap⟩ sz m c := by
  have h1 := h.le; have h2 := h.max
  refine ⟨by simp only; omega, h2, fun i j hi hj => ?_⟩
  obtain ⟨b, off, ha, hc⟩ := h.cell i j (by omega) hj
  refine ⟨b, off, ?_, hc⟩
  unfold takeA
  rw [if_neg (by omega), ha, Option.map_some, addr_addA, Nat.zero_mul, Nat.add_zero]
theorem run_days_from (a : Option Addr) (len cap m : Nat) (hm : m ≤ len) (w : World) : (Instr.slice 26 (.slice a len cap) (some (.int .i64 (m : Int))) none none).run Try.prog w = .ok (.slice (dropA a cap m 4) (len - m) (cap - m)) w := by
  rw [run_slice_l w 26 a len cap (by kernel_rfl) .i64 (m : Int) (by omega) (by omega)]
  have h : (sizeOf (Try.prog.elem 26)).run Try.prog w = .ok 4 w := by kernel_rfl
  rw [h]; rfl
theorem run_days_to (a : Option Addr) (len cap m : Nat) (hm : m ≤ cap) (w : World) : (Instr.slice 26 (.slice a len cap) none (some (.int .i64 (m : Int))) none).run Try.prog w = .ok (.slice (takeA a cap 4) m cap) w := by
  rw [run_slice_h w 26 a len cap (by kernel_rfl) .i64 (m : Int) (by omega) (by omega)]
  have h : (sizeOf (Try.prog.elem 26)).run Try.prog w = .ok 4 w := by kernel_rfl
  rw [h]; rfl
theorem turn_three {b : Nat} {W : World} {x y z : Value} {t : TypeId} (hb : W.heap[b]? = some (.cells #[x, y, z] t (0, 0))) (u v r : Value) : Turn b (.cells #[u, v, r] t (0, 0)) W (((W.setCell ⟨b, 0, none⟩ u).setCell ⟨b, 1, none⟩ v).setCell ⟨b, 2, none⟩ r) := by
  have h := ((turn_set (o := 0) hb u).set (o := 1) v).set (o := 2) r
  simpa using h
theorem dayC_eq {l l' : List Day} {i i' : Nat} (h : dayD l i = dayD l' i') (j : Nat) : dayC l i j = dayC l' i' j := by
  match j with
  | 0 | 1 | 2 | _ + 3 => simp only [dayC, h]
theorem days_drop {w : World} {s : Sl} {l : List Day} {m : Nat} (h : DaysS w s l) (hm : m ≤ l.length) : DaysS w ⟨dropA s.a s.cap m 4, s.cap - m⟩ (l.drop m) := by
  have h1 := row_drop h hm
  unfold DaysS
  rw [List.length_drop]
  exact rowS_congr h1 fun i j hi _ => dayC_eq (dayD_drop l m i).symm j
theorem days_take {w : World} {s : Sl} {l : List Day} {k : Nat} (h : DaysS w s l) (hk : k ≤ l.length) : DaysS w ⟨takeA s.a s.cap 4, s.cap⟩ (l.take k) := by
  have h1 := row_take h hk
  have e : (l.take k).length = k := by rw [List.length_take]; omega
  unfold DaysS
  rw [e]
  exact rowS_congr h1 fun i j hi _ => dayC_eq (dayD_take l hi).symm j
/-- A class of worlds with two blocks. -/
def At2 (b : Nat) (c : Array Value) (t : TypeId) (b' : Nat) (c' : Array Value) (t' : TypeId) (W : World) : Prop := W.heap[b]? = some (.cells c t (0, 0)) ∧ W.heap[b']? = some (.cells c' t' (0, 0))
theorem at2_cell {b b' : Nat} {c c' : Array Value} {t t' : TypeId} (x : Cls (At2 b c t b' c' t')) (o : Nat) : x.1.cell? ⟨b, o, none⟩ = c[o]? := by
  have h := x.2.1
  simp [World.cell?, h]
theorem at2_cell' {b b' : Nat} {c c' : Array Value} {t t' : TypeId} (x : Cls (At2 b c t b' c' t')) (o : Nat) : x.1.cell? ⟨b', o, none⟩ = c'[o]? := by
  have h := x.2.2
  simp [World.cell?, h]
theorem At2.ext {b b' : Nat} {c c' : Array Value} {t t' : TypeId} {w : World} (h : w.heap[b]? = some (.cells c t (0, 0))) (h' : w.heap[b']? = some (.cells c' t' (0, 0))) : ∀ W, Ext2 w W → At2 b c t b' c' t' W := fun W hW => ⟨Ext2.blk hW h, Ext2.blk hW h'⟩
end Go.Proofs.Ytfjbgcaogffiaaa
