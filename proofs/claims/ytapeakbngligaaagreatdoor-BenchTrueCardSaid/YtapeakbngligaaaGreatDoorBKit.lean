/-
  Program independent, out of the vault chapter's texts: views of slices, appends, blocks.
-/
import Derived.Test.YtapeakbngligaaaGreatDoorProg
import Derived.WalkKit
import Derived.WalkLawsBesides
import Derived.WalkSpells
import Derived.BigRegion
import Derived.Deep.QuietTactic
import Derived.BigQuiet
import Derived.Lib.Hide
import Derived.Deep.DeepFit
import Derived.Deep.RegionHeld3
import Derived.Deep.RegionHeld2
import Derived.Deep.DrawnRows
import Derived.Lib.OthersKept
import Derived.Test.YtapeakbngligaaaGreatDoorBBase
import Derived.Test.YtapeakbngligaaaGreatDoorDReg
import Derived.Deep.Light
import Derived.Laws.Tables
import Derived.Laws.Rows
import Derived.Test.YtapeakbngligaaaGreatDoorDMem
import Derived.OwnWalk
import Derived.Maps.AppendAt
import Derived.Laws.AppendOwnNone
namespace Go.Proofs.YtapeakbngligaaaGreatDoor
open Go.RowKit D
set_option linter.unusedVariables false
theorem ext_trans {w w1 w2 : World} (h : Ext2 w w1) (g : Ext2 w1 w2) : Ext2 w w2 := h.trans (Below.mono g h.size)
theorem below_ext {w w1 w2 : World} (h : Below w.heap.size w w1) (g : Ext2 w1 w2) : Below w.heap.size w w2 := h.trans (Below.mono g h.size)
theorem wpL_name {P : Program} {ops : Array Oper} {Q : Exit → Act → World → Prop} {l : List Oper} {a : Act} {w : World} (h : ∀ w2, w2 = w → wpList P ops Q l a w2) : wpList P ops Q l a w := h w rfl
theorem below_setRow {B : Nat} {a w : World} (h : Below B a w) {g : Nat} (hg : B ≤ g) (cs : Array Value) : Below B a (w.setRow g cs) :=
  h.trans ⟨rfl, rfl, rfl, by simp [World.setRow], fun i hi => setRow_other w g i cs (by omega)⟩
theorem run_mk {P : Program} {t e : TypeId} {z : Value} {sz bytes : Nat} (E : Elem P t e z sz bytes) (W : World) (n : Nat) (hn : n ≤ 1000000000) :
    (Instr.makeSlice t (.int .i64 (n : Int)) (.int .i64 (n : Int))).run P W = .ok (.slice (some ⟨W.heap.size, 0, none⟩) n n) (W.alloc (.cells (madeCells z.cells (n * sz)) e)) := by
  obtain ⟨i0, hi, hz0, hz1, hz2⟩ := info_parts E.info
  have hb : i0.bytes * n ≤ 281474976710656 := by
    have h1 := E.by_
    rw [hz2]
    calc bytes * n ≤ 1000 * 1000000000 := Nat.mul_le_mul h1 hn
      _ ≤ 281474976710656 := by omega
  have hb' : (i0.bytes : Int) * (n : Int) ≤ 281474976710656 := by
    have h : ((i0.bytes * n : Nat) : Int) ≤ 281474976710656 := by omega
    rwa [Int.natCast_mul] at h
  have hr := run_make (P := P) W t e i0 z E.und hi hz0 .i64 .i64 n n (by omega) (Int.le_refl _) hb' (by omega)
  simp only [Int.toNat_natCast] at hr
  rw [hr, hz1]
theorem wpList_mk {P : Program} {t e : TypeId} {z : Value} {sz bytes : Nat} (E : Elem P t e z sz bytes) {w : World} {ops : Array Oper} {rest : List Oper} {o : Oper} {a : Act} {Q : Exit → Act → World → Prop}
    (hg : o.guard = none) (l : Operand) (hop : o.op = Op.makeSlice t l l) (n : Nat) (hl : a.eval l = .int .i64 (n : Int)) (hn : n ≤ 1000000000)
    (hK : wpList P ops Q rest (a.put o.dst (.slice (some ⟨w.heap.size, 0, none⟩) n n)) (w.alloc (.cells (madeCells z.cells (n * sz)) e))) :
    wpList P ops Q (o :: rest) a w := by
  refine wpList_plain hg fun K hK' => ?_
  have hrun := run_mk E w n hn
  unfold Oper.wp
  simp [execOp, hop, hl, hrun, Result.andThen]
  exact hK' _ _ hK
theorem made_at (z : Array Value) (n k : Nat) (h : k < n) : (madeCells z n).toList[k]? = some (z[k % z.size]!) := by
  simp [madeCells, h]
theorem own_made {w : World} {base e sz n g : Nat} {z : Array Value} (hz : z.size = sz) (h0 : 0 < sz) (hn : n ≤ maxLen) (hb : base ≤ g) (hg : w.heap[g]? = some (.cells (madeCells z (n * sz)) e (0, 0))) :
    OwnR w base e sz (.slice (some ⟨g, 0, none⟩) n n) n (fun _ j => z[j]!) := by
  refine ⟨cellsOf_len _ _ _, .inr ⟨g, n, _, rfl, hb, hg, Nat.le_refl _, hn, size_madeCells _ _, ?_⟩⟩
  rw [List.take_of_length_le (by rw [Array.length_toList, size_madeCells]; exact Nat.le_refl _)]
  apply List.ext_getElem?
  intro k
  by_cases hk : k < n * sz
  · have e1 : k = (k / sz) * sz + k % sz := by rw [Nat.mul_comm]; exact (Nat.div_add_mod k sz).symm
    have e2 : k / sz < n := Nat.div_lt_of_lt_mul (by rw [Nat.mul_comm]; exact hk)
    have a1 := cellsOf_at (c := fun _ j => z[j]!) e2 (Nat.mod_lt k h0)
    rw [← e1] at a1
    rw [made_at _ _ _ hk, a1, hz]
  · rw [List.getElem?_eq_none (by rw [Array.length_toList, size_madeCells]; omega), List.getElem?_eq_none (by rw [cellsOf_len]; omega)]
theorem made_one {z : Value} {m k : Nat} (h : k < m) : (madeCells #[z] m)[k]? = some z := by simp [madeCells, Nat.mod_one, h]
/-- One cell of a slice of one's own that has one cell an element. -/
theorem OwnR.cell1 {w : World} {base g cap : Nat} {e : TypeId} {n i : Nat} {c : Nat → Nat → Value} (h : OwnR w base e 1 (.slice (some ⟨g, 0, none⟩) n cap) n c) (hi : i < n) : w.cell? ⟨g, i, none⟩ = some (c i 0) ∧ w.frozen? ⟨g, i, none⟩ = false ∧ g < w.heap.size ∧ base ≤ g := by
  rcases h.forms with ⟨_, h0⟩ | ⟨g', cp', he, hb, -, -, hr, hfz, -⟩
  · omega
  · obtain ⟨rfl, rfl⟩ : g = g' ∧ cap = cp' := by simpa using he
    have := hr.one hi
    rw [Nat.zero_add] at this
    exact ⟨this, hfz _, hr.1, hb⟩
theorem OwnR.set1 {w : World} {base g cap : Nat} {e : TypeId} {n i : Nat} {c c' : Nat → Nat → Value} (h : OwnR w base e 1 (.slice (some ⟨g, 0, none⟩) n cap) n c) (hi : i < n) (u : Value) (hc : ∀ i', i' < n → c' i' 0 = if i' = i then u else c i' 0) : OwnR (w.setCell ⟨g, i, none⟩ u) base e 1 (.slice (some ⟨g, 0, none⟩) n cap) n c' := by
  have h1 := h.set (j := 0) hi (by omega) u
  rw [Nat.mul_one, Nat.add_zero] at h1
  refine h1.congr fun i' j' hi' hj' => ?_
  obtain rfl : j' = 0 := by omega
  rw [hc i' hi']
  by_cases hii : i' = i
  · simp [hii]
  · simp [hii]
/-- A block of another type stays as it was behind an append. -/
theorem app_blk {w w' : World} {base : Nat} {e : TypeId} {sz : Nat} {v : Value} {n : Nat} {c : Nat → Nat → Value} {o : Obj} (hO : OwnR w base e sz v n c) (hg : (w.alloc o).grownBy w' v.ownBlock) {b : Nat} {cs : Array Value} {t : TypeId} {f : Nat × Nat} (hb : w.heap[b]? = some (.cells cs t f)) (ht : t ≠ e) : w'.heap[b]? = some (.cells cs t f) := by
  have h1 := blk_alloc hb o
  rw [hg.block b (blk_lt h1) ?_]
  · exact h1
  · intro he
    rcases hO.forms with ⟨rfl, -⟩ | ⟨g, cap, rfl, -, -, -, -, -, cur, hcur⟩
    · cases he
    · obtain rfl : b = g := by simpa [Value.ownBlock] using he
      rw [hb] at hcur
      simp only [Option.some.injEq, Obj.cells.injEq] at hcur
      exact ht hcur.2.1
theorem own_app {w w' : World} {base base2 : Nat} {e e2 : TypeId} {sz sz2 : Nat} {v v2 : Value} {n n2 : Nat} {c c2 : Nat → Nat → Value} {o : Obj} (hO : OwnR w base e sz v n c) (hg : (w.alloc o).grownBy w' v.ownBlock) (h2 : OwnR w base2 e2 sz2 v2 n2 c2) (ht : e2 ≠ e) : OwnR w' base2 e2 sz2 v2 n2 c2 := by
  refine (h2.below (below_alloc' w o)).kept hg ?_
  rcases h2.forms with ⟨rfl, -⟩ | ⟨g2, cap2, rfl, -, -, -, -, -, cur2, hcur2⟩
  · exact .inl rfl
  · refine .inr fun he => ?_
    rcases hO.forms with ⟨rfl, -⟩ | ⟨g, cap, rfl, -, -, -, -, -, cur, hcur⟩
    · cases he
    · obtain rfl : g2 = g := by simpa [Value.ownBlock] using he
      rw [hcur2] at hcur
      simp only [Option.some.injEq, Obj.cells.injEq] at hcur
      exact ht hcur.2.1
theorem ext_cell' {w W : World} (h : Below w.heap.size w W) {b o : Nat} {x : Value} (hc : w.cell? ⟨b, o, none⟩ = some x) : W.cell? ⟨b, o, none⟩ = some x := (Below.cell (p := ⟨b, o, none⟩) h (cell_lt hc)).trans hc
theorem turn_two {b : Nat} {W : World} {x y : Value} {t : TypeId} (hb : W.heap[b]? = some (.cells #[x, y] t (0, 0))) (u v : Value) : Turn b (.cells #[u, v] t (0, 0)) W ((W.setCell ⟨b, 0, none⟩ u).setCell ⟨b, 1, none⟩ v) := by
  have h := (turn_set (o := 0) hb u).set (o := 1) v
  simpa using h
theorem int_cell {w : World} {s : Sl} {l : List Int} (h : IntsS w s l) {i : Nat} (hi : i < l.length) : ∃ b off, s.a = some ⟨b, off, none⟩ ∧ w.cell? ⟨b, off + i, none⟩ = some (.int .i64 (intD l i)) := by
  obtain ⟨b, off, ha, h0⟩ := h.cell i 0 hi (by omega)
  rw [Nat.mul_one, Nat.add_zero] at h0
  exact ⟨b, off, ha, h0⟩
theorem cellsOf_get {sz n k : Nat} {c : Nat → Nat → Value} {u : Value} (h : (cellsOf sz n c)[k]? = some u) : ∃ i j, i < n ∧ j < sz ∧ k = i * sz + j ∧ u = c i j := by
  have hk : k < n * sz := by
    have := (List.getElem?_eq_some_iff.1 h).1; rwa [cellsOf_len] at this
  have hsz : 0 < sz := by
    rcases Nat.eq_zero_or_pos sz with e | e
    · subst e; omega
    · exact e
  have e1 : k = (k / sz) * sz + k % sz := by rw [Nat.mul_comm]; exact (Nat.div_add_mod k sz).symm
  have e2 : k / sz < n := Nat.div_lt_of_lt_mul (by rw [Nat.mul_comm]; exact hk)
  have e3 : k % sz < sz := Nat.mod_lt _ hsz
  refine ⟨k / sz, k % sz, e2, e3, e1, ?_⟩
  have a1 := cellsOf_at (c := c) e2 e3
  rw [← e1, h] at a1
  exact Option.some.inj a1
theorem row_one {sz n : Nat} {c : Nat → Nat → Value} (h : ∀ i j, i < n → j < sz → (c i j).oneCell' = true) : ∀ u ∈ cellsOf sz n c, u.oneCell' = true := fun u hu => by
  obtain ⟨k, hk⟩ := List.mem_iff_getElem?.1 hu
  obtain ⟨i, j, hi, hj, -, rfl⟩ := cellsOf_get hk
  exact h i j hi hj
theorem addr_add (b o k : Nat) : (⟨b, o, none⟩ : Addr).add k = ⟨b, o + k, none⟩ := by
  unfold Addr.add; split
  · rename_i h; rw [h]; rfl
  · rfl
theorem cellsOf_app {sz n : Nat} {c c' c'' : Nat → Nat → Value} (h1 : ∀ i j, i < n → j < sz → c'' i j = c i j) : ∀ {m : Nat}, (∀ i j, i < m → j < sz → c'' (n + i) j = c' i j) → cellsOf sz (n + m) c'' = cellsOf sz n c ++ cellsOf sz m c'
  | 0, _ => by rw [Nat.add_zero, cellsOf_congr h1]; simp [cellsOf]
  | m + 1, h2 => by
    rw [← Nat.add_assoc, cellsOf_succ, cellsOf_succ, ← List.append_assoc, cellsOf_app h1 (fun i j hi hj => h2 i j (by omega) hj)]
    congr 1
    exact List.map_congr_left fun j hj => h2 m j (by omega) (List.mem_range.1 hj)
/-- A slice of one's own that is empty. -/
theorem own_empty {w : World} {base b : Nat} {e : TypeId} {sz : Nat} {c : Nat → Nat → Value} (hb : w.heap[b]? = some (.cells #[] e (0, 0))) (hle : base ≤ b) : OwnR w base e sz (.slice (some ⟨b, 0, none⟩) 0 0) 0 c := by
  have hz := blk_lt hb
  exact ⟨by simp [cellsOf], .inr ⟨b, 0, #[], rfl, hle, hb, Nat.le_refl _, by unfold maxLen; omega, by simp, by simp [cellsOf]⟩⟩
theorem own_some {w : World} {base : Nat} {e : TypeId} {sz : Nat} {v : Value} {n : Nat} {c : Nat → Nat → Value} (h : OwnR w base e sz v n c) (h0 : 0 < n) : ∃ g cap, v = .slice (some ⟨g, 0, none⟩) n cap ∧ base ≤ g ∧ n ≤ cap ∧ cap ≤ 9223372036854775807 ∧ RowC w g 0 sz n c ∧ (∀ o, w.frozen? ⟨g, o, none⟩ = false) := by
  rcases h.forms with ⟨_, h⟩ | ⟨g, cap, e, h1, h2, h3, h4, h5, -⟩
  · omega
  · exact ⟨g, cap, e, h1, h2, h3, h4, h5⟩
theorem app_rows_at {P : Program} {t e : TypeId} {z : Value} {sz bytes : Nat} (E : Elem P t e z sz bytes) {w : World} {ops : Array Oper} {rest : List Oper} {o : Oper} {a : Act} {Q : Exit → Act → World → Prop} (hgd : o.guard = none) (s x : Operand)
    (ho : o.op = .call { callee := .builtin .append, args := #[s, x], argTypes := #[t, t] })
    (base : Nat) {v : Value} {n0 : Nat} {c0 c2 : Nat → Nat → Value} (hs : a.eval s = v) (hown : OwnR w base e sz v n0 c0) (b off n m : Nat) {c : Nat → Nat → Value} (hx : a.eval x = .slice (some ⟨b, off, none⟩) n m)
    (hrow : ∀ i j, i < n → j < sz → w.cell? ⟨b, off + i * sz + j, none⟩ = some (c i j)) (h1 : ∀ i j, (c i j).oneCell' = true) (hn : n0 + n ≤ 1000000000) (hbase : base ≤ w.heap.size)
    (e1 : ∀ i j, i < n0 → j < sz → c2 i j = c0 i j) (e2 : ∀ i j, i < n → j < sz → c2 (n0 + i) j = c i j)
    (h : ∀ v' w', OwnR w' base e sz v' (n0 + n) c2 → w.grownBy w' v.ownBlock → (v'.ownBlock = v.ownBlock ∨ v'.ownBlock = some w.heap.size) → wpList P ops Q rest (a.put o.dst v') w') : wpList P ops Q (o :: rest) a w := by
  obtain ⟨i0, hi, hz0, hz1, hz2⟩ := info_parts E.info
  refine wpList_append_own_at _ hgd s x t ho base e i0 z sz bytes E.und hi hz0 hz1 hz2 E.zs E.pos v n0 _ hs hown ⟨b, off, none⟩ n m (cellsOf sz n c) hx (cellsOf_len _ _ _) (fun j u hu => ?_) (row_one fun i j _ _ => h1 i j) (by unfold maxLen; omega) ?_ hbase ?_
  · obtain ⟨i, j, hi, hj, rfl, rfl⟩ := cellsOf_get hu
    rw [addr_add, ← Nat.add_assoc]; exact hrow i j hi hj
  · have := E.by_
    calc (n0 + n) * bytes ≤ 1000000000 * 1000 := Nat.mul_le_mul (by omega) this
      _ ≤ 140737488355328 := by omega
  · intro v' w' h2 h3 _ h5
    rw [← cellsOf_app e1 e2] at h2
    exact h v' w' h2 h3 h5
theorem app_one_at {P : Program} {t e : TypeId} {z : Value} {bytes : Nat} (us : List Value) (E : Elem P t e z us.length bytes) {w : World} {ops : Array Oper} {rest : List Oper} {o : Oper} {a : Act} {Q : Exit → Act → World → Prop} (hgd : o.guard = none) (s x : Operand)
    (ho : o.op = .call { callee := .builtin .append, args := #[s, x], argTypes := #[t, t] })
    (base : Nat) {v : Value} {n : Nat} {c : Nat → Nat → Value} (hs : a.eval s = v) (hown : OwnR w base e us.length v n c) (b m : Nat) (hx : a.eval x = .slice (some ⟨b, 0, none⟩) 1 m)
    (hblk : w.heap[b]? = some (.cells us.toArray e (0, 0))) (h1 : ∀ u ∈ us, u.oneCell' = true) (hn : n ≤ 1000000000) (hbase : base ≤ w.heap.size)
    (h : ∀ v' w', OwnR w' base e us.length v' (n + 1) (upd c n us) → w.grownBy w' v.ownBlock → (v'.ownBlock = v.ownBlock ∨ v'.ownBlock = some w.heap.size) → wpList P ops Q rest (a.put o.dst v') w') : wpList P ops Q (o :: rest) a w := by
  obtain ⟨i0, hi, hz0, hz1, hz2⟩ := info_parts E.info
  refine wpList_append_own_at _ hgd s x t ho base e i0 z us.length bytes E.und hi hz0 hz1 hz2 E.zs E.pos v n _ hs hown ⟨b, 0, none⟩ 1 m us hx (by simp) (fun j u hu => ?_) h1 (by unfold maxLen; omega) ?_ hbase ?_
  · rw [addr_add, Nat.zero_add, cell_blk hblk]; simpa using hu
  · have := E.by_
    calc (n + 1) * bytes ≤ (1000000000 + 1) * 1000 := Nat.mul_le_mul (by omega) this
      _ ≤ 140737488355328 := by omega
  · intro v' w' h2 h3 _ h5
    refine h v' w' ?_ h3 h5
    unfold OwnR; rw [← cells_upd]; exact h2
/-- The last element is cut off. -/
theorem own_pop {w : World} {base g cap : Nat} {e : TypeId} {sz n : Nat} {c : Nat → Nat → Value} (h : OwnR w base e sz (.slice (some ⟨g, 0, none⟩) (n + 1) cap) (n + 1) c) : OwnR w base e sz (.slice (some ⟨g, 0, none⟩) n cap) n c := by
  obtain ⟨hl, ⟨h0, -⟩ | ⟨g', cap', cur, h1, hb, hg, hn, hc, hs, ht⟩⟩ := h
  · cases h0
  · cases h1
    refine ⟨cellsOf_len _ _ _, .inr ⟨g, cap, cur, rfl, hb, hg, by omega, hc, hs, ?_⟩⟩
    have e := congrArg (List.take (n * sz)) ht
    have hle : n * sz ≤ (n + 1) * sz := Nat.mul_le_mul_right _ (by omega)
    rw [List.take_take, Nat.min_eq_left hle, cellsOf_succ, List.take_left' (cellsOf_len _ _ _)] at e
    exact e
theorem blk_put {W : World} {b d : Nat} {x o : Obj} (h : W.heap[b]? = some x) (hne : b ≠ d) : (W.putObj d o).heap[b]? = some x := (World.putObj_heap_other hne).trans h
theorem below_put {B d : Nat} {w W : World} {o : Obj} (h : Below B w W) (hB : B ≤ d) : Below B w (W.putObj d o) :=
  ⟨h.os, h.tape, h.output, Nat.le_trans h.size (grownBy_putObj' W d o).size, fun k hk => (World.putObj_heap_other (by omega)).trans (h.block k hk)⟩
theorem four_blk (w : World) (o1 o2 o3 o4 : Obj) : ((((w.alloc o1).alloc o2).alloc o3).alloc o4).heap[w.heap.size]? = some o1 ∧ ((((w.alloc o1).alloc o2).alloc o3).alloc o4).heap[w.heap.size + 1]? = some o2 ∧ ((((w.alloc o1).alloc o2).alloc o3).alloc o4).heap[w.heap.size + 2]? = some o3 ∧ ((((w.alloc o1).alloc o2).alloc o3).alloc o4).heap[w.heap.size + 3]? = some o4 ∧ ((((w.alloc o1).alloc o2).alloc o3).alloc o4).heap.size = w.heap.size + 4 ∧ Ext2 w ((((w.alloc o1).alloc o2).alloc o3).alloc o4) := by
  have s1 := World.size_alloc w o1; have s2 := World.size_alloc (w.alloc o1) o2; have s3 := World.size_alloc ((w.alloc o1).alloc o2) o3; have s4 := World.size_alloc (((w.alloc o1).alloc o2).alloc o3) o4
  have n2 := World.alloc_heap_new (w.alloc o1) o2
  have n3 := World.alloc_heap_new ((w.alloc o1).alloc o2) o3
  have n4 := World.alloc_heap_new (((w.alloc o1).alloc o2).alloc o3) o4
  rw [s1] at n2; rw [s2, s1] at n3; rw [s3, s2, s1] at n4
  exact ⟨blk_alloc (blk_alloc (blk_alloc (blk_new w _) _) _) _, blk_alloc (blk_alloc n2 _) _, blk_alloc n3 _, n4, by omega, ext_trans (ext_trans (ext_trans (below_alloc' _ _) (below_alloc' _ _)) (below_alloc' _ _)) (below_alloc' _ _)⟩
theorem ext_grown {W3 w w' : World} {row : Option Nat} (h : Ext2 W3 w) (hg : w.grownBy w' row) (hr : ∀ k, row = some k → W3.heap.size ≤ k) : Ext2 W3 w' := by
  refine ⟨hg.os.trans h.os, hg.tape.trans h.tape, hg.output.trans h.output, Nat.le_trans h.size hg.size, fun k hk => ?_⟩
  rw [hg.block k (Nat.lt_of_lt_of_le hk h.size) ?_, h.block k hk]
  intro he
  have := hr k he.symm
  omega
def Apart (v u : Value) : Prop := ∀ b, v.ownBlock = some b → u.ownBlock ≠ some b
theorem own_blk_lt {w : World} {base : Nat} {e : TypeId} {sz : Nat} {v : Value} {n : Nat} {c : Nat → Nat → Value} (h : OwnR w base e sz v n c) {k : Nat} (hv : v.ownBlock = some k) : k < w.heap.size := by
  obtain ⟨cur, hc⟩ := ownR_cells h hv
  exact blk_lt hc
theorem Apart.app {v v' u : Value} {w : World} {base : Nat} {e : TypeId} {sz : Nat} {n : Nat} {c : Nat → Nat → Value} {o : Obj} (h : Apart v u) (hu : OwnR w base e sz u n c) (hp : v'.ownBlock = v.ownBlock ∨ v'.ownBlock = some (w.alloc o).heap.size) : Apart v' u := by
  intro b hb hub
  rcases hp with h1 | h1
  · exact h b (by rw [← h1]; exact hb) hub
  · have := own_blk_lt hu hub
    rw [h1] at hb
    rw [World.size_alloc] at hb
    injection hb with hb
    omega
theorem Apart.symm {v u : Value} (h : Apart v u) : Apart u v := fun b h1 h2 => h b h2 h1
theorem Apart.nil (u : Value) : Apart (.slice none 0 0) u := fun b h => by cases h
theorem elInt : Elem Tryz.prog 37 3 (.int .i64 0) 1 8 := ⟨by kernel_rfl, by kernel_rfl, rfl, by omega, by omega⟩
end Go.Proofs.YtapeakbngligaaaGreatDoor
