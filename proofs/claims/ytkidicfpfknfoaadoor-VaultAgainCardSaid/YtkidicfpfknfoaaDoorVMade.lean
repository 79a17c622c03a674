/-
  Slices that 'make' lays: program independent.
-/
import Derived.Test.YtkidicfpfknfoaaDoorDMem
import Derived.OwnWalk
namespace Go.Proofs.YtkidicfpfknfoaaDoor
open Go.RowKit D
set_option linter.unusedVariables false
theorem run_mk {P : Program} {t e : TypeId} {z : Value} {sz bytes : Nat} (E : Elem P t e z sz bytes) (W : World) (n : Nat) (hn : n ≤ 1000000000) :
    (Instr.makeSlice t (.int .i64 (n : Int)) (.int .i64 (n : Int))).run P W = .ok (.slice (some ⟨W.heap.size, 0, none⟩) n n) (W.alloc (.cells (madeCells z.cells (n * sz)) e)) := by
  obtain ⟨i0, hi, hz0, hz1, hz2⟩ := info_parts E.info
  have hb : i0.bytes * n ≤ 281474976710656 := by
    have h1 := E.by_
    rw [hz2]
    calc bytes * n ≤ 1000 * 1000000000 := Nat.mul_le_mul h1 hn
      _ ≤ 281474976710656 := by omega
  have hb' : (i0.bytes : Int) * (n : Int) ≤ 281474976710656 := by
    have h : ((i0.bytes * n : Nat) : Int) ≤ 281474976710656 := by omega
    rwa [Int.natCast_mul] at h
  have hr := run_make (P := P) W t e i0 z E.und hi hz0 .i64 .i64 n n (by omega) (Int.le_refl _) hb' (by omega)
  simp only [Int.toNat_natCast] at hr
  rw [hr, hz1]
theorem wpList_mk {P : Program} {t e : TypeId} {z : Value} {sz bytes : Nat} (E : Elem P t e z sz bytes) {w : World} {ops : Array Oper} {rest : List Oper} {o : Oper} {a : Act} {Q : Exit → Act → World → Prop}
    (hg : o.guard = none) (l : Operand) (hop : o.op = Op.makeSlice t l l) (n : Nat) (hl : a.eval l = .int .i64 (n : Int)) (hn : n ≤ 1000000000)
    (hK : wpList P ops Q rest (a.put o.dst (.slice (some ⟨w.heap.size, 0, none⟩) n n)) (w.alloc (.cells (madeCells z.cells (n * sz)) e))) :
    wpList P ops Q (o :: rest) a w := by
  refine wpList_plain hg fun K hK' => ?_
  have hrun := run_mk E w n hn
  unfold Oper.wp
  simp [execOp, hop, hl, hrun, Result.andThen]
  exact hK' _ _ hK
theorem exec_mk {P : Program} {t e : TypeId} {z : Value} {sz bytes : Nat} (E : Elem P t e z sz bytes) {o : Oper} {ρ : Operand → Value} {l : Operand} (hop : o.op = Op.makeSlice t l l) (n : Nat) (hl : ρ l = .int .i64 (n : Int)) (hn : n ≤ 1000000000) (W : World) :
    (execOp ρ o).run P W = .ok (.value (.slice (some ⟨W.heap.size, 0, none⟩) n n)) (W.alloc (.cells (madeCells z.cells (n * sz)) e)) := by
  have h := run_mk E W n hn
  simp [execOp, hop, hl, h, Result.andThen]
theorem made_at (z : Array Value) (n k : Nat) (h : k < n) : (madeCells z n).toList[k]? = some (z[k % z.size]!) := by
  simp [madeCells, h]
theorem own_made {w : World} {base e sz n g : Nat} {z : Array Value} (hz : z.size = sz) (h0 : 0 < sz) (hn : n ≤ maxLen) (hb : base ≤ g) (hg : w.heap[g]? = some (.cells (madeCells z (n * sz)) e (0, 0))) :
    OwnR w base e sz (.slice (some ⟨g, 0, none⟩) n n) n (fun _ j => z[j]!) := by
  refine ⟨cellsOf_len _ _ _, .inr ⟨g, n, _, rfl, hb, hg, Nat.le_refl _, hn, size_madeCells _ _, ?_⟩⟩
  rw [List.take_of_length_le (by rw [Array.length_toList, size_madeCells]; exact Nat.le_refl _)]
  apply List.ext_getElem?
  intro k
  by_cases hk : k < n * sz
  · have e1 : k = (k / sz) * sz + k % sz := by rw [Nat.mul_comm]; exact (Nat.div_add_mod k sz).symm
    have e2 : k / sz < n := Nat.div_lt_of_lt_mul (by rw [Nat.mul_comm]; exact hk)
    have a1 := cellsOf_at (c := fun _ j => z[j]!) e2 (Nat.mod_lt k h0)
    rw [← e1] at a1
    rw [made_at _ _ _ hk, a1, hz]
  · rw [List.getElem?_eq_none (by rw [Array.length_toList, size_madeCells]; omega), List.getElem?_eq_none (by rw [cellsOf_len]; omega)]
theorem made_one {z : Value} {m k : Nat} (h : k < m) : (madeCells #[z] m)[k]? = some z := by simp [madeCells, Nat.mod_one, h]
/-- One cell of a slice of one's own that has one cell an element. -/
theorem OwnR.cell1 {w : World} {base g cap : Nat} {e : TypeId} {n i : Nat} {c : Nat → Nat → Value} (h : OwnR w base e 1 (.slice (some ⟨g, 0, none⟩) n cap) n c) (hi : i < n) : w.cell? ⟨g, i, none⟩ = some (c i 0) ∧ w.frozen? ⟨g, i, none⟩ = false ∧ g < w.heap.size ∧ base ≤ g := by
  rcases h.forms with ⟨_, h0⟩ | ⟨g', cp', he, hb, -, -, hr, hfz, -⟩
  · omega
  · obtain ⟨rfl, rfl⟩ : g = g' ∧ cap = cp' := by simpa using he
    have := hr.one hi
    rw [Nat.zero_add] at this
    exact ⟨this, hfz _, hr.1, hb⟩
theorem OwnR.set1 {w : World} {base g cap : Nat} {e : TypeId} {n i : Nat} {c c' : Nat → Nat → Value} (h : OwnR w base e 1 (.slice (some ⟨g, 0, none⟩) n cap) n c) (hi : i < n) (u : Value) (hc : ∀ i', i' < n → c' i' 0 = if i' = i then u else c i' 0) : OwnR (w.setCell ⟨g, i, none⟩ u) base e 1 (.slice (some ⟨g, 0, none⟩) n cap) n c' := by
  have h1 := h.set (j := 0) hi (by omega) u
  rw [Nat.mul_one, Nat.add_zero] at h1
  refine h1.congr fun i' j' hi' hj' => ?_
  obtain rfl : j' = 0 := by omega
  rw [hc i' hi']
  by_cases hii : i' = i
  · simp [hii]
  · simp [hii]
/-- A block of another type stays as it was behind an append. -/
theorem app_blk {w w' : World} {base : Nat} {e : TypeId} {sz : Nat} {v : Value} {n : Nat} {c : Nat → Nat → Value} {o : Obj} (hO : OwnR w base e sz v n c) (hg : (w.alloc o).grownBy w' v.ownBlock) {b : Nat} {cs : Array Value} {t : TypeId} {f : Nat × Nat} (hb : w.heap[b]? = some (.cells cs t f)) (ht : t ≠ e) : w'.heap[b]? = some (.cells cs t f) := by
  have h1 := blk_alloc hb o
  rw [hg.block b (blk_lt h1) ?_]
  · exact h1
  · intro he
    rcases hO.forms with ⟨rfl, -⟩ | ⟨g, cap, rfl, -, -, -, -, -, cur, hcur⟩
    · cases he
    · obtain rfl : b = g := by simpa [Value.ownBlock] using he
      rw [hb] at hcur
      simp only [Option.some.injEq, Obj.cells.injEq] at hcur
      exact ht hcur.2.1
theorem own_app {w w' : World} {base base2 : Nat} {e e2 : TypeId} {sz sz2 : Nat} {v v2 : Value} {n n2 : Nat} {c c2 : Nat → Nat → Value} {o : Obj} (hO : OwnR w base e sz v n c) (hg : (w.alloc o).grownBy w' v.ownBlock) (h2 : OwnR w base2 e2 sz2 v2 n2 c2) (ht : e2 ≠ e) : OwnR w' base2 e2 sz2 v2 n2 c2 := by
  refine (h2.below (below_alloc' w o)).kept hg ?_
  rcases h2.forms with ⟨rfl, -⟩ | ⟨g2, cap2, rfl, -, -, -, -, -, cur2, hcur2⟩
  · exact .inl rfl
  · refine .inr fun he => ?_
    rcases hO.forms with ⟨rfl, -⟩ | ⟨g, cap, rfl, -, -, -, -, -, cur, hcur⟩
    · cases he
    · obtain rfl : g2 = g := by simpa [Value.ownBlock] using he
      rw [hcur2] at hcur
      simp only [Option.some.injEq, Obj.cells.injEq] at hcur
      exact ht hcur.2.1
end Go.Proofs.YtkidicfpfknfoaaDoor
