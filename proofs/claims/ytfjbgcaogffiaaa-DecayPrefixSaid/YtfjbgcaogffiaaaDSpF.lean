/-
  append of a row behind a slice of one's own that has something.
  ref.Spans of two rows that are given by functions; parts of a row of tests or spans.
-/
import Derived.Test.YtfjbgcaogffiaaaDMvA
import Derived.Test.YtfjbgcaogffiaaaDSlc
namespace Go.Proofs.Ytfjbgcaogffiaaa
open Go.RowKit D
theorem cellsOf_app {sz n : Nat} {c c' c'' : Nat → Nat → Value} (h1 : ∀ i j, i < n → j < sz → c'' i j = c i j) : ∀ {m : Nat}, (∀ i j, i < m → j < sz → c'' (n + i) j = c' i j) → cellsOf sz (n + m) c'' = cellsOf sz n c ++ cellsOf sz m c'
  | 0, _ => by rw [Nat.add_zero, cellsOf_congr h1]; simp [cellsOf]
  | m + 1, h2 => by
    rw [← Nat.add_assoc, cellsOf_succ, cellsOf_succ, ← List.append_assoc, cellsOf_app h1 (fun i j hi hj => h2 i j (by omega) hj)]
    congr 1
    exact List.map_congr_left fun j hj => h2 m j (by omega) (List.mem_range.1 hj)
/-- append of a row behind a slice of one's own. -/
theorem app_rows {P : Program} {t e : TypeId} {z : Value} {sz bytes : Nat} (E : Elem P t e z sz bytes) {w : World} {ops : Array Oper} {rest : List Oper} {o : Oper} {a : Act} {Q : Exit → Act → World → Prop} (hgd : o.guard = none) (s x : Operand)
    (ho : o.op = .call { callee := .builtin .append, args := #[s, x], argTypes := #[t, t] })
    (base : Nat) {v : Value} {n0 : Nat} {c0 c2 : Nat → Nat → Value} (hs : a.eval s = v) (hown : OwnR w base e sz v n0 c0) (b off n m : Nat) {c : Nat → Nat → Value} (hx : a.eval x = .slice (some ⟨b, off, none⟩) n m)
    (hrow : ∀ i j, i < n → j < sz → w.cell? ⟨b, off + i * sz + j, none⟩ = some (c i j)) (h1 : ∀ i j, (c i j).oneCell' = true) (hn : n0 + n ≤ 1000000000) (hbase : base ≤ w.heap.size)
    (e1 : ∀ i j, i < n0 → j < sz → c2 i j = c0 i j) (e2 : ∀ i j, i < n → j < sz → c2 (n0 + i) j = c i j)
    (h : ∀ v' w', OwnR w' base e sz v' (n0 + n) c2 → w.grownBy w' v.ownBlock → wpList P ops Q rest (a.put o.dst v') w') : wpList P ops Q (o :: rest) a w := by
  obtain ⟨i0, hi, hz0, hz1, hz2⟩ := info_parts E.info
  refine wpList_append_own _ hgd s x t ho base e i0 z sz bytes E.und hi hz0 hz1 hz2 E.zs E.pos v n0 _ hs hown ⟨b, off, none⟩ n m (cellsOf sz n c) hx (cellsOf_len _ _ _) (fun j u hu => ?_) (row_one fun i j _ _ => h1 i j) (by unfold maxLen; omega) ?_ hbase ?_
  · obtain ⟨i, j, hi, hj, rfl, rfl⟩ := cellsOf_get hu
    rw [addr_add, ← Nat.add_assoc]; exact hrow i j hi hj
  · have := E.by_
    calc (n0 + n) * bytes ≤ 1000000000 * 1000 := Nat.mul_le_mul (by omega) this
      _ ≤ 140737488355328 := by omega
  · intro v' w' h2 h3 _
    rw [← cellsOf_app e1 e2] at h2
    exact h v' w' h2 h3
/-- A slice of one's own that is empty. -/
theorem own_empty {w : World} {base b : Nat} {e : TypeId} {sz : Nat} {c : Nat → Nat → Value} (hb : w.heap[b]? = some (.cells #[] e (0, 0))) (hle : base ≤ b) : OwnR w base e sz (.slice (some ⟨b, 0, none⟩) 0 0) 0 c := by
  have hz := blk_lt hb
  exact ⟨by simp [cellsOf], .inr ⟨b, 0, #[], rfl, hle, hb, Nat.le_refl _, by unfold maxLen; omega, by simp, by simp [cellsOf]⟩⟩
end Go.Proofs.Ytfjbgcaogffiaaa
namespace Go.Proofs.Ytfjbgcaogffiaaa
open Go.RowKit D
set_option linter.unusedVariables false
theorem spC_list {f : Nat → Span} {n i : Nat} (h : i < n) (j : Nat) : spC f i j = spanC ((List.range n).map f) i j := by
  have e : spanD ((List.range n).map f) i = f i := by simp [spanD, h]
  match j with
  | 0 | _ + 1 => simp only [spC, spanC, e]
theorem spansF_any {s t : Sl} {n : Nat} {f g : Nat → Span} {w : World} (hs : RowS w s 2 n (spC f)) (ht : RowS w t 2 n (spC g)) (h : ∀ i, i < n → f i = g i) :
    Calls Try.prog 19 #[.slice s.a n s.cap, .slice t.a n t.cap] w fun e w' => e = .returned (.bool true) ∧ Below w.heap.size w w' := by
  have hl : ((List.range n).map f).length = n := by simp
  have h1 : SpansS w s ((List.range n).map f) := by
    unfold SpansS; rw [hl]; exact rowS_congr hs fun i j hi _ => spC_list hi j
  have h2 : SpansS w t ((List.range n).map f) := by
    unfold SpansS; rw [hl]; exact rowS_congr ht fun i j hi _ => by
      rw [← spC_list hi j]
      match j with
      | 0 | _ + 1 => simp only [spC, h i hi]
  have h3 := spans_any h1 h2
  rw [hl] at h3
  exact h3.mono fun e w' ⟨he, q, hq⟩ => ⟨by rw [he]; simp, by rw [hq]; exact below_drewN (Below.refl _ _) q⟩
def dropO (off cap m sz : Nat) : Nat := if cap = m then off else off + m * sz
theorem dropA_some (b off cap m sz : Nat) : dropA (some ⟨b, off, none⟩) cap m sz = some ⟨b, dropO off cap m sz, none⟩ := by
  unfold dropA dropO
  split
  · rfl
  · rw [Option.map_some, addr_addA]
theorem takeA_some (b off cap sz : Nat) : takeA (some ⟨b, off, none⟩) cap sz = some ⟨b, off, none⟩ := by
  unfold takeA
  split
  · rfl
  · rw [Option.map_some, addr_addA, Nat.zero_mul, Nat.add_zero]
theorem run_tests_from (b off len cap m : Nat) (hm : m ≤ len) (w : World) : (Instr.slice 29 (.slice (some ⟨b, off, none⟩) len cap) (some (.int .i64 (m : Int))) none none).run Try.prog w = .ok (.slice (some ⟨b, dropO off cap m 3, none⟩) (len - m) (cap - m)) w := by
  rw [run_slice_l w 29 (some ⟨b, off, none⟩) len cap (by kernel_rfl) .i64 (m : Int) (by omega) (by omega)]
  have h : (sizeOf (Try.prog.elem 29)).run Try.prog w = .ok 3 w := by kernel_rfl
  rw [← dropA_some, h]; rfl
theorem run_tests_to (b off len cap m : Nat) (hm : m ≤ cap) (w : World) : (Instr.slice 29 (.slice (some ⟨b, off, none⟩) len cap) none (some (.int .i64 (m : Int))) none).run Try.prog w = .ok (.slice (some ⟨b, off, none⟩) m cap) w := by
  rw [run_slice_h w 29 (some ⟨b, off, none⟩) len cap (by kernel_rfl) .i64 (m : Int) (by omega) (by omega)]
  have h : (sizeOf (Try.prog.elem 29)).run Try.prog w = .ok 3 w := by kernel_rfl
  rw [h]; exact Eq.trans (b := Result.ok (.slice (takeA (some ⟨b, off, none⟩) cap 3) m cap) w) rfl (by rw [takeA_some])
theorem run_spans_from (b off len cap m : Nat) (hm : m ≤ len) (w : World) : (Instr.slice 32 (.slice (some ⟨b, off, none⟩) len cap) (some (.int .i64 (m : Int))) none none).run Try.prog w = .ok (.slice (some ⟨b, dropO off cap m 2, none⟩) (len - m) (cap - m)) w := by
  rw [run_slice_l w 32 (some ⟨b, off, none⟩) len cap (by kernel_rfl) .i64 (m : Int) (by omega) (by omega)]
  have h : (sizeOf (Try.prog.elem 32)).run Try.prog w = .ok 2 w := by kernel_rfl
  rw [← dropA_some, h]; rfl
theorem run_spans_to (b off len cap m : Nat) (hm : m ≤ cap) (w : World) : (Instr.slice 32 (.slice (some ⟨b, off, none⟩) len cap) none (some (.int .i64 (m : Int))) none).run Try.prog w = .ok (.slice (some ⟨b, off, none⟩) m cap) w := by
  rw [run_slice_h w 32 (some ⟨b, off, none⟩) len cap (by kernel_rfl) .i64 (m : Int) (by omega) (by omega)]
  have h : (sizeOf (Try.prog.elem 32)).run Try.prog w = .ok 2 w := by kernel_rfl
  rw [h]; exact Eq.trans (b := Result.ok (.slice (takeA (some ⟨b, off, none⟩) cap 2) m cap) w) rfl (by rw [takeA_some])
/-- The cells of a part of a row. -/
theorem drop_cells {w : World} {b off cap sz n m : Nat} {c : Nat → Nat → Value} (h : RowC w b off sz n c) (hn : n ≤ cap) : ∀ i j, i < n - m → j < sz → w.cell? ⟨b, dropO off cap m sz + i * sz + j, none⟩ = some (c (m + i) j) := fun i j hi hj => by
  unfold dropO
  rw [if_neg (by omega), ← h.2 (m + i) j (by omega) hj, Nat.add_mul, Nat.add_assoc off]
theorem rowS_drop {w : World} {b off cap sz n m : Nat} {c : Nat → Nat → Value} (h : RowS w ⟨some ⟨b, off, none⟩, cap⟩ sz n c) (hm : m ≤ n) : RowS w ⟨some ⟨b, dropO off cap m sz, none⟩, cap - m⟩ sz (n - m) (fun i j => c (m + i) j) := by
  have h1 := row_drop h hm
  simp only at h1
  rw [dropA_some] at h1
  exact h1
theorem rowS_take {w : World} {b off cap sz n m : Nat} {c : Nat → Nat → Value} (h : RowS w ⟨some ⟨b, off, none⟩, cap⟩ sz n c) (hm : m ≤ n) : RowS w ⟨some ⟨b, off, none⟩, cap⟩ sz m c := by
  have h1 := row_take h hm
  simp only at h1
  rw [takeA_some] at h1
  exact h1
end Go.Proofs.Ytfjbgcaogffiaaa
