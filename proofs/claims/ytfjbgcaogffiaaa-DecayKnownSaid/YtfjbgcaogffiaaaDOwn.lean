/-
  Slices that the call makes itself by append: their cells as a function of the index.
-/
import Derived.Test.YtfjbgcaogffiaaaDHeap
import Derived.Laws.AppendOwn
import Derived.Laws.OwnMore
import Derived.OwnWalk
namespace Go.Proofs.Ytfjbgcaogffiaaa
open Go.RowKit D
set_option linter.unusedVariables false
def cellsOf (sz n : Nat) (c : Nat → Nat → Value) : List Value := (List.range n).flatMap fun i => (List.range sz).map (c i)
theorem cellsOf_succ (sz n : Nat) (c : Nat → Nat → Value) : cellsOf sz (n + 1) c = cellsOf sz n c ++ (List.range sz).map (c n) := by simp [cellsOf, List.range_succ, List.flatMap_append]
theorem cellsOf_len (sz : Nat) (c : Nat → Nat → Value) : ∀ n, (cellsOf sz n c).length = n * sz
  | 0 => by simp [cellsOf]
  | n + 1 => by rw [cellsOf_succ, List.length_append, cellsOf_len sz c n, List.length_map, List.length_range, Nat.succ_mul]
theorem cellsOf_congr {sz : Nat} {c c' : Nat → Nat → Value} : ∀ {n : Nat}, (∀ i j, i < n → j < sz → c i j = c' i j) → cellsOf sz n c = cellsOf sz n c'
  | 0, _ => rfl
  | n + 1, h => by
    rw [cellsOf_succ, cellsOf_succ, cellsOf_congr (fun i j hi hj => h i j (by omega) hj)]
    congr 1
    exact List.map_congr_left fun j hj => h n j (by omega) (List.mem_range.1 hj)
theorem cellsOf_at {sz : Nat} {c : Nat → Nat → Value} : ∀ {n i j : Nat}, i < n → j < sz → (cellsOf sz n c)[i * sz + j]? = some (c i j)
  | n + 1, i, j, hi, hj => by
    rw [cellsOf_succ]
    rcases Nat.lt_or_ge i n with h | h
    · rw [List.getElem?_append_left, cellsOf_at h hj]
      rw [cellsOf_len]
      calc i * sz + j < i * sz + sz := by omega
        _ = (i + 1) * sz := by rw [Nat.succ_mul]
        _ ≤ n * sz := Nat.mul_le_mul_right _ h
    · obtain rfl : i = n := by omega
      rw [List.getElem?_append_right (by rw [cellsOf_len]; omega), cellsOf_len, show i * sz + j - i * sz = j by omega]
      simp [hj]
def OwnR (w : World) (base : Nat) (e : TypeId) (sz : Nat) (v : Value) (n : Nat) (c : Nat → Nat → Value) : Prop := w.ownsRow base e sz v n (cellsOf sz n c)
theorem own_nil (w : World) (base : Nat) (e : TypeId) (sz : Nat) (c : Nat → Nat → Value) : OwnR w base e sz (.slice none 0 0) 0 c := World.ownsRow_nil w base e sz
theorem OwnR.congr {w : World} {base : Nat} {e : TypeId} {sz : Nat} {v : Value} {n : Nat} {c c' : Nat → Nat → Value} (h : OwnR w base e sz v n c) (hc : ∀ i j, i < n → j < sz → c i j = c' i j) : OwnR w base e sz v n c' := by
  unfold OwnR at *; rw [← cellsOf_congr hc]; exact h
/-- One element more. -/
def upd (c : Nat → Nat → Value) (n : Nat) (us : List Value) : Nat → Nat → Value := fun i j => if i = n then us.getD j undef else c i j
theorem upd_lt {c : Nat → Nat → Value} {n i : Nat} {us : List Value} (h : i < n) (j : Nat) : upd c n us i j = c i j := if_neg (by omega)
theorem upd_at {c : Nat → Nat → Value} {n : Nat} {us : List Value} (j : Nat) : upd c n us n j = us.getD j undef := if_pos rfl
theorem cells_upd {c : Nat → Nat → Value} {n : Nat} {us : List Value} : cellsOf us.length n c ++ us = cellsOf us.length (n + 1) (upd c n us) := by
  rw [cellsOf_succ, cellsOf_congr (c := upd c n us) (c' := c) (fun i j hi _ => upd_lt hi j)]
  congr 1
  apply List.ext_getElem
  · simp
  · intro i h1 h2
    simp [upd, h1]
theorem OwnR.forms {w : World} {base : Nat} {e : TypeId} {sz : Nat} {v : Value} {n : Nat} {c : Nat → Nat → Value} (h : OwnR w base e sz v n c) :
    (v = .slice none 0 0 ∧ n = 0) ∨ ∃ g cap, v = .slice (some ⟨g, 0, none⟩) n cap ∧ base ≤ g ∧ n ≤ cap ∧ cap ≤ 9223372036854775807 ∧ RowC w g 0 sz n c ∧ (∀ o, w.frozen? ⟨g, o, none⟩ = false) ∧ ∃ cur, w.heap[g]? = some (.cells cur e (0, 0)) := by
  have h0 := h
  rcases h with ⟨hl, ⟨rfl, rfl⟩ | ⟨g, cap, cur, rfl, hb, hg, hn, hc, hs, ht⟩⟩
  · exact .inl ⟨rfl, rfl⟩
  · refine .inr ⟨g, cap, rfl, hb, hn, hc, ⟨blk_lt hg, fun i j hi hj => ?_⟩, fun o => frz_blk hg o, cur, hg⟩
    have hlt : i * sz + j < n * sz := by
      calc i * sz + j < i * sz + sz := by omega
        _ = (i + 1) * sz := by rw [Nat.succ_mul]
        _ ≤ n * sz := Nat.mul_le_mul_right _ hi
    rw [Nat.zero_add, World.ownsRow.cellAt h0 _ hlt, cellsOf_at hi hj]
theorem OwnR.sl {w : World} {base : Nat} {e : TypeId} {sz : Nat} {v : Value} {n : Nat} {c : Nat → Nat → Value} (h : OwnR w base e sz v n c) : ∃ s : Sl, v = .slice s.a n s.cap ∧ RowS w s sz n c := by
  rcases h.forms with ⟨rfl, rfl⟩ | ⟨g, cap, rfl, _, h1, h2, hr, _, _⟩
  · exact ⟨⟨none, 0⟩, rfl, by simp, by simp, fun i j hi _ => by omega⟩
  · exact ⟨⟨some ⟨g, 0, none⟩, cap⟩, rfl, hr.sl h1 h2⟩
theorem OwnR.kept {w w' : World} {base : Nat} {e : TypeId} {sz : Nat} {v : Value} {n : Nat} {c : Nat → Nat → Value} {row : Option Nat} (h : OwnR w base e sz v n c) (hg : w.grownBy w' row) (hne : v.ownBlock = none ∨ v.ownBlock ≠ row) : OwnR w' base e sz v n c := World.ownsRow.kept h hg hne
theorem grownBy_of_below {w w' : World} (h : Below w.heap.size w w') : w.grownBy w' none := ⟨h.os, h.tape, h.output, h.size, fun k hk _ => h.block k hk⟩
theorem OwnR.below {w w' : World} {base : Nat} {e : TypeId} {sz : Nat} {v : Value} {n : Nat} {c : Nat → Nat → Value} (h : OwnR w base e sz v n c) (hb : Below w.heap.size w w') : OwnR w' base e sz v n c := by
  refine h.kept (grownBy_of_below hb) ?_
  cases v.ownBlock <;> simp
theorem OwnR.base {w : World} {base base' : Nat} {e : TypeId} {sz : Nat} {v : Value} {n : Nat} {c : Nat → Nat → Value} (h : OwnR w base e sz v n c) (hb : base' ≤ base) : OwnR w base' e sz v n c := by
  obtain ⟨h1, h2 | ⟨g, cap, cur, e1, e2, e3⟩⟩ := h
  · exact ⟨h1, .inl h2⟩
  · exact ⟨h1, .inr ⟨g, cap, cur, e1, by omega, e3⟩⟩
theorem OwnR.set {w : World} {base g cap : Nat} {e : TypeId} {sz n i j : Nat} {c : Nat → Nat → Value} (h : OwnR w base e sz (.slice (some ⟨g, 0, none⟩) n cap) n c) (hi : i < n) (hj : j < sz) (u : Value) :
    OwnR (w.setCell ⟨g, i * sz + j, none⟩ u) base e sz (.slice (some ⟨g, 0, none⟩) n cap) n (fun i' j' => if i' = i ∧ j' = j then u else c i' j') := by
  have h1 := (World.ownsRow.stored h (i * sz + j) u).1
  have h2 : (cellsOf sz n c).set (i * sz + j) u = cellsOf sz n (fun i' j' => if i' = i ∧ j' = j then u else c i' j') := by
    apply List.ext_getElem
    · simp [cellsOf_len]
    · intro k k1 k2
      have hk : k < n * sz := by rw [cellsOf_len] at k2; exact k2
      have hsz : 0 < sz := by omega
      have e1 : k = (k / sz) * sz + k % sz := by rw [Nat.mul_comm]; exact (Nat.div_add_mod k sz).symm
      have e2 : k / sz < n := Nat.div_lt_of_lt_mul (by rw [Nat.mul_comm]; exact hk)
      have e3 : k % sz < sz := Nat.mod_lt _ hsz
      have a1 := cellsOf_at (c := c) e2 e3
      have a2 := cellsOf_at (c := fun i' j' => if i' = i ∧ j' = j then u else c i' j') e2 e3
      rw [← e1] at a1 a2
      rw [List.getElem_set]
      have b2 : (cellsOf sz n fun i' j' => if i' = i ∧ j' = j then u else c i' j')[k] = if k / sz = i ∧ k % sz = j then u else c (k / sz) (k % sz) := by
        have := List.getElem?_eq_getElem k2; rw [a2] at this; exact (Option.some.inj this).symm
      rw [b2]
      by_cases hk2 : i * sz + j = k
      · have d1 : k / sz = i := by rw [← hk2, Nat.mul_comm, Nat.mul_add_div hsz, Nat.div_eq_of_lt hj]; omega
        have d2 : k % sz = j := by rw [← hk2, Nat.mul_comm, Nat.mul_add_mod, Nat.mod_eq_of_lt hj]
        rw [if_pos hk2, if_pos ⟨d1, d2⟩]
      · rw [if_neg hk2, if_neg (fun h => hk2 (by rw [← h.1, ← h.2]; exact e1.symm))]
        have k3 : k < (cellsOf sz n c).length := by rw [cellsOf_len]; exact hk
        have := List.getElem?_eq_getElem k3; rw [a1] at this; exact (Option.some.inj this).symm
  unfold OwnR; rw [← h2]; exact h1
/-- What lies from base on and was there lies as it lay. -/
def Above (base : Nat) (w W : World) : Prop := w.heap.size ≤ W.heap.size ∧ ∀ g, base ≤ g → g < w.heap.size → W.heap[g]? = w.heap[g]?
theorem Above.refl (base : Nat) (w : World) : Above base w w := ⟨Nat.le_refl _, fun _ _ _ => rfl⟩
theorem Above.ext {base : Nat} {w w1 W : World} (h : Above base w w1) (hg : Ext2 w1 W) : Above base w W := ⟨Nat.le_trans h.1 hg.size, fun g h1 h2 => (Below.block hg g (Nat.lt_of_lt_of_le h2 h.1)).trans (h.2 g h1 h2)⟩
theorem Above.set {base b o : Nat} {w W : World} {v : Value} (h : Above base w W) (hb : b < base ∨ w.heap.size ≤ b) : Above base w (W.setCell ⟨b, o, none⟩ v) :=
  ⟨by rw [World.size_setCell]; exact h.1, fun g h1 h2 => by
    rw [← h.2 g h1 h2]
    have hne : b ≠ g := by omega
    simp [World.setCell, Array.getElem?_modify, hne]⟩
theorem Above.alloc {base : Nat} {w W : World} (h : Above base w W) (o : Obj) : Above base w (W.alloc o) := ⟨by rw [World.size_alloc]; exact Nat.le_succ_of_le h.1, fun g h1 h2 => (Below.heap_alloc W o g (Nat.lt_of_lt_of_le h2 h.1)).trans (h.2 g h1 h2)⟩
theorem OwnR.above {w W : World} {base : Nat} {e : TypeId} {sz : Nat} {v : Value} {n : Nat} {c : Nat → Nat → Value} (h : OwnR w base e sz v n c) (ha : Above base w W) : OwnR W base e sz v n c := by
  obtain ⟨h1, h2 | ⟨g, cap, cur, e1, e2, e3, e4⟩⟩ := h
  · exact ⟨h1, .inl h2⟩
  · exact ⟨h1, .inr ⟨g, cap, cur, e1, e2, (ha.2 g e2 (blk_lt e3)).trans e3, e4⟩⟩
structure Elem (P : Program) (t e : TypeId) (z : Value) (sz bytes : Nat) : Prop where
  und : P.underlying t = some (.slice e)
  info : (P.info? e).map (fun i => (i.zero, i.size, i.bytes)) = some (some z, sz, bytes)
  zs : z.cells.size = sz
  pos : 0 < sz
  by_ : bytes ≤ 1000
/-- append of one element that lies in a block of its own. -/
theorem app_one {P : Program} {t e : TypeId} {z : Value} {bytes : Nat} (us : List Value) (E : Elem P t e z us.length bytes) {w : World} {ops : Array Oper} {rest : List Oper} {o : Oper} {a : Act} {Q : Exit → Act → World → Prop} (hgd : o.guard = none) (s x : Operand)
    (ho : o.op = .call { callee := .builtin .append, args := #[s, x], argTypes := #[t, t] })
    (base : Nat) {v : Value} {n : Nat} {c : Nat → Nat → Value} (hs : a.eval s = v) (hown : OwnR w base e us.length v n c) (b m : Nat) (hx : a.eval x = .slice (some ⟨b, 0, none⟩) 1 m)
    (hblk : w.heap[b]? = some (.cells us.toArray e (0, 0))) (h1 : ∀ u ∈ us, u.oneCell' = true) (hn : n ≤ 1000000000) (hbase : base ≤ w.heap.size)
    (h : ∀ v' w', OwnR w' base e us.length v' (n + 1) (upd c n us) → w.grownBy w' v.ownBlock → wpList P ops Q rest (a.put o.dst v') w') : wpList P ops Q (o :: rest) a w := by
  obtain ⟨i0, hi, hz0, hz1, hz2⟩ := info_parts E.info
  refine wpList_append_own _ hgd s x t ho base e i0 z us.length bytes E.und hi hz0 hz1 hz2 E.zs E.pos v n _ hs hown ⟨b, 0, none⟩ 1 m us hx (by simp) (fun j u hu => ?_) h1 (by unfold maxLen; omega) ?_ hbase ?_
  · have e : (⟨b, 0, none⟩ : Addr).add j = ⟨b, j, none⟩ := by
      unfold Addr.add; split
      · rename_i h; rw [h]
      · simp
    rw [e, cell_blk hblk]; simpa using hu
  · have := E.by_
    calc (n + 1) * bytes ≤ (1000000000 + 1) * 1000 := Nat.mul_le_mul (by omega) this
      _ ≤ 140737488355328 := by omega
  · intro v' w' h2 h3 _
    refine h v' w' ?_ h3
    unfold OwnR; rw [← cells_upd]; exact h2
theorem own_block {w : World} {base : Nat} {e : TypeId} {sz : Nat} {v : Value} {n : Nat} {c : Nat → Nat → Value} (h : OwnR w base e sz v n c) : ∀ k, v.ownBlock = some k → base ≤ k := fun k hk => (World.ownsRow.lt h k hk).1
theorem below_app {B : Nat} {w wr w1 : World} {e : TypeId} {sz : Nat} {v : Value} {n : Nat} {c : Nat → Nat → Value} {o : Obj} (hB : Below B w wr) (hO : OwnR wr B e sz v n c) (hle : B ≤ wr.heap.size) (hg : (wr.alloc o).grownBy w1 v.ownBlock) : Below B w w1 := by
  have h1 := hB.alloc hle o
  refine ⟨hg.os.trans h1.os, hg.tape.trans h1.tape, hg.output.trans h1.output, Nat.le_trans h1.size hg.size, fun k hk => ?_⟩
  rw [hg.block k (by simp; omega) ?_, h1.block k hk]
  intro he
  have := own_block hO k he.symm
  omega
end Go.Proofs.Ytfjbgcaogffiaaa
