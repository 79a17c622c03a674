/-
  append of whole rows behind slices of one's own (program independent).
  Worlds in which one block that stood before, a map, has turned.
-/
import Derived.Test.YtahgbecfaihfpaaDoorDMem
import Derived.Test.YtahgbecfaihfpaaDoorDRegX
import Derived.Test.YtahgbecfaihfpaaDoorTRuleM
import Derived.Test.YtahgbecfaihfpaaDoorTSpellP
import Derived.Test.YtahgbecfaihfpaaDoorTChkM
namespace Go.Proofs.YtahgbecfaihfpaaDoor
open Go.RowKit D
theorem cellsOf_get {sz n k : Nat} {c : Nat → Nat → Value} {u : Value} (h : (cellsOf sz n c)[k]? = some u) : ∃ i j, i < n ∧ j < sz ∧ k = i * sz + j ∧ u = c i j := by
  have hk : k < n * sz := by
    have := (List.getElem?_eq_some_iff.1 h).1; rwa [cellsOf_len] at this
  have hsz : 0 < sz := by
    rcases Nat.eq_zero_or_pos sz with e | e
    · subst e; omega
    · exact e
  have e1 : k = (k / sz) * sz + k % sz := by rw [Nat.mul_comm]; exact (Nat.div_add_mod k sz).symm
  have e2 : k / sz < n := Nat.div_lt_of_lt_mul (by rw [Nat.mul_comm]; exact hk)
  have e3 : k % sz < sz := Nat.mod_lt _ hsz
  refine ⟨k / sz, k % sz, e2, e3, e1, ?_⟩
  have a1 := cellsOf_at (c := c) e2 e3
  rw [← e1, h] at a1
  exact Option.some.inj a1
theorem row_news {w : World} {b off sz n : Nat} {c : Nat → Nat → Value} (h : RowC w b off sz n c) : ∀ (k : Nat) (u : Value), (cellsOf sz n c)[k]? = some u → w.cell? ⟨b, off + k, none⟩ = some u := fun k u hk => by
  obtain ⟨i, j, hi, hj, rfl, rfl⟩ := cellsOf_get hk
  rw [← Nat.add_assoc]; exact h.2 i j hi hj
theorem row_one {sz n : Nat} {c : Nat → Nat → Value} (h : ∀ i j, i < n → j < sz → (c i j).oneCell' = true) : ∀ u ∈ cellsOf sz n c, u.oneCell' = true := fun u hu => by
  obtain ⟨k, hk⟩ := List.mem_iff_getElem?.1 hu
  obtain ⟨i, j, hi, hj, -, rfl⟩ := cellsOf_get hk
  exact h i j hi hj
theorem addr_add (b o k : Nat) : (⟨b, o, none⟩ : Addr).add k = ⟨b, o + k, none⟩ := by
  unfold Addr.add; split
  · rename_i h; rw [h]; rfl
  · rfl
/-- append of a whole row behind a slice of one's own. -/
theorem app_row {P : Program} {t e : TypeId} {z : Value} {sz bytes : Nat} (E : Elem P t e z sz bytes) {w : World} {ops : Array Oper} {rest : List Oper} {o : Oper} {a : Act} {Q : Exit → Act → World → Prop} (hgd : o.guard = none) (s x : Operand)
    (ho : o.op = .call { callee := .builtin .append, args := #[s, x], argTypes := #[t, t] })
    (base : Nat) {v : Value} (hs : a.eval s = v) (hown : w.ownsRow base e sz v 0 []) (b off n m : Nat) {c : Nat → Nat → Value} (hx : a.eval x = .slice (some ⟨b, off, none⟩) n m)
    (hrow : RowC w b off sz n c) (h1 : ∀ i j, (c i j).oneCell' = true) (hn : n ≤ 1000000000) (hbase : base ≤ w.heap.size)
    (h : ∀ v' w', OwnR w' base e sz v' n c → w.grownBy w' v.ownBlock → wpList P ops Q rest (a.put o.dst v') w') : wpList P ops Q (o :: rest) a w := by
  obtain ⟨i0, hi, hz0, hz1, hz2⟩ := info_parts E.info
  refine wpList_append_own _ hgd s x t ho base e i0 z sz bytes E.und hi hz0 hz1 hz2 E.zs E.pos v 0 [] hs hown ⟨b, off, none⟩ n m (cellsOf sz n c) hx (cellsOf_len _ _ _) (fun j u hu => ?_) (row_one fun i j _ _ => h1 i j) (by unfold maxLen; omega) ?_ hbase ?_
  · rw [addr_add]; exact row_news hrow j u hu
  · have := E.by_
    calc (0 + n) * bytes ≤ 1000000000 * 1000 := Nat.mul_le_mul (by omega) this
      _ ≤ 140737488355328 := by omega
  · intro v' w' h2 h3 _
    rw [Nat.zero_add, List.nil_append] at h2
    exact h v' w' h2 h3
theorem cellsOf_app {sz n : Nat} {c c' c'' : Nat → Nat → Value} (h1 : ∀ i j, i < n → j < sz → c'' i j = c i j) : ∀ {m : Nat}, (∀ i j, i < m → j < sz → c'' (n + i) j = c' i j) → cellsOf sz (n + m) c'' = cellsOf sz n c ++ cellsOf sz m c'
  | 0, _ => by rw [Nat.add_zero, cellsOf_congr h1]; simp [cellsOf]
  | m + 1, h2 => by
    rw [← Nat.add_assoc, cellsOf_succ, cellsOf_succ, ← List.append_assoc, cellsOf_app h1 (fun i j hi hj => h2 i j (by omega) hj)]
    congr 1
    exact List.map_congr_left fun j hj => h2 m j (by omega) (List.mem_range.1 hj)
/-- append of a row behind a slice of one's own. -/
theorem app_rows {P : Program} {t e : TypeId} {z : Value} {sz bytes : Nat} (E : Elem P t e z sz bytes) {w : World} {ops : Array Oper} {rest : List Oper} {o : Oper} {a : Act} {Q : Exit → Act → World → Prop} (hgd : o.guard = none) (s x : Operand)
    (ho : o.op = .call { callee := .builtin .append, args := #[s, x], argTypes := #[t, t] })
    (base : Nat) {v : Value} {n0 : Nat} {c0 c2 : Nat → Nat → Value} (hs : a.eval s = v) (hown : OwnR w base e sz v n0 c0) (b off n m : Nat) {c : Nat → Nat → Value} (hx : a.eval x = .slice (some ⟨b, off, none⟩) n m)
    (hrow : ∀ i j, i < n → j < sz → w.cell? ⟨b, off + i * sz + j, none⟩ = some (c i j)) (h1 : ∀ i j, (c i j).oneCell' = true) (hn : n0 + n ≤ 1000000000) (hbase : base ≤ w.heap.size)
    (e1 : ∀ i j, i < n0 → j < sz → c2 i j = c0 i j) (e2 : ∀ i j, i < n → j < sz → c2 (n0 + i) j = c i j)
    (h : ∀ v' w', OwnR w' base e sz v' (n0 + n) c2 → w.grownBy w' v.ownBlock → wpList P ops Q rest (a.put o.dst v') w') : wpList P ops Q (o :: rest) a w := by
  obtain ⟨i0, hi, hz0, hz1, hz2⟩ := info_parts E.info
  refine wpList_append_own _ hgd s x t ho base e i0 z sz bytes E.und hi hz0 hz1 hz2 E.zs E.pos v n0 _ hs hown ⟨b, off, none⟩ n m (cellsOf sz n c) hx (cellsOf_len _ _ _) (fun j u hu => ?_) (row_one fun i j _ _ => h1 i j) (by unfold maxLen; omega) ?_ hbase ?_
  · obtain ⟨i, j, hi, hj, rfl, rfl⟩ := cellsOf_get hu
    rw [addr_add, ← Nat.add_assoc]; exact hrow i j hi hj
  · have := E.by_
    calc (n0 + n) * bytes ≤ 1000000000 * 1000 := Nat.mul_le_mul (by omega) this
      _ ≤ 140737488355328 := by omega
  · intro v' w' h2 h3 _
    rw [← cellsOf_app e1 e2] at h2
    exact h v' w' h2 h3
/-- A slice of one's own that is empty. -/
theorem own_empty {w : World} {base b : Nat} {e : TypeId} {sz : Nat} {c : Nat → Nat → Value} (hb : w.heap[b]? = some (.cells #[] e (0, 0))) (hle : base ≤ b) : OwnR w base e sz (.slice (some ⟨b, 0, none⟩) 0 0) 0 c := by
  have hz := blk_lt hb
  exact ⟨by simp [cellsOf], .inr ⟨b, 0, #[], rfl, hle, hb, Nat.le_refl _, by unfold maxLen; omega, by simp, by simp [cellsOf]⟩⟩
theorem own_some {w : World} {base : Nat} {e : TypeId} {sz : Nat} {v : Value} {n : Nat} {c : Nat → Nat → Value} (h : OwnR w base e sz v n c) (h0 : 0 < n) : ∃ g cap, v = .slice (some ⟨g, 0, none⟩) n cap ∧ base ≤ g ∧ n ≤ cap ∧ cap ≤ 9223372036854775807 ∧ RowC w g 0 sz n c ∧ (∀ o, w.frozen? ⟨g, o, none⟩ = false) := by
  rcases h.forms with ⟨_, h⟩ | ⟨g, cap, e, h1, h2, h3, h4, h5, -⟩
  · omega
  · exact ⟨g, cap, e, h1, h2, h3, h4, h5⟩
theorem own_one (w : World) {base : Nat} (hb : base ≤ w.heap.size) (e : TypeId) (u : Value) (c : Nat → Nat → Value) (hc : c 0 0 = u) : OwnR (w.alloc (.cells #[u] e)) base e 1 (.slice (some ⟨w.heap.size, 0, none⟩) 1 1) 1 c := by
  have h := World.ownsRow_lit (base := base) (e := e) (size := 1) w #[u] 1 hb (by unfold maxLen; omega) (by simp)
  unfold OwnR
  have e1 : cellsOf 1 1 c = [u] := by simp [cellsOf, hc]
  rw [e1]; exact h
theorem own_rowA {w : World} {base : Nat} {e : TypeId} {sz : Nat} {a : Option Addr} {n cap : Nat} {c : Nat → Nat → Value} (h : OwnR w base e sz (.slice a n cap) n c) : RowS w ⟨a, cap⟩ sz n c := by
  obtain ⟨⟨a', cap'⟩, hs, hr⟩ := h.sl
  obtain ⟨rfl, rfl⟩ : a = a' ∧ cap = cap' := by simpa using hs
  exact hr
/-- Cells of one more test, by the test itself. -/
theorem own_ne {w : World} {base base' : Nat} {e e' : TypeId} {sz sz' : Nat} {v v' : Value} {n n' : Nat} {c c' : Nat → Nat → Value} (h : OwnR w base e sz v n c) (h' : OwnR w base' e' sz' v' n' c') (he : e ≠ e') : v.ownBlock = none ∨ v.ownBlock ≠ v'.ownBlock := by
  rcases h.forms with ⟨rfl, _⟩ | ⟨g, cap, rfl, _, _, _, _, _, cur, hg⟩
  · exact .inl rfl
  · right
    rcases h'.forms with ⟨rfl, _⟩ | ⟨g', cap', rfl, _, _, _, _, _, cur', hg'⟩
    · intro h; cases h
    · intro h
      have e1 : g = g' := by simpa [Value.ownBlock] using h
      subst e1
      rw [hg] at hg'
      exact he (by simpa using (Obj.cells.inj (Option.some.inj hg')).2.1)
theorem app_keeps {W w1 : World} {base : Nat} {e : TypeId} {sz : Nat} {v : Value} {n : Nat} {c : Nat → Nat → Value} (hO : OwnR W base e sz v n c) (hg : W.grownBy w1 v.ownBlock) {b : Nat} {x : Obj} (h : W.heap[b]? = some x) (hb : b < base) : w1.heap[b]? = some x :=
  (hg.block b (blk_lt h) (fun he => by have := own_block hO b he.symm; omega)).trans h
theorem app_other {W w1 : World} {base base' : Nat} {e e' : TypeId} {sz sz' : Nat} {v v' : Value} {n n' : Nat} {c c' : Nat → Nat → Value} (hO : OwnR W base e sz v n c) (hO' : OwnR W base' e' sz' v' n' c') (he : e' ≠ e) (hg : W.grownBy w1 v.ownBlock) : OwnR w1 base' e' sz' v' n' c' :=
  hO'.kept hg (own_ne hO' hO he)
theorem app_below {B : Nat} {w W w1 : World} {base : Nat} {e : TypeId} {sz : Nat} {v : Value} {n : Nat} {c : Nat → Nat → Value} (hB : Below B w W) (hO : OwnR W base e sz v n c) (hb : B ≤ base) (hle : B ≤ W.heap.size) (hg : W.grownBy w1 v.ownBlock) : Below B w w1 :=
  hB.grown hg hle (fun k hk => Nat.le_trans hb (own_block hO k hk))
theorem elInt : Elem Tryd.prog 26 3 (.int .i64 0) 1 8 := ⟨by kernel_rfl, by kernel_rfl, rfl, by omega, by omega⟩
end Go.Proofs.YtahgbecfaihfpaaDoor
namespace Go.Proofs.YtahgbecfaihfpaaDoor
open Go.RowKit D
/-- Only block b has turned of what stood. -/
structure Gr (b : Nat) (w w' : World) : Prop where
  os : w'.os = w.os
  tape : w'.tape = w.tape
  output : w'.output = w.output
  size : w.heap.size ≤ w'.heap.size
  block : ∀ k, k < w.heap.size → k ≠ b → w'.heap[k]? = w.heap[k]?
theorem Gr.refl (b : Nat) (w : World) : Gr b w w := ⟨rfl, rfl, rfl, Nat.le_refl _, fun _ _ _ => rfl⟩
theorem Gr.trans {b : Nat} {w w1 w2 : World} (h : Gr b w w1) (g : Gr b w1 w2) : Gr b w w2 :=
  ⟨g.os.trans h.os, g.tape.trans h.tape, g.output.trans h.output, Nat.le_trans h.size g.size, fun k hk hb => (g.block k (Nat.lt_of_lt_of_le hk h.size) hb).trans (h.block k hk hb)⟩
theorem Gr.ext {b : Nat} {w w1 w2 : World} (h : Gr b w w1) (g : Ext2 w1 w2) : Gr b w w2 :=
  h.trans ⟨Below.os g, Below.tape g, Below.output g, Below.size g, fun k hk _ => Below.block g k hk⟩
theorem Gr.obj {b : Nat} {w w1 : World} (h : Gr b w w1) (o : Obj) : Gr b w { w1 with heap := w1.heap.setIfInBounds b o } :=
  h.trans ⟨rfl, rfl, rfl, by rw [setObj_size]; exact Nat.le_refl _, fun k _ hk => setObj_other w1 o hk⟩
theorem Gr.below {b B : Nat} {w0 w w' : World} (h : Gr b w w') (hB : Below B w0 w) (hb : B ≤ b) (hs : B ≤ w.heap.size) : Below B w0 w' :=
  hB.trans ⟨h.os, h.tape, h.output, h.size, fun k hk => h.block k (by omega) (by omega)⟩
/-- A block holds a map. -/
def IsMap (w : World) (b : Nat) : Prop := ∃ es c, w.heap[b]? = some (.map es c)
theorem MapV.isMap {K : Value → Prop} {w : World} {b : Nat} {f : Value → Option Value} (h : MapV K w b f) : IsMap w b := by
  obtain ⟨es, c, hb, _⟩ := h.at_; exact ⟨es, c, hb⟩
theorem cell_no_map {w : World} {b m : Nat} {o : Nat} {v : Value} (hm : IsMap w m) (h : w.cell? ⟨b, o, none⟩ = some v) : b ≠ m := by
  rintro rfl
  obtain ⟨es, c, hb⟩ := hm
  simp [World.cell?, hb] at h
theorem blk_no_map {w : World} {b m : Nat} {c : Array Value} {t : TypeId} {f : Nat × Nat} (hm : IsMap w m) (h : w.heap[b]? = some (.cells c t f)) : b ≠ m := by
  rintro rfl
  obtain ⟨es, c, hb⟩ := hm
  rw [hb] at h; cases h
theorem Gr.blk {m : Nat} {w w' : World} (h : Gr m w w') (hm : IsMap w m) {b : Nat} {c : Array Value} {t : TypeId} {f : Nat × Nat} (hb : w.heap[b]? = some (.cells c t f)) : w'.heap[b]? = some (.cells c t f) :=
  (h.block b (blk_lt hb) (blk_no_map hm hb)).trans hb
theorem Gr.cell {m : Nat} {w w' : World} (h : Gr m w w') (hm : IsMap w m) {b o : Nat} {v : Value} (hc : w.cell? ⟨b, o, none⟩ = some v) : w'.cell? ⟨b, o, none⟩ = some v := by
  have hb := h.block b (cell_lt hc) (cell_no_map hm hc)
  rw [← hc]
  simp only [World.cell?]
  rw [hb]
theorem RowS.gr {m : Nat} {w w' : World} {s : Sl} {sz n : Nat} {c : Nat → Nat → Value} (h : RowS w s sz n c) (hm : IsMap w m) (hg : Gr m w w') : RowS w' s sz n c :=
  ⟨h.le, h.max, fun i j hi hj => by
    obtain ⟨b, off, ha, hc⟩ := h.cell i j hi hj
    exact ⟨b, off, ha, hg.cell hm hc⟩⟩
theorem FontAt.gr {m : Nat} {w w' : World} {F : Font} {s : FSl} (h : FontAt w F s) (hm : IsMap w m) (hg : Gr m w w') : FontAt w' F s :=
  ⟨⟨h.gls.gl.gr hm hg, fun i hi => (h.gls.rows i hi).gr hm hg, h.gls.size⟩, h.kn.gr hm hg⟩
theorem SetAt.gr {m : Nat} {w w' : World} {F : Font} {s : FSl} {R : Rul} {b gm km : Nat} (h : SetAt w F s R b gm km) (hm : IsMap w m) (hg : Gr m w w') (h1 : gm ≠ m) (h2 : km ≠ m) : SetAt w' F s R b gm km :=
  ⟨hg.blk hm h.blk, h.gl.kept (hg.block gm h.gl.lt h1), h.kn.kept (hg.block km h.kn.lt h2), h.font.gr hm hg⟩
/-- The block of a slice has elements of a type. -/
def TyS (w : World) (s : Sl) (e : TypeId) : Prop := ∀ b off, s.a = some ⟨b, off, none⟩ → ∃ c f, w.heap[b]? = some (.cells c e f)
theorem TyS.below {w w' : World} {s : Sl} {e : TypeId} (h : TyS w s e) (hb : Below w.heap.size w w') : TyS w' s e := fun b off ha => by
  obtain ⟨c, f, hc⟩ := h b off ha
  exact ⟨c, f, Ext2.blk hb hc⟩
theorem TyS.gr {m : Nat} {w w' : World} {s : Sl} {e : TypeId} (h : TyS w s e) (hm : IsMap w m) (hg : Gr m w w') : TyS w' s e := fun b off ha => by
  obtain ⟨c, f, hc⟩ := h b off ha
  exact ⟨c, f, hg.blk hm hc⟩
theorem TyS.set {w : World} {s : Sl} {e e' : TypeId} (h : TyS w s e) {g o : Nat} {c : Array Value} {f : Nat × Nat} {v : Value} (hg : w.heap[g]? = some (.cells c e' f)) (he : e ≠ e') : TyS (w.setCell ⟨g, o, none⟩ v) s e := fun b off ha => by
  obtain ⟨c', f', hc⟩ := h b off ha
  have hne : b ≠ g := fun h => by
    subst h
    rw [hc] at hg
    exact he (by simpa using (Obj.cells.inj (Option.some.inj hg)).2.1)
  exact ⟨c', f', by rw [set_oth _ _ hne]; exact hc⟩
theorem RowS.set_ty {w : World} {s : Sl} {sz n : Nat} {q : Nat → Nat → Value} {e e' : TypeId} (h : RowS w s sz n q) (ht : TyS w s e) {g o : Nat} {c : Array Value} {f : Nat × Nat} {v : Value} (hg : w.heap[g]? = some (.cells c e' f)) (he : e ≠ e') : RowS (w.setCell ⟨g, o, none⟩ v) s sz n q :=
  ⟨h.le, h.max, fun i j hi hj => by
    obtain ⟨b, off, ha, hc⟩ := h.cell i j hi hj
    obtain ⟨c', f', hc'⟩ := ht b off ha
    have hne : b ≠ g := fun h => by
      subst h
      rw [hc'] at hg
      exact he (by simpa using (Obj.cells.inj (Option.some.inj hg)).2.1)
    refine ⟨b, off, ha, ?_⟩
    rw [← hc]
    simp only [World.cell?]
    rw [set_oth _ _ hne]⟩
/-- Ints, in a block of ints. -/
def IntsT (w : World) (s : Sl) (l : List Int) : Prop := IntsS w s l ∧ TyS w s 3
theorem IntsT.below {w w' : World} {s : Sl} {l : List Int} (h : IntsT w s l) (hb : Below w.heap.size w w') : IntsT w' s l := ⟨RowS.below h.1 hb, h.2.below hb⟩
theorem IntsT.gr {m : Nat} {w w' : World} {s : Sl} {l : List Int} (h : IntsT w s l) (hm : IsMap w m) (hg : Gr m w w') : IntsT w' s l := ⟨RowS.gr h.1 hm hg, h.2.gr hm hg⟩
theorem IntsT.set {w : World} {s : Sl} {l : List Int} {e : TypeId} (h : IntsT w s l) {g o : Nat} {c : Array Value} {f : Nat × Nat} {v : Value} (hg : w.heap[g]? = some (.cells c e f)) (he : 3 ≠ e) : IntsT (w.setCell ⟨g, o, none⟩ v) s l := ⟨RowS.set_ty h.1 h.2 hg he, h.2.set hg he⟩
theorem own_ty {w : World} {base : Nat} {e : TypeId} {sz : Nat} {a : Option Addr} {n m cap : Nat} {c : Nat → Nat → Value} (h : OwnR w base e sz (.slice a m cap) n c) : TyS w ⟨a, cap⟩ e := fun b off ha => by
  rcases h.forms with ⟨h1, _⟩ | ⟨g, cap', h1, _, _, _, _, _, cur, hg⟩
  · obtain ⟨rfl, -⟩ : a = none ∧ _ := by simpa using h1
    cases ha
  · obtain ⟨rfl, -⟩ : a = some ⟨g, 0, none⟩ ∧ _ := by simpa using h1
    obtain ⟨rfl, -⟩ : g = b ∧ _ := by simpa using ha
    exact ⟨cur, (0, 0), hg⟩
/-- A slice that holds a setting; nil: there is none. -/
def OptV (w : World) (o : Option (List Nat)) (v : Value) : Prop :=
  match o with
  | none => v = .slice none 0 0
  | some l => ∃ b off cap, v = .slice (some ⟨b, off, none⟩) l.length cap ∧ IntsT w ⟨some ⟨b, off, none⟩, cap⟩ (l.map Int.ofNat)
theorem ints_len (l : List Nat) : (l.map Int.ofNat).length = l.length := List.length_map ..
theorem OptV.gr {m : Nat} {w w' : World} {o : Option (List Nat)} {v : Value} (h : OptV w o v) (hm : IsMap w m) (hg : Gr m w w') : OptV w' o v := by
  cases o with
  | none => exact h
  | some l =>
    obtain ⟨b, off, cap, h1, h2⟩ := h
    exact ⟨b, off, cap, h1, h2.gr hm hg⟩
theorem OptV.below {w w' : World} {o : Option (List Nat)} {v : Value} (h : OptV w o v) (hb : Below w.heap.size w w') : OptV w' o v := by
  cases o with
  | none => exact h
  | some l =>
    obtain ⟨b, off, cap, h1, h2⟩ := h
    exact ⟨b, off, cap, h1, h2.below hb⟩
/-- What the closure of spell leans on: the setter, its variables, and what is known. -/
structure KInv (w : World) (F : Font) (s : FSl) (R : Rul) (b gm km mb tb sb fb : Nat) (f : Value → Option Value) : Prop where
  set : SetAt w F s R b gm km
  tb_ : w.heap[tb]? = some (.cells #[.map (some mb)] 148 (0, 0))
  sb_ : w.heap[sb]? = some (.cells #[.pointer (some ⟨b, 0, none⟩)] 85 (0, 0))
  fb_ : w.heap[fb]? = some (.cells #[.func (.func 83) #[] #[.pointer (some ⟨tb, 0, none⟩), .pointer (some ⟨sb, 0, none⟩), .pointer (some ⟨fb, 0, none⟩)]] 149 (0, 0))
  map : MapV K1 w mb f
  known : ∀ t v, f (.string t) = some v → OptV w (setS F t.data.toList) v
  empty : ∃ v, f (.string ByteArray.empty) = some v
  g1 : gm ≠ mb
  g2 : km ≠ mb
theorem KInv.ext {w w' : World} {F : Font} {s : FSl} {R : Rul} {b gm km mb tb sb fb : Nat} {f : Value → Option Value} (h : KInv w F s R b gm km mb tb sb fb f) (hb : Ext2 w w') : KInv w' F s R b gm km mb tb sb fb f :=
  ⟨h.set.below hb, Ext2.blk hb h.tb_, Ext2.blk hb h.sb_, Ext2.blk hb h.fb_, h.map.kept (Below.block hb mb h.map.lt), fun t v ht => (h.known t v ht).below hb, h.empty, h.g1, h.g2⟩
end Go.Proofs.YtahgbecfaihfpaaDoor
