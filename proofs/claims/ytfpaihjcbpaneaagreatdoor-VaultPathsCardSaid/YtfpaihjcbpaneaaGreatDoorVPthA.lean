/-
  append, and where it lays: in place, or in a new block (program independent).
  What the search of Path keeps in memory.
-/
import Derived.Test.YtfpaihjcbpaneaaGreatDoorVAirA
import Derived.Maps.AppendAt
import Derived.Test.YtfpaihjcbpaneaaGreatDoorVMove
import Derived.Test.YtfpaihjcbpaneaaGreatDoorVSrA
namespace Go.Proofs.YtfpaihjcbpaneaaGreatDoor
open Go.RowKit D
set_option linter.unusedVariables false
theorem cellsOf_get {sz n k : Nat} {c : Nat → Nat → Value} {u : Value} (h : (cellsOf sz n c)[k]? = some u) : ∃ i j, i < n ∧ j < sz ∧ k = i * sz + j ∧ u = c i j := by
  have hk : k < n * sz := by
    have := (List.getElem?_eq_some_iff.1 h).1; rwa [cellsOf_len] at this
  have hsz : 0 < sz := by
    rcases Nat.eq_zero_or_pos sz with e | e
    · subst e; omega
    · exact e
  have e1 : k = (k / sz) * sz + k % sz := by rw [Nat.mul_comm]; exact (Nat.div_add_mod k sz).symm
  have e2 : k / sz < n := Nat.div_lt_of_lt_mul (by rw [Nat.mul_comm]; exact hk)
  have e3 : k % sz < sz := Nat.mod_lt _ hsz
  refine ⟨k / sz, k % sz, e2, e3, e1, ?_⟩
  have a1 := cellsOf_at (c := c) e2 e3
  rw [← e1, h] at a1
  exact Option.some.inj a1
theorem row_one {sz n : Nat} {c : Nat → Nat → Value} (h : ∀ i j, i < n → j < sz → (c i j).oneCell' = true) : ∀ u ∈ cellsOf sz n c, u.oneCell' = true := fun u hu => by
  obtain ⟨k, hk⟩ := List.mem_iff_getElem?.1 hu
  obtain ⟨i, j, hi, hj, -, rfl⟩ := cellsOf_get hk
  exact h i j hi hj
theorem addr_add (b o k : Nat) : (⟨b, o, none⟩ : Addr).add k = ⟨b, o + k, none⟩ := by
  unfold Addr.add; split
  · rename_i h; rw [h]; rfl
  · rfl
theorem cellsOf_app {sz n : Nat} {c c' c'' : Nat → Nat → Value} (h1 : ∀ i j, i < n → j < sz → c'' i j = c i j) : ∀ {m : Nat}, (∀ i j, i < m → j < sz → c'' (n + i) j = c' i j) → cellsOf sz (n + m) c'' = cellsOf sz n c ++ cellsOf sz m c'
  | 0, _ => by rw [Nat.add_zero, cellsOf_congr h1]; simp [cellsOf]
  | m + 1, h2 => by
    rw [← Nat.add_assoc, cellsOf_succ, cellsOf_succ, ← List.append_assoc, cellsOf_app h1 (fun i j hi hj => h2 i j (by omega) hj)]
    congr 1
    exact List.map_congr_left fun j hj => h2 m j (by omega) (List.mem_range.1 hj)
/-- A slice of one's own that is empty. -/
theorem own_empty {w : World} {base b : Nat} {e : TypeId} {sz : Nat} {c : Nat → Nat → Value} (hb : w.heap[b]? = some (.cells #[] e (0, 0))) (hle : base ≤ b) : OwnR w base e sz (.slice (some ⟨b, 0, none⟩) 0 0) 0 c := by
  have hz := blk_lt hb
  exact ⟨by simp [cellsOf], .inr ⟨b, 0, #[], rfl, hle, hb, Nat.le_refl _, by unfold maxLen; omega, by simp, by simp [cellsOf]⟩⟩
theorem own_some {w : World} {base : Nat} {e : TypeId} {sz : Nat} {v : Value} {n : Nat} {c : Nat → Nat → Value} (h : OwnR w base e sz v n c) (h0 : 0 < n) : ∃ g cap, v = .slice (some ⟨g, 0, none⟩) n cap ∧ base ≤ g ∧ n ≤ cap ∧ cap ≤ 9223372036854775807 ∧ RowC w g 0 sz n c ∧ (∀ o, w.frozen? ⟨g, o, none⟩ = false) := by
  rcases h.forms with ⟨_, h⟩ | ⟨g, cap, e, h1, h2, h3, h4, h5, -⟩
  · omega
  · exact ⟨g, cap, e, h1, h2, h3, h4, h5⟩
theorem app_rows_at {P : Program} {t e : TypeId} {z : Value} {sz bytes : Nat} (E : Elem P t e z sz bytes) {w : World} {ops : Array Oper} {rest : List Oper} {o : Oper} {a : Act} {Q : Exit → Act → World → Prop} (hgd : o.guard = none) (s x : Operand)
    (ho : o.op = .call { callee := .builtin .append, args := #[s, x], argTypes := #[t, t] })
    (base : Nat) {v : Value} {n0 : Nat} {c0 c2 : Nat → Nat → Value} (hs : a.eval s = v) (hown : OwnR w base e sz v n0 c0) (b off n m : Nat) {c : Nat → Nat → Value} (hx : a.eval x = .slice (some ⟨b, off, none⟩) n m)
    (hrow : ∀ i j, i < n → j < sz → w.cell? ⟨b, off + i * sz + j, none⟩ = some (c i j)) (h1 : ∀ i j, (c i j).oneCell' = true) (hn : n0 + n ≤ 1000000000) (hbase : base ≤ w.heap.size)
    (e1 : ∀ i j, i < n0 → j < sz → c2 i j = c0 i j) (e2 : ∀ i j, i < n → j < sz → c2 (n0 + i) j = c i j)
    (h : ∀ v' w', OwnR w' base e sz v' (n0 + n) c2 → w.grownBy w' v.ownBlock → (v'.ownBlock = v.ownBlock ∨ v'.ownBlock = some w.heap.size) → wpList P ops Q rest (a.put o.dst v') w') : wpList P ops Q (o :: rest) a w := by
  obtain ⟨i0, hi, hz0, hz1, hz2⟩ := info_parts E.info
  refine wpList_append_own_at _ hgd s x t ho base e i0 z sz bytes E.und hi hz0 hz1 hz2 E.zs E.pos v n0 _ hs hown ⟨b, off, none⟩ n m (cellsOf sz n c) hx (cellsOf_len _ _ _) (fun j u hu => ?_) (row_one fun i j _ _ => h1 i j) (by unfold maxLen; omega) ?_ hbase ?_
  · obtain ⟨i, j, hi, hj, rfl, rfl⟩ := cellsOf_get hu
    rw [addr_add, ← Nat.add_assoc]; exact hrow i j hi hj
  · have := E.by_
    calc (n0 + n) * bytes ≤ 1000000000 * 1000 := Nat.mul_le_mul (by omega) this
      _ ≤ 140737488355328 := by omega
  · intro v' w' h2 h3 _ h5
    rw [← cellsOf_app e1 e2] at h2
    exact h v' w' h2 h3 h5
theorem app_one_at {P : Program} {t e : TypeId} {z : Value} {bytes : Nat} (us : List Value) (E : Elem P t e z us.length bytes) {w : World} {ops : Array Oper} {rest : List Oper} {o : Oper} {a : Act} {Q : Exit → Act → World → Prop} (hgd : o.guard = none) (s x : Operand)
    (ho : o.op = .call { callee := .builtin .append, args := #[s, x], argTypes := #[t, t] })
    (base : Nat) {v : Value} {n : Nat} {c : Nat → Nat → Value} (hs : a.eval s = v) (hown : OwnR w base e us.length v n c) (b m : Nat) (hx : a.eval x = .slice (some ⟨b, 0, none⟩) 1 m)
    (hblk : w.heap[b]? = some (.cells us.toArray e (0, 0))) (h1 : ∀ u ∈ us, u.oneCell' = true) (hn : n ≤ 1000000000) (hbase : base ≤ w.heap.size)
    (h : ∀ v' w', OwnR w' base e us.length v' (n + 1) (upd c n us) → w.grownBy w' v.ownBlock → (v'.ownBlock = v.ownBlock ∨ v'.ownBlock = some w.heap.size) → wpList P ops Q rest (a.put o.dst v') w') : wpList P ops Q (o :: rest) a w := by
  obtain ⟨i0, hi, hz0, hz1, hz2⟩ := info_parts E.info
  refine wpList_append_own_at _ hgd s x t ho base e i0 z us.length bytes E.und hi hz0 hz1 hz2 E.zs E.pos v n _ hs hown ⟨b, 0, none⟩ 1 m us hx (by simp) (fun j u hu => ?_) h1 (by unfold maxLen; omega) ?_ hbase ?_
  · rw [addr_add, Nat.zero_add, cell_blk hblk]; simpa using hu
  · have := E.by_
    calc (n + 1) * bytes ≤ (1000000000 + 1) * 1000 := Nat.mul_le_mul (by omega) this
      _ ≤ 140737488355328 := by omega
  · intro v' w' h2 h3 _ h5
    refine h v' w' ?_ h3 h5
    unfold OwnR; rw [← cells_upd]; exact h2
/-- The last element is cut off. -/
theorem own_pop {w : World} {base g cap : Nat} {e : TypeId} {sz n : Nat} {c : Nat → Nat → Value} (h : OwnR w base e sz (.slice (some ⟨g, 0, none⟩) (n + 1) cap) (n + 1) c) : OwnR w base e sz (.slice (some ⟨g, 0, none⟩) n cap) n c := by
  obtain ⟨hl, ⟨h0, -⟩ | ⟨g', cap', cur, h1, hb, hg, hn, hc, hs, ht⟩⟩ := h
  · cases h0
  · cases h1
    refine ⟨cellsOf_len _ _ _, .inr ⟨g, cap, cur, rfl, hb, hg, by omega, hc, hs, ?_⟩⟩
    have e := congrArg (List.take (n * sz)) ht
    have hle : n * sz ≤ (n + 1) * sz := Nat.mul_le_mul_right _ (by omega)
    rw [List.take_take, Nat.min_eq_left hle, cellsOf_succ, List.take_left' (cellsOf_len _ _ _)] at e
    exact e
end Go.Proofs.YtfpaihjcbpaneaaGreatDoor
namespace Go.Proofs.YtfpaihjcbpaneaaGreatDoor
open Go.RowKit D
set_option linter.unusedVariables false
/-- The blocks of the search: hours, to, now, stays, been, the site, the base, the vault, the function; the cells of been. -/
structure Bx where
  h : Nat
  t : Nat
  n : Nat
  y : Nat
  b : Nat
  s : Nat
  ba : Nat
  v : Nat
  f : Nat
  g : Nat
structure BxOk (B : Nat) (x : Bx) : Prop where
  s : B ≤ x.s
  ba : x.s < x.ba
  t : x.ba < x.t
  y : x.t < x.y
  h : x.y < x.h
  v : x.h < x.v
  g : x.v < x.g
  b : x.g < x.b
  n : x.b < x.n
  f : x.n < x.f
def bxPtrs (x : Bx) : Array Value := #[.pointer (some ⟨x.h, 0, none⟩), .pointer (some ⟨x.t, 0, none⟩), .pointer (some ⟨x.n, 0, none⟩), .pointer (some ⟨x.y, 0, none⟩), .pointer (some ⟨x.b, 0, none⟩), .pointer (some ⟨x.s, 0, none⟩), .pointer (some ⟨x.ba, 0, none⟩), .pointer (some ⟨x.v, 0, none⟩), .pointer (some ⟨x.f, 0, none⟩)]
structure SrW (w0 : World) (S : Site) (s : SSl) (base : Int) (to : Nat) (x : Bx) (been : List Nat) (now : List Sty) (st : Int × List Sty) (gn cn : Nat) (ky : Sl) (W : World) : Prop where
  bel : Below w0.heap.size w0 W
  hours : W.heap[x.h]? = some (.cells #[.int .i64 st.1] 3 (0, 0))
  to_ : W.heap[x.t]? = some (.cells #[.int .i64 (to : Int)] 3 (0, 0))
  nowB : W.heap[x.n]? = some (.cells #[.slice (some ⟨gn, 0, none⟩) now.length cn] 51 (0, 0))
  nowO : OwnR W w0.heap.size 93 2 (.slice (some ⟨gn, 0, none⟩) now.length cn) now.length (syC now)
  stays : W.heap[x.y]? = some (.cells #[.slice ky.a st.2.length ky.cap] 51 (0, 0))
  staysO : OwnR W w0.heap.size 93 2 (.slice ky.a st.2.length ky.cap) st.2.length (syC st.2)
  sep : ky.a ≠ some ⟨gn, 0, none⟩
  beenB : W.heap[x.b]? = some (.cells #[.slice (some ⟨x.g, 0, none⟩) S.rooms.length S.rooms.length] 100 (0, 0))
  beenO : OwnR W w0.heap.size 4 1 (.slice (some ⟨x.g, 0, none⟩) S.rooms.length S.rooms.length) S.rooms.length (fun i _ => .bool (been.contains i))
  site : W.heap[x.s]? = some (Obj.cells #[.slice s.r.a S.rooms.length s.r.cap, .slice s.c.a S.cans.length s.c.cap, .int .i64 S.rlo, .int .i64 S.rhi, .slice s.p.a S.steps.length s.p.cap] 28)
  base_ : W.heap[x.ba]? = some (.cells #[.int .i64 base] 3 (0, 0))
  vlt : W.heap[x.v]? = some (Obj.cells #[.slice s.r.a S.rooms.length s.r.cap, .slice s.c.a S.cans.length s.c.cap, .int .i64 S.rlo, .int .i64 S.rhi, .slice s.p.a S.steps.length s.p.cap, (.slice none 0 0)] 76)
  srch : W.heap[x.f]? = some (.cells #[.func (.func 50) #[] (bxPtrs x)] 101 (0, 0))
variable {w0 W W' : World} {S : Site} {s : SSl} {base : Int} {to : Nat} {x : Bx} {been : List Nat} {now : List Sty} {st : Int × List Sty} {gn cn : Nat} {ky : Sl}
theorem SrW.vlt_ (h : SrW w0 S s base to x been now st gn cn ky W) (hS : SiteAt w0 S s) : VltAt W S s x.v [] ⟨none, 0⟩ := ⟨h.vlt, hS.below h.bel, ⟨Nat.le_refl _, by decide, fun i j hi _ => absurd hi (Nat.not_lt_zero i)⟩⟩
theorem SrW.ext (h : SrW w0 S s base to x been now st gn cn ky W) (hE : Ext2 W W') : SrW w0 S s base to x been now st gn cn ky W' :=
  ⟨below_ext h.bel hE, hE.blk h.hours, hE.blk h.to_, hE.blk h.nowB, h.nowO.below hE, hE.blk h.stays, h.staysO.below hE, h.sep, hE.blk h.beenB, h.beenO.below hE, hE.blk h.site, hE.blk h.base_, hE.blk h.vlt, hE.blk h.srch⟩
/-- A room is marked, or its mark is taken away. -/
theorem SrW.mark {been' : List Nat} {r : Nat} {u : Bool} (h : SrW w0 S s base to x been now st gn cn ky W) (hx : BxOk w0.heap.size x) (hr : r < S.rooms.length) (hb : ∀ i, i < S.rooms.length → been'.contains i = if i = r then u else been.contains i) :
    SrW w0 S s base to x been' now st gn cn ky (W.setCell ⟨x.g, r, none⟩ (.bool u)) := by
  obtain ⟨cur, xg⟩ := ownR_cells h.beenO (k := x.g) rfl
  have hxs := hx
  obtain ⟨h1, h2, h3, h4, h5, h6, h7, h8, h9, h10⟩ := hxs
  have hs : Sd w0.heap.size [4] W (W.setCell ⟨x.g, r, none⟩ (.bool u)) := Sd.set xg (List.mem_singleton.2 rfl) (by omega) _
  exact ⟨h.bel.trans hs.bel, hs.keep _ _ _ _ h.hours (by decide), hs.keep _ _ _ _ h.to_ (by decide), hs.keep _ _ _ _ h.nowB (by decide), h.nowO.sd hs (by decide), hs.keep _ _ _ _ h.stays (by decide), h.staysO.sd hs (by decide), h.sep,
    hs.keep _ _ _ _ h.beenB (by decide), OwnR.set1 h.beenO hr _ (fun i hi => by rw [hb i hi]; by_cases hir : i = r <;> simp [hir]), hs.keep _ _ _ _ h.site (by decide), hs.keep _ _ _ _ h.base_ (by decide), hs.keep _ _ _ _ h.vlt (by decide), hs.keep _ _ _ _ h.srch (by decide)⟩
/-- The list of stays grows by one. -/
theorem SrW.push {o : Obj} {a : Sty} {g' c' : Nat} (h : SrW w0 S s base to x been now st gn cn ky W) (hx : BxOk w0.heap.size x) (hg : (W.alloc o).grownBy W' (some gn)) (hO : OwnR W' w0.heap.size 93 2 (.slice (some ⟨g', 0, none⟩) (now.length + 1) c') (now.length + 1) (upd (syC now) now.length [.int .i64 a.room, .int .i64 a.hours])) (hw : g' = gn ∨ g' = (W.alloc o).heap.size) :
    SrW w0 S s base to x been (now ++ [a]) st g' c' ky (W'.setCell ⟨x.n, 0, none⟩ (.slice (some ⟨g', 0, none⟩) (now.length + 1) c')) := by
  have hgO : (W.alloc o).grownBy W' (Value.slice (some ⟨gn, 0, none⟩) now.length cn).ownBlock := hg
  have k : ∀ {b : Nat} {cs : Array Value} {t : TypeId} {f : Nat × Nat}, W.heap[b]? = some (.cells cs t f) → t ≠ 93 → W'.heap[b]? = some (.cells cs t f) := fun hb ht => app_blk h.nowO hgO hb ht
  have hB : Below w0.heap.size w0 W' := below_app h.bel h.nowO h.bel.size hgO
  have hky : OwnR W' w0.heap.size 93 2 (.slice ky.a st.2.length ky.cap) st.2.length (syC st.2) := by
    refine (h.staysO.below (below_alloc' W o)).kept hg ?_
    rcases h.staysO.forms with ⟨h0, -⟩ | ⟨g, cap, h0, -⟩
    · rw [h0]; exact .inl rfl
    · rw [h0]
      refine .inr fun he => h.sep ?_
      have e1 : g = gn := by simpa [Value.ownBlock] using he
      rw [← e1]
      have h2 : Value.slice ky.a st.2.length ky.cap = Value.slice (some ⟨g, 0, none⟩) st.2.length cap := h0
      injection h2
  have hsep : ky.a ≠ some ⟨g', 0, none⟩ := by
    rcases hw with rfl | rfl
    · exact h.sep
    · intro he
      rcases h.staysO.forms with ⟨h0, -⟩ | ⟨g, cap, h0, -, -, -, hrw, -⟩
      · have h2 : Value.slice ky.a st.2.length ky.cap = Value.slice none 0 0 := h0
        injection h2 with h3
        rw [h3] at he; cases he
      · have h2 : Value.slice ky.a st.2.length ky.cap = Value.slice (some ⟨g, 0, none⟩) st.2.length cap := h0
        injection h2 with h3
        rw [h3] at he
        simp only [Option.some.injEq, Addr.mk.injEq, and_true] at he
        have := hrw.1
        rw [World.size_alloc] at he
        omega
  obtain ⟨h1, h2, h3, h4, h5, h6, h7, h8, h9, h10⟩ := hx
  have xn := k h.nowB (by decide)
  have hs : Sd w0.heap.size [51] W' (W'.setCell ⟨x.n, 0, none⟩ (.slice (some ⟨g', 0, none⟩) (now.length + 1) c')) := Sd.set xn (List.mem_singleton.2 rfl) (by omega) _
  refine ⟨hB.trans hs.bel, hs.keep _ _ _ _ (k h.hours (by decide)) (by decide), hs.keep _ _ _ _ (k h.to_ (by decide)) (by decide), ?_, ?_, blk_set_ne (k h.stays (by decide)) (by omega), hky.sd hs (by decide), hsep,
    hs.keep _ _ _ _ (k h.beenB (by decide)) (by decide), (own_app h.nowO hgO h.beenO (by decide)).sd hs (by decide), hs.keep _ _ _ _ (k h.site (by decide)) (by decide), hs.keep _ _ _ _ (k h.base_ (by decide)) (by decide), hs.keep _ _ _ _ (k h.vlt (by decide)) (by decide), hs.keep _ _ _ _ (k h.srch (by decide)) (by decide)⟩
  · rw [List.length_append, List.length_singleton]; exact Eq.trans (blk_set xn 0 _) rfl
  · rw [List.length_append, List.length_singleton]
    refine OwnR.sd hs (hO.congr fun i j hi hj => ?_) (by decide)
    by_cases hil : i = now.length
    · subst hil
      rw [upd_at]
      have e : syD (now ++ [a]) now.length = a := by simp [syD]
      rcases (by omega : j = 0 ∨ j = 1) with rfl | rfl <;> simp [syC, e]
    · rw [upd_lt (by omega)]
      have e : syD (now ++ [a]) i = syD now i := by unfold syD; rw [List.getD_eq_getElem?_getD, List.getD_eq_getElem?_getD, List.getElem?_append_left (by omega)]
      rcases (by omega : j = 0 ∨ j = 1) with rfl | rfl <;> simp [syC, e]
/-- The last stay is taken away. -/
theorem SrW.pop {a : Sty} (h : SrW w0 S s base to x been (now ++ [a]) st gn cn ky W) (hx : BxOk w0.heap.size x) :
    SrW w0 S s base to x been now st gn cn ky (W.setCell ⟨x.n, 0, none⟩ (.slice (some ⟨gn, 0, none⟩) now.length cn)) := by
  obtain ⟨h1, h2, h3, h4, h5, h6, h7, h8, h9, h10⟩ := hx
  have hs : Sd w0.heap.size [51] W (W.setCell ⟨x.n, 0, none⟩ (.slice (some ⟨gn, 0, none⟩) now.length cn)) := Sd.set h.nowB (List.mem_singleton.2 rfl) (by omega) _
  have hO := h.nowO
  rw [List.length_append, List.length_singleton] at hO
  refine ⟨h.bel.trans hs.bel, hs.keep _ _ _ _ h.hours (by decide), hs.keep _ _ _ _ h.to_ (by decide), Eq.trans (blk_set h.nowB 0 _) rfl, ?_, blk_set_ne h.stays (by omega), h.staysO.sd hs (by decide), h.sep,
    hs.keep _ _ _ _ h.beenB (by decide), h.beenO.sd hs (by decide), hs.keep _ _ _ _ h.site (by decide), hs.keep _ _ _ _ h.base_ (by decide), hs.keep _ _ _ _ h.vlt (by decide), hs.keep _ _ _ _ h.srch (by decide)⟩
  refine OwnR.sd hs ((own_pop hO).congr fun i j hi hj => ?_) (by decide)
  have e : syD (now ++ [a]) i = syD now i := by unfold syD; rw [List.getD_eq_getElem?_getD, List.getD_eq_getElem?_getD, List.getElem?_append_left (by omega)]
  rcases (by omega : j = 0 ∨ j = 1) with rfl | rfl <;> simp [syC, e]
/-- A better way is found. -/
theorem SrW.best {sum : Int} {l : List Sty} {g' c' : Nat} (h : SrW w0 S s base to x been now st gn cn ky W) (hx : BxOk w0.heap.size x) (hO : OwnR W w0.heap.size 93 2 (.slice (some ⟨g', 0, none⟩) l.length c') l.length (syC l)) (hne : g' ≠ gn) :
    SrW w0 S s base to x been now (sum, l) gn cn ⟨some ⟨g', 0, none⟩, c'⟩ ((W.setCell ⟨x.h, 0, none⟩ (.int .i64 sum)).setCell ⟨x.y, 0, none⟩ (.slice (some ⟨g', 0, none⟩) l.length c')) := by
  obtain ⟨h1, h2, h3, h4, h5, h6, h7, h8, h9, h10⟩ := hx
  have s1 : Sd w0.heap.size [3, 51] W (W.setCell ⟨x.h, 0, none⟩ (.int .i64 sum)) := Sd.set h.hours (List.mem_cons_self ..) (by omega) _
  have y1 := blk_set_ne (b' := x.h) (o := 0) (v := .int .i64 sum) h.stays (by omega)
  have hs := s1.trans (Sd.set (o := 0) y1 (by simp) (by omega) (.slice (some ⟨g', 0, none⟩) l.length c'))
  refine ⟨h.bel.trans hs.bel, blk_set_ne (Eq.trans (blk_set h.hours 0 _) rfl) (by omega), blk_set_ne (blk_set_ne h.to_ (by omega)) (by omega), blk_set_ne (blk_set_ne h.nowB (by omega)) (by omega), h.nowO.sd hs (by decide), Eq.trans (blk_set y1 0 _) rfl, hO.sd hs (by decide), fun he => by cases he; exact hne rfl,
    hs.keep _ _ _ _ h.beenB (by decide), h.beenO.sd hs (by decide), hs.keep _ _ _ _ h.site (by decide), blk_set_ne (blk_set_ne h.base_ (by omega)) (by omega), hs.keep _ _ _ _ h.vlt (by decide), hs.keep _ _ _ _ h.srch (by decide)⟩
/-- The types of the cells that the search writes. -/
def SrT : List TypeId := [3, 51, 93, 4]
theorem SrW.mark_sd (h : SrW w0 S s base to x been now st gn cn ky W) (hx : BxOk w0.heap.size x) (r : Nat) (u : Value) : Sd w0.heap.size SrT W (W.setCell ⟨x.g, r, none⟩ u) := by
  obtain ⟨cur, xg⟩ := ownR_cells h.beenO (k := x.g) rfl
  obtain ⟨h1, h2, h3, h4, h5, h6, h7, h8, h9, h10⟩ := hx
  exact Sd.set xg (by decide) (by omega) _
theorem SrW.pop_sd (h : SrW w0 S s base to x been now st gn cn ky W) (hx : BxOk w0.heap.size x) (u : Value) : Sd w0.heap.size SrT W (W.setCell ⟨x.n, 0, none⟩ u) := by
  obtain ⟨h1, h2, h3, h4, h5, h6, h7, h8, h9, h10⟩ := hx
  exact Sd.set h.nowB (by decide) (by omega) _
theorem SrW.push_sd {o : Obj} (h : SrW w0 S s base to x been now st gn cn ky W) (hx : BxOk w0.heap.size x) (hg : (W.alloc o).grownBy W' (some gn)) (u : Value) : Sd w0.heap.size SrT W (W'.setCell ⟨x.n, 0, none⟩ u) := by
  obtain ⟨h1, h2, h3, h4, h5, h6, h7, h8, h9, h10⟩ := hx
  have hgO : (W.alloc o).grownBy W' (Value.slice (some ⟨gn, 0, none⟩) now.length cn).ownBlock := hg
  have s1 : Sd w0.heap.size SrT W W' := ⟨below_app (Below.refl _ _) h.nowO h.bel.size hgO, fun g cs e f hb he => app_blk h.nowO hgO hb (fun h0 => he (by rw [h0]; decide))⟩
  exact s1.trans (Sd.set (app_blk h.nowO hgO h.nowB (by decide)) (by decide) (by omega) _)
theorem SrW.best_sd (h : SrW w0 S s base to x been now st gn cn ky W) (hx : BxOk w0.heap.size x) (u v : Value) : Sd w0.heap.size SrT W ((W.setCell ⟨x.h, 0, none⟩ u).setCell ⟨x.y, 0, none⟩ v) := by
  obtain ⟨h1, h2, h3, h4, h5, h6, h7, h8, h9, h10⟩ := hx
  exact (Sd.set h.hours (by decide) (by omega) _).trans (Sd.set (blk_set_ne (b' := x.h) (o := 0) (v := u) h.stays (by omega)) (by decide) (by omega) _)
end Go.Proofs.YtfpaihjcbpaneaaGreatDoor
