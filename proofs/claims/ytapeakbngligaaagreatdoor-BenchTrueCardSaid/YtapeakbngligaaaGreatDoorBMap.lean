/-
  Maps by what they hold: out of the vault chapter.
-/
import Derived.Test.YtapeakbngligaaaGreatDoorBKit
import Derived.WalkKit
import Derived.WalkLawsBesides
import Derived.MapKept
import Derived.Maps.Own
import Derived.Below
import Derived.Test.YtapeakbngligaaaGreatDoorProg
namespace Go.Proofs.YtapeakbngligaaaGreatDoor
open Go.MapKept Go.RowKit
set_option linter.unusedVariables false
set_option linter.unusedSimpArgs false
/-- A type of keys that are told apart by what they are. -/
structure KeyT (P : Program) (kt : TypeId) (K : Value → Prop) : Prop where
  check : ∀ e k (w : World), K k → (Instr.checkKey e 10000 kt k).run P w = .ok () w
  find : ∀ k (es : List MapEntry) (w : World), K k → (∀ x ∈ es, K x.key) → ∃ r, (Instr.findKey kt k es).run P w = .ok r w ∧ ((r = none ∧ ∀ x ∈ es, x.key ≠ k) ∨ ∃ (j : Nat) (e : MapEntry), r = some (j, e.val) ∧ es[j]? = some e ∧ e.key = k)
  stays : ∀ k (w : World), K k → (Instr.keyThatStays k k).run P w = .ok k w
/-- Block b is a map: at a key k it has f k. -/
structure MapV (K : Value → Prop) (w : World) (b : Nat) (f : Value → Option Value) : Prop where
  at_ : ∃ (es : Array MapEntry) (clock : Nat), w.heap[b]? = some (.map es clock) ∧ (∀ x ∈ es.toList, K x.key) ∧ (∀ (i j : Nat) (x y : MapEntry), es[i]? = some x → es[j]? = some y → x.key = y.key → i = j) ∧ (∀ k v, K k → (f k = some v ↔ ∃ x ∈ es.toList, x.key = k ∧ x.val = v)) ∧ (∀ x ∈ es.toList, x.born < clock) ∧ (es.toList.map (·.born)).Nodup
theorem MapV.lt {K : Value → Prop} {w : World} {b : Nat} {f : Value → Option Value} (h : MapV K w b f) : b < w.heap.size := by
  obtain ⟨es, c, hb, _⟩ := h.at_
  exact (Array.getElem?_eq_some_iff.1 hb).1
theorem MapV.kept {K : Value → Prop} {w w' : World} {b : Nat} {f : Value → Option Value} (h : MapV K w b f) (hb : w'.heap[b]? = w.heap[b]?) : MapV K w' b f := by
  obtain ⟨es, c, h1, h2⟩ := h.at_
  exact ⟨es, c, hb.trans h1, h2⟩
theorem MapV.congr {K : Value → Prop} {w : World} {b : Nat} {f g : Value → Option Value} (h : MapV K w b f) (hg : ∀ k, K k → g k = f k) : MapV K w b g := by
  obtain ⟨es, c, h1, h2, h3, h4, h5, h6⟩ := h.at_
  exact ⟨es, c, h1, h2, h3, fun k v hk => by rw [hg k hk]; exact h4 k v hk, h5, h6⟩
theorem MapV.made (K : Value → Prop) {w : World} {b : Nat} {c : Nat} (h : w.heap[b]? = some (.map #[] c)) : MapV K w b (fun _ => none) :=
  ⟨#[], c, h, by simp, by simp, fun k v _ => by simp, by simp, by simp⟩
theorem MapV.lookup {P : Program} {t kt et : TypeId} {K : Value → Prop} {w : World} {b : Nat} {f : Value → Option Value} {z : Value} (h : MapV K w b f) (hK : KeyT P kt K) (ht : P.underlying t = some (.map kt et)) (hz : (zeroValue et).run P w = .ok z w) {k : Value} (hk : K k) (ok : Bool) :
    (Instr.lookup t (.map (some b)) k ok).run P w = .ok (if ok then .tuple #[(f k).getD z, .bool (f k).isSome] else (f k).getD z) w := by
  obtain ⟨es, c, h1, h2, h3, h4, h5, h6⟩ := h.at_
  obtain ⟨r, hr, hcase⟩ := hK.find k es.toList w hk h2
  have hf : match r with | none => f k = none | some q => f k = some q.2 := by
    rcases hcase with ⟨rfl, hn⟩ | ⟨j, e, rfl, hj, he⟩
    · show f k = none
      cases hfk : f k with
      | none => rfl
      | some v =>
        obtain ⟨x, hx, hxk, _⟩ := (h4 k v hk).1 hfk
        exact absurd hxk (hn x hx)
    · show f k = some e.val
      exact (h4 k e.val hk).2 ⟨e, List.mem_of_getElem? hj, he, rfl⟩
  unfold Instr.lookup
  simp only [Sem.run_bind, run_underlying ht, Result.andThen, MapKept.run_getObj_map h1, Sem.run_pure, hK.check _ _ _ hk, hr]
  cases r with
  | none =>
    simp only at hf
    simp only [Sem.run_bind, hz, Result.andThen, Sem.run_pure, hf]
    cases ok <;> rfl
  | some q =>
    simp only at hf
    simp only [Sem.run_pure, Result.andThen, hf]
    cases ok <;> rfl
open Classical in
/-- What a store makes of what a map holds. -/
noncomputable def updM (f : Value → Option Value) (k v : Value) : Value → Option Value := fun x => if x = k then some v else f x
theorem updM_same (f : Value → Option Value) (k v : Value) : updM f k v k = some v := if_pos rfl
theorem updM_other {f : Value → Option Value} {k v x : Value} (h : x ≠ k) : updM f k v x = f x := if_neg h
theorem MapV.store {P : Program} {t kt et : TypeId} {K : Value → Prop} {w : World} {b : Nat} {f : Value → Option Value} (h : MapV K w b f) (hK : KeyT P kt K) (ht : P.underlying t = some (.map kt et)) {k : Value} (hk : K k) (v : Value) :
    ∃ o, (Instr.mapUpdate t (.map (some b)) k v).run P w = .ok () { w with heap := w.heap.setIfInBounds b o } ∧ MapV K { w with heap := w.heap.setIfInBounds b o } b (updM f k v) := by
  have hlt := h.lt
  obtain ⟨es, c, h1, h2, h3, h4, h5, h6⟩ := h.at_
  obtain ⟨r, hr, hcase⟩ := hK.find k es.toList w hk h2
  have hset : ∀ o : Obj, ({ w with heap := w.heap.setIfInBounds b o } : World).heap[b]? = some o := fun o => by simp [hlt]
  rcases hcase with ⟨rfl, hn⟩ | ⟨j, e, rfl, hj, he⟩
  · refine ⟨.map (es.push { key := k, val := v, born := c }) (c + 1), ?_, ⟨_, _, hset _, ?_, ?_, ?_, ?_, ?_⟩⟩
    · unfold Instr.mapUpdate
      simp only [Sem.run_bind, run_underlying ht, Result.andThen, MapKept.run_getObj_map h1, hK.check _ _ _ hk, hr]
      exact MapKept.run_setObj_map _ h1
    · intro x hx
      simp only [Array.toList_push, List.mem_append, List.mem_singleton] at hx
      rcases hx with hx | rfl
      · exact h2 x hx
      · exact hk
    · intro i j x y hi hj hxy
      rw [Array.getElem?_push] at hi hj
      split at hi <;> split at hj
      · omega
      · rename_i e1 e2
        have hx : x.key = k := by simp only [Option.some.injEq] at hi; rw [← hi]
        exact absurd (hxy.symm.trans hx) (hn y (by have := Array.mem_of_getElem? hj; simpa using this))
      · rename_i e1 e2
        have hy : y.key = k := by simp only [Option.some.injEq] at hj; rw [← hj]
        exact absurd (hxy.trans hy) (hn x (by have := Array.mem_of_getElem? hi; simpa using this))
      · exact h3 i j x y hi hj hxy
    · intro k' v' hk'
      by_cases hkk : k' = k
      · subst hkk
        rw [updM_same]
        constructor
        · intro hv
          exact ⟨_, by simp only [Array.toList_push, List.mem_append, List.mem_singleton]; exact .inr rfl, rfl, by simpa using hv⟩
        · rintro ⟨x, hx, hxk, rfl⟩
          simp only [Array.toList_push, List.mem_append, List.mem_singleton] at hx
          rcases hx with hx | rfl
          · exact absurd hxk (hn x hx)
          · rfl
      · rw [updM_other hkk, h4 k' v' hk']
        constructor
        · rintro ⟨x, hx, h5⟩
          exact ⟨x, by simp only [Array.toList_push, List.mem_append]; exact .inl hx, h5⟩
        · rintro ⟨x, hx, hxk, hxv⟩
          simp only [Array.toList_push, List.mem_append, List.mem_singleton] at hx
          rcases hx with hx | rfl
          · exact ⟨x, hx, hxk, hxv⟩
          · exact absurd hxk.symm hkk
    · intro x hx
      simp only [Array.toList_push, List.mem_append, List.mem_singleton] at hx
      rcases hx with hx | rfl
      · have := h5 x hx; omega
      · exact Nat.lt_succ_self _
    · rw [Array.toList_push, List.map_append, List.nodup_append]
      refine ⟨h6, by simp, fun p hp q hq => ?_⟩
      obtain ⟨x, hx, rfl⟩ := List.mem_map.1 hp
      obtain rfl : q = c := by simpa using hq
      have := h5 x hx; omega
  · have hj' : es[j]? = some e := by simpa using hj
    have hjlt : j < es.size := (Array.getElem?_eq_some_iff.1 hj').1
    have hmod : ∀ i, (es.modify j fun e => { e with key := k, val := v })[i]? = if i = j then some { e with key := k, val := v } else es[i]? := fun i => by
      rw [Array.getElem?_modify]
      by_cases hij : i = j
      · subst hij; simp [hj']
      · rw [if_neg (fun h => hij h.symm), if_neg hij]
    refine ⟨.map (es.modify j fun e => { e with key := k, val := v }) c, ?_, ⟨_, _, hset _, ?_, ?_, ?_, ?_, ?_⟩⟩
    · unfold Instr.mapUpdate
      simp only [Sem.run_bind, run_underlying ht, Result.andThen, MapKept.run_getObj_map h1, hK.check _ _ _ hk, hr]
      rw [show ((es[j]?).map (·.key)).getD k = k by rw [hj']; exact he]
      simp only [hK.stays k _ hk]
      exact MapKept.run_setObj_map _ h1
    · intro x hx
      obtain ⟨i, hi⟩ := Array.mem_iff_getElem?.1 (Array.mem_toList_iff.1 hx)
      rw [hmod] at hi
      split at hi
      · simp only [Option.some.injEq] at hi; rw [← hi]; exact hk
      · exact h2 x (Array.mem_toList_iff.2 (Array.mem_of_getElem? hi))
    · intro i i' x y hi hi' hxy
      rw [hmod] at hi hi'
      split at hi <;> split at hi'
      · omega
      · rename_i e1 e2
        simp only [Option.some.injEq] at hi
        rw [← hi] at hxy
        exact absurd (h3 j i' e y hj' hi' (by rw [he]; exact hxy)) (fun h => e2 h.symm)
      · rename_i e1 e2
        simp only [Option.some.injEq] at hi'
        rw [← hi'] at hxy
        exact absurd (h3 i j x e hi hj' (by rw [he]; exact hxy)) e1
      · exact h3 i i' x y hi hi' hxy
    · intro k' v' hk'
      by_cases hkk : k' = k
      · subst hkk
        rw [updM_same]
        constructor
        · intro hv
          refine ⟨{ e with key := k', val := v }, Array.mem_toList_iff.2 (Array.mem_iff_getElem?.2 ⟨j, by rw [hmod, if_pos rfl]⟩), rfl, by simpa using hv⟩
        · rintro ⟨x, hx, hxk, rfl⟩
          obtain ⟨i, hi⟩ := Array.mem_iff_getElem?.1 (Array.mem_toList_iff.1 hx)
          rw [hmod] at hi
          split at hi
          · simp only [Option.some.injEq] at hi; rw [← hi]
          · rename_i e1
            exact absurd (h3 i j x e hi hj' (by rw [hxk, he])) e1
      · rw [updM_other hkk, h4 k' v' hk']
        constructor
        · rintro ⟨x, hx, hxk, hxv⟩
          obtain ⟨i, hi⟩ := Array.mem_iff_getElem?.1 (Array.mem_toList_iff.1 hx)
          have hij : i ≠ j := fun hij => by
            subst hij
            rw [hj'] at hi
            simp only [Option.some.injEq] at hi
            exact hkk (by rw [← hxk, ← hi, he])
          exact ⟨x, Array.mem_toList_iff.2 (Array.mem_iff_getElem?.2 ⟨i, by rw [hmod, if_neg hij]; exact hi⟩), hxk, hxv⟩
        · rintro ⟨x, hx, hxk, hxv⟩
          obtain ⟨i, hi⟩ := Array.mem_iff_getElem?.1 (Array.mem_toList_iff.1 hx)
          rw [hmod] at hi
          split at hi
          · simp only [Option.some.injEq] at hi
            rw [← hi] at hxk
            exact absurd hxk.symm hkk
          · exact ⟨x, Array.mem_toList_iff.2 (Array.mem_of_getElem? hi), hxk, hxv⟩
    · intro x hx
      obtain ⟨i, hi⟩ := Array.mem_iff_getElem?.1 (Array.mem_toList_iff.1 hx)
      rw [hmod] at hi
      split at hi
      · simp only [Option.some.injEq] at hi; rw [← hi]; exact h5 e (List.mem_of_getElem? hj)
      · exact h5 x (Array.mem_toList_iff.2 (Array.mem_of_getElem? hi))
    · have hb : ((es.modify j fun e => { e with key := k, val := v }).toList.map (·.born)) = es.toList.map (·.born) := by
        apply List.ext_getElem?
        intro i
        rw [List.getElem?_map, List.getElem?_map, Array.getElem?_toList, Array.getElem?_toList, hmod]
        by_cases hij : i = j
        · subst hij; rw [if_pos rfl, hj']; rfl
        · rw [if_neg hij]
      rw [hb]; exact h6
/-- A store into a map, at the operation. -/
theorem wpList_store {P : Program} {w : World} {ops : Array Oper} {rest : List Oper} {o : Oper} {a : Act} {Q : Exit → Act → World → Prop} (hg : o.guard = none) (m x v : Operand) (t : TypeId) (hop : o.op = Op.mapUpdate t m x v)
    (kt et : TypeId) {K : Value → Prop} (hK : KeyT P kt K) (ht : P.underlying t = some (.map kt et)) (b : Nat) {f : Value → Option Value} (hm : a.eval m = .map (some b)) (hown : MapV K w b f) (key val : Value) (hx : a.eval x = key) (hv : a.eval v = val) (hkey : K key)
    (h : ∀ o' : Obj, MapV K { w with heap := w.heap.setIfInBounds b o' } b (updM f key val) → wpList P ops Q rest (a.put o.dst undef) { w with heap := w.heap.setIfInBounds b o' }) : wpList P ops Q (o :: rest) a w := by
  refine wpList_plain hg fun K' hK' => ?_
  obtain ⟨o', hrun, r1⟩ := hown.store hK ht hkey val
  unfold Oper.wp
  simp [execOp, hop, hm, hx, hv, hrun, Result.andThen]
  exact hK' _ _ (h o' r1)
/-- A note's name as a key. -/
def K2 (v : Value) : Prop := ∃ (a : ByteArray) (b : Int), v = .agg #[.string a, .int .i64 b]
theorem k2_mk (a : ByteArray) (b : Int) : K2 (.agg #[.string a, .int .i64 b]) := ⟨a, b, rfl⟩
theorem part0 (a : ByteArray) (b : Int) (w : World) : (part 9 #[.string a, .int .i64 b] 0).run Tryz.prog w = .ok (.string a) w := by kernel_rfl
theorem part1 (a : ByteArray) (b : Int) (w : World) : (part 3 #[.string a, .int .i64 b] 1).run Tryz.prog w = .ok (.int .i64 b) w := by kernel_rfl
theorem k2_check (e : Bool) (k : Value) (w : World) (h : K2 k) : (Instr.checkKey e 10000 134 k).run Tryz.prog w = .ok () w := by
  obtain ⟨a, b, rfl⟩ := h
  show (Instr.checkKey e (9999 + 1) _ _).run Tryz.prog w = _
  unfold Instr.checkKey
  have c0 : ∀ (x : ByteArray) (w : World), (Instr.checkKey e 9999 9 (.string x)).run Tryz.prog w = .ok () w := fun x w => run_checkKey (d := .string) Tryz.underlying9 (by simp [IsKey]) e 9998
  have c1 : ∀ (x : Int) (w : World), (Instr.checkKey e 9999 3 (.int .i64 x)).run Tryz.prog w = .ok () w := fun x w => run_checkKey (d := .int .i64) Tryz.underlying3 (by simp [IsKey]) e 9998
  simp [run_underlying Tryz.underlying134, Result.andThen, part0, part1, c0, c1]
theorem str_same {a c : ByteArray} : (a.toList == c.toList) = true ↔ a = c := by rw [D.beq_list]; exact D.sameS_iff
theorem eq_int (x y : Int) (w : World) : (Op.equalIn 9999 3 (.int .i64 x) (.int .i64 y)).run Tryz.prog w = .ok (x == y) w := by
  show (Op.equalIn (9998 + 1) _ _ _).run Tryz.prog w = _
  unfold Op.equalIn
  simp [run_underlying Tryz.underlying3, Result.andThen]
theorem eq_str (x y : ByteArray) (w : World) : (Op.equalIn 9999 9 (.string x) (.string y)).run Tryz.prog w = .ok (x.toList == y.toList) w := by
  show (Op.equalIn (9998 + 1) _ _ _).run Tryz.prog w = _
  unfold Op.equalIn
  have hb : (x == y) = (x.toList == y.toList) := by
    rw [Bool.eq_iff_iff, str_same]
    exact MapKept.bytes_beq _ _
  simp [run_underlying Tryz.underlying9, Result.andThen, hb]
theorem k2_eq (a c : ByteArray) (b d : Int) (w : World) : (Op.equal 134 (.agg #[.string a, .int .i64 b]) (.agg #[.string c, .int .i64 d])).run Tryz.prog w = .ok ((a.toList == c.toList) && (b == d)) w := by
  show (Op.equalIn (9999 + 1) _ _ _).run Tryz.prog w = _
  unfold Op.equalIn
  have hs : (Tryz.prog).stoodInHeld 134 = false := by kernel_rfl
  cases h1 : (a.toList == c.toList)
  · simp [run_underlying Tryz.underlying134, Result.andThen, part0, part1, eq_int, eq_str, hs, h1]
  · cases h2 : (b == d)
    · simp [run_underlying Tryz.underlying134, Result.andThen, part0, part1, eq_int, eq_str, hs, h1, h2]
    · simp [run_underlying Tryz.underlying134, Result.andThen, part0, part1, eq_int, eq_str, hs, h1, h2]
theorem k2_ask (a : ByteArray) (b : Int) (w : World) : ∀ (es : List MapEntry) (i : Nat), (∀ x ∈ es, K2 x.key) → ∃ r, (Instr.findAsking 134 (.agg #[.string a, .int .i64 b]) es i).run Tryz.prog w = .ok r w ∧ ((r = none ∧ ∀ x ∈ es, x.key ≠ .agg #[.string a, .int .i64 b]) ∨ ∃ (j : Nat) (e : MapEntry), r = some (i + j, e.val) ∧ es[j]? = some e ∧ e.key = .agg #[.string a, .int .i64 b])
  | [], _, _ => ⟨none, rfl, .inl ⟨rfl, by simp⟩⟩
  | e :: es, i, h => by
    obtain ⟨c, d, hk⟩ := h e (.head _)
    unfold Instr.findAsking
    simp only [Sem.run_bind, hk, k2_eq, Result.andThen]
    by_cases h1 : a = c ∧ b = d
    · obtain ⟨rfl, rfl⟩ := h1
      refine ⟨some (i, e.val), by simp, .inr ⟨0, e, rfl, rfl, hk⟩⟩
    · have hf : (a.toList == c.toList && b == d) = false := by
        rw [Bool.and_eq_false_iff]
        by_cases h2 : a = c
        · exact .inr (by simp; exact fun h3 => h1 ⟨h2, h3⟩)
        · refine .inl ?_
          cases hx : (a.toList == c.toList)
          · rfl
          · exact absurd (str_same.1 hx) h2
      obtain ⟨r, hr, hcase⟩ := k2_ask a b w es (i + 1) (fun x hx => h x (.tail _ hx))
      refine ⟨r, by simpa [hf] using hr, ?_⟩
      rcases hcase with ⟨rfl, hn⟩ | ⟨j, e', rfl, hj, he⟩
      · refine .inl ⟨rfl, fun x hx => ?_⟩
        cases hx with
        | head => rw [hk]; intro he; simp at he; exact h1 ⟨he.1.symm, he.2.symm⟩
        | tail _ hx => exact hn x hx
      · exact .inr ⟨j + 1, e', by simp; omega, by simpa using hj, he⟩
theorem keyT_note : KeyT Tryz.prog 134 K2 where
  check e k w h := k2_check e k w h
  find k es w hk hes := by
    obtain ⟨a, b, rfl⟩ := hk
    obtain ⟨r, hr, hcase⟩ := k2_ask a b w es 0 hes
    refine ⟨r, ?_, ?_⟩
    · cases es with
      | nil => simpa [Instr.findKey, Instr.findNow, Instr.findAsking, run_underlying Tryz.underlying134, Result.andThen] using hr
      | cons e es =>
        obtain ⟨c, d, hk⟩ := hes e (.head _)
        unfold Instr.findKey
        simp only [Sem.run_bind, run_underlying Tryz.underlying134, Result.andThen]
        simpa [Instr.findNow, Instr.sameNow] using hr
    · rcases hcase with h | ⟨j, e, h1, h2⟩
      · exact .inl h
      · exact .inr ⟨j, e, by rw [h1, Nat.zero_add], h2⟩
  stays k w hk := by
    obtain ⟨a, b, rfl⟩ := hk
    have hs : Instr.sameBits 10000 (.agg #[.string a, .int .i64 b]) (.agg #[.string a, .int .i64 b]) = true := by
      show Instr.sameBits (9999 + 1) _ _ = true
      unfold Instr.sameBits
      simp
      unfold Instr.sameBits
      simp
      exact (MapKept.bytes_beq _ _).2 rfl
    simp [Instr.keyThatStays, hs]
/-- The world with another object in a block. -/
theorem setObj_other (w : World) {b c : Nat} (o : Obj) (h : c ≠ b) : ({ w with heap := w.heap.setIfInBounds b o } : World).heap[c]? = w.heap[c]? := by simp [Array.getElem?_setIfInBounds, Ne.symm h]
theorem setObj_size (w : World) (b : Nat) (o : Obj) : ({ w with heap := w.heap.setIfInBounds b o } : World).heap.size = w.heap.size := by simp
theorem below_setObj {B : Nat} {a w : World} (h : Below B a w) {b : Nat} (hb : B ≤ b) (o : Obj) : Below B a { w with heap := w.heap.setIfInBounds b o } :=
  h.trans ⟨rfl, rfl, rfl, by rw [setObj_size]; exact Nat.le_refl _, fun i hi => setObj_other w o (by omega)⟩
end Go.Proofs.YtapeakbngligaaaGreatDoor
