/-
  Plain: a task that is moved to another climate; tasks whose parts are changed are still found good.
  Rows of cells as lists, for an append of a whole slice.
-/
import Derived.Test.YtfjbgcaogffiaaaDLevA
import Derived.Test.YtfjbgcaogffiaaaDOwn
namespace Go.Proofs.Ytfjbgcaogffiaaa
open Go.RowKit D
theorem check_zero {T : Task} (h : (checkTask T).2.2 = 0) : (check T.rule).2.2 = 0 := by
  rw [checkTask] at h
  split at h
  · rename_i h1; exact absurd h h1
  · rename_i h1; exact Classical.not_not.1 h1
theorem climateE_0 {d : Day} (h : DayOk d) : climateE d = 0 := by
  rw [climateE, if_pos ⟨⟨⟨h.t0, h.t1⟩, h.d0⟩, h.d1⟩, if_neg (by have := h.t; have := h.d; omega)]
theorem levelsE_0 {lo hi : Int} (h : (0 ≤ lo ∧ lo ≤ 1000000) ∧ (0 ≤ hi ∧ hi ≤ 1000000) ∧ lo ≤ hi) : levelsE lo hi = 0 := by
  rw [levelsE, if_pos ⟨h.1, h.2.1⟩, if_neg (by omega)]
/-- A good task is found good. -/
theorem task_zero {T : Task} (hr : (check T.rule).2.2 = 0) (hk : TaskOk T) : (checkTask T).2.2 = 0 := by
  have h1 := hk.nd; have h2 := hk.nt; have h3 := hk.first
  rw [checkTask_7 ⟨hr, by omega, by omega⟩ (fun j hj => climateE_0 (hk.days j hj)) (levelsE_0 hk.start) (fun j hj => ?_)]
  obtain ⟨⟨a1, a2⟩, a3⟩ := hk.tests j hj
  exact badTest_0 a3 ⟨a1, a2⟩
def movDays (l : List Day) (k : Nat) (d : Day) : List Day := l.take k ++ List.replicate (l.length - k) d
def movTests (l : List Test) (f : Int) : List Test := l.filter fun x => decide (x.day ≤ f)
def movT (T : Task) (k : Nat) (f : Int) (d : Day) : Task := { T with days := movDays T.days k d, tests := movTests T.tests f }
theorem movDays_len {l : List Day} {k : Nat} {d : Day} (h : k ≤ l.length) : (movDays l k d).length = l.length := by simp [movDays]; omega
theorem movDays_at {l : List Day} {k i : Nat} {d : Day} (h : i < l.length) : dayD (movDays l k d) i = if i < k then dayD l i else d := by
  unfold movDays dayD
  simp only [List.getD_eq_getElem?_getD]
  by_cases hi : i < k
  · rw [if_pos hi, List.getElem?_append_left (by simp; omega), List.getElem?_take, if_pos hi]
  · rw [if_neg hi, List.getElem?_append_right (by simp; omega), List.getElem?_replicate, if_pos (by simp; omega)]; rfl
theorem test_mem {l : List Test} {j : Nat} (h : j < l.length) : testD l j ∈ l := by
  have e : testD l j = l[j] := by simp [testD, h]
  rw [e]; exact List.getElem_mem h
theorem mem_test {l : List Test} {x : Test} (h : x ∈ l) : ∃ j, j < l.length ∧ testD l j = x := by
  obtain ⟨j, hj, e⟩ := List.mem_iff_getElem.1 h
  exact ⟨j, hj, by rw [← e]; simp [testD, hj]⟩
theorem movT_ok {T : Task} {f : Int} {d : Day} (hk : TaskOk T) (h0 : T.first ≤ f) (h1 : f < T.first + T.days.length) (hd : DayOk d) : TaskOk (movT T (f - T.first).toNat f d) := by
  have hl : (movDays T.days (f - T.first).toNat d).length = T.days.length := movDays_len (by omega)
  refine ⟨hk.rule, by show (movDays _ _ _).length ≤ _; rw [hl]; exact hk.nd, Nat.le_trans (List.length_filter_le _ _) hk.nt, by show _ ∧ _ + ((movDays _ _ _).length : Int) ≤ _; rw [hl]; exact hk.first, fun j hj => ?_, hk.start, fun j hj => ?_⟩
  · have hj' : j < T.days.length := by rw [← hl]; exact hj
    show DayOk (dayD (movDays _ _ _) j)
    rw [movDays_at hj']
    split
    · exact hk.days j hj'
    · exact hd
  · show TestOk (testD (movTests T.tests f) j) ∧ T.first ≤ (testD (movTests T.tests f) j).day ∧ (testD (movTests T.tests f) j).day ≤ T.first + ((movDays _ _ _).length : Int)
    obtain ⟨i, hi, e⟩ := mem_test (List.mem_filter.1 (test_mem (show j < (movTests T.tests f).length from hj))).1
    rw [show testD (movTests T.tests f) j = testD T.tests i from e.symm, hl]
    exact hk.tests i hi
def movE (T : Task) (f : Int) (d : Day) : Int :=
  if (checkTask T).2.2 ≠ 0 then (checkTask T).2.2 else if ¬ (T.first ≤ f ∧ f < T.first + T.days.length) then 7 else climateE d
def movOut (T : Task) (f : Int) (d : Day) : Span := if movE T f d = 0 then lostT (movT T (f - T.first).toNat f d) else ⟨0, 0⟩
theorem movE_0 {T : Task} {f : Int} {d : Day} (h : movE T f d = 0) : ((checkTask T).2.2 = 0 ∧ T.first ≤ f ∧ f < T.first + T.days.length) ∧ climateE d = 0 := by
  rw [movE] at h
  split at h
  · rename_i h1; exact absurd h h1
  · rename_i h1
    split at h
    · cases h
    · rename_i h2; exact ⟨⟨Classical.not_not.1 h1, Classical.not_not.1 h2⟩, h⟩
theorem movT_zero {T : Task} {f : Int} {d : Day} (h : movE T f d = 0) : (checkTask (movT T (f - T.first).toNat f d)).2.2 = 0 := by
  obtain ⟨⟨a, b, c⟩, e⟩ := movE_0 h
  exact task_zero (T := movT T (f - T.first).toNat f d) (show (check T.rule).2.2 = 0 from check_zero a) (movT_ok (task_ok a).1 b c (day_ok e))
theorem movOut_lost {T : Task} {f : Int} {d : Day} (h : movE T f d = 0) : movOut T f d = lostOut (movT T (f - T.first).toNat f d) := by
  rw [movOut, if_pos h, lostOut, if_pos (movT_zero h)]
/-- The tests up to the k-th one that stay. -/
theorem movTests_take {l : List Test} {f : Int} {k : Nat} (h : k < l.length) : movTests (l.take (k + 1)) f = if (testD l k).day ≤ f then movTests (l.take k) f ++ [testD l k] else movTests (l.take k) f := by
  have e : testD l k = l[k] := by simp [testD, h]
  rw [List.take_succ_eq_append_getElem h, movTests, List.filter_append, ← e]
  split
  · rename_i h1; simp [movTests, h1]
  · rename_i h1; simp [movTests, h1]
theorem testD_app {l : List Test} {x : Test} {j : Nat} : testD (l ++ [x]) j = if j = l.length then x else testD l j := by
  unfold testD
  simp only [List.getD_eq_getElem?_getD]
  by_cases h : j = l.length
  · subst h; simp
  · rw [if_neg h]
    rcases Nat.lt_or_ge j l.length with h1 | h1
    · rw [List.getElem?_append_left h1]
    · rw [List.getElem?_eq_none (by simp; omega), List.getElem?_eq_none h1]
end Go.Proofs.Ytfjbgcaogffiaaa
namespace Go.Proofs.Ytfjbgcaogffiaaa
open Go.RowKit D
theorem elDay : Elem Try.prog 26 48 (.agg #[.int .i64 0, .int .i64 0, .int .i64 0, .int .i64 0]) 4 32 := ⟨by kernel_rfl, by kernel_rfl, rfl, by omega, by omega⟩
theorem elTest : Elem Try.prog 29 51 (.agg #[.int .i64 0, .int .i64 0, .int .i64 0]) 3 24 := ⟨by kernel_rfl, by kernel_rfl, rfl, by omega, by omega⟩
theorem cellsOf_get {sz n k : Nat} {c : Nat → Nat → Value} {u : Value} (h : (cellsOf sz n c)[k]? = some u) : ∃ i j, i < n ∧ j < sz ∧ k = i * sz + j ∧ u = c i j := by
  have hk : k < n * sz := by
    have := (List.getElem?_eq_some_iff.1 h).1; rwa [cellsOf_len] at this
  have hsz : 0 < sz := by
    rcases Nat.eq_zero_or_pos sz with e | e
    · subst e; omega
    · exact e
  have e1 : k = (k / sz) * sz + k % sz := by rw [Nat.mul_comm]; exact (Nat.div_add_mod k sz).symm
  have e2 : k / sz < n := Nat.div_lt_of_lt_mul (by rw [Nat.mul_comm]; exact hk)
  have e3 : k % sz < sz := Nat.mod_lt _ hsz
  refine ⟨k / sz, k % sz, e2, e3, e1, ?_⟩
  have a1 := cellsOf_at (c := c) e2 e3
  rw [← e1, h] at a1
  exact Option.some.inj a1
theorem row_news {w : World} {b off sz n : Nat} {c : Nat → Nat → Value} (h : RowC w b off sz n c) : ∀ (k : Nat) (u : Value), (cellsOf sz n c)[k]? = some u → w.cell? ⟨b, off + k, none⟩ = some u := fun k u hk => by
  obtain ⟨i, j, hi, hj, rfl, rfl⟩ := cellsOf_get hk
  rw [← Nat.add_assoc]; exact h.2 i j hi hj
theorem row_one {sz n : Nat} {c : Nat → Nat → Value} (h : ∀ i j, i < n → j < sz → (c i j).oneCell' = true) : ∀ u ∈ cellsOf sz n c, u.oneCell' = true := fun u hu => by
  obtain ⟨k, hk⟩ := List.mem_iff_getElem?.1 hu
  obtain ⟨i, j, hi, hj, -, rfl⟩ := cellsOf_get hk
  exact h i j hi hj
theorem dayC_one (l : List Day) (i j : Nat) : (dayC l i j).oneCell' = true := by
  match j with
  | 0 | 1 | 2 | _ + 3 => rfl
theorem testC_one (l : List Test) (i j : Nat) : (testC l i j).oneCell' = true := by
  match j with
  | 0 | 1 | _ + 2 => rfl
theorem addr_add (b o k : Nat) : (⟨b, o, none⟩ : Addr).add k = ⟨b, o + k, none⟩ := by
  unfold Addr.add; split
  · rename_i h; rw [h]; rfl
  · rfl
/-- append of a whole row behind a slice of one's own. -/
theorem app_row {P : Program} {t e : TypeId} {z : Value} {sz bytes : Nat} (E : Elem P t e z sz bytes) {w : World} {ops : Array Oper} {rest : List Oper} {o : Oper} {a : Act} {Q : Exit → Act → World → Prop} (hgd : o.guard = none) (s x : Operand)
    (ho : o.op = .call { callee := .builtin .append, args := #[s, x], argTypes := #[t, t] })
    (base : Nat) {v : Value} (hs : a.eval s = v) (hown : w.ownsRow base e sz v 0 []) (b off n m : Nat) {c : Nat → Nat → Value} (hx : a.eval x = .slice (some ⟨b, off, none⟩) n m)
    (hrow : RowC w b off sz n c) (h1 : ∀ i j, (c i j).oneCell' = true) (hn : n ≤ 1000000000) (hbase : base ≤ w.heap.size)
    (h : ∀ v' w', OwnR w' base e sz v' n c → w.grownBy w' v.ownBlock → wpList P ops Q rest (a.put o.dst v') w') : wpList P ops Q (o :: rest) a w := by
  obtain ⟨i0, hi, hz0, hz1, hz2⟩ := info_parts E.info
  refine wpList_append_own _ hgd s x t ho base e i0 z sz bytes E.und hi hz0 hz1 hz2 E.zs E.pos v 0 [] hs hown ⟨b, off, none⟩ n m (cellsOf sz n c) hx (cellsOf_len _ _ _) (fun j u hu => ?_) (row_one fun i j _ _ => h1 i j) (by unfold maxLen; omega) ?_ hbase ?_
  · rw [addr_add]; exact row_news hrow j u hu
  · have := E.by_
    calc (0 + n) * bytes ≤ 1000000000 * 1000 := Nat.mul_le_mul (by omega) this
      _ ≤ 140737488355328 := by omega
  · intro v' w' h2 h3 _
    rw [Nat.zero_add, List.nil_append] at h2
    exact h v' w' h2 h3
end Go.Proofs.Ytfjbgcaogffiaaa
