/-
  ref.ways: plain lists, lists of lists in memory.
-/
import Derived.Test.YtfpaihjcbpaneaaGreatDoorVRefI
namespace Go.Proofs.YtfpaihjcbpaneaaGreatDoor.D
set_option linter.unusedSimpArgs false
set_option linter.unusedVariables false
def lsD (B : List (List Nat)) (i : Nat) : List Nat := B.getD i []
theorem lsD_mem {B : List (List Nat)} {i : Nat} (h : i < B.length) : lsD B i ∈ B := by unfold lsD; rw [List.getD_eq_getElem?_getD, List.getElem?_eq_getElem h]; exact List.getElem_mem _
theorem lsD_app {B : List (List Nat)} {x : List Nat} {i : Nat} (h : i < B.length) : lsD (B ++ [x]) i = lsD B i := by unfold lsD; rw [List.getD_eq_getElem?_getD, List.getD_eq_getElem?_getD, List.getElem?_append_left h]
theorem lsD_new (B : List (List Nat)) (x : List Nat) : lsD (B ++ [x]) B.length = x := by unfold lsD; simp
theorem lsD_appL {A B : List (List Nat)} {i : Nat} (h : i < A.length) : lsD (A ++ B) i = lsD A i := by unfold lsD; rw [List.getD_eq_getElem?_getD, List.getD_eq_getElem?_getD, List.getElem?_append_left h]
theorem lsD_appR {A B : List (List Nat)} {i : Nat} : lsD (A ++ B) (A.length + i) = lsD B i := by
  unfold lsD; rw [List.getD_eq_getElem?_getD, List.getD_eq_getElem?_getD, List.getElem?_append_right (by omega)]; congr 2; omega
theorem take_lsD {B : List (List Nat)} {k : Nat} (hk : k < B.length) : B.take (k + 1) = B.take k ++ [lsD B k] := by
  rw [List.take_add_one]; unfold lsD; rw [List.getD_eq_getElem?_getD, List.getElem?_eq_getElem hk]; rfl
def extK (r : Nat) (l : List Nat) : List (List Nat) := ((List.range r).filter fun x => !l.contains x).map fun x => l ++ [x]
theorem extK_zero (l : List Nat) : extK 0 l = [] := rfl
theorem extK_succ (r : Nat) (l : List Nat) : extK (r + 1) l = if l.contains r then extK r l else extK r l ++ [l ++ [r]] := by
  unfold extK
  rw [List.range_succ, List.filter_append, List.map_append]
  by_cases h : l.contains r = true
  · rw [if_pos h]; have h' : r ∈ l := by simpa using h
    simp [h']
  · rw [if_neg h]; have h' : ¬ r ∈ l := by simpa using h
    simp [h']
theorem extK_len (r : Nat) (l : List Nat) : (extK r l).length ≤ r := by
  unfold extK; rw [List.length_map]; exact Nat.le_trans (List.length_filter_le _ _) (by simp)
def outK (to_ : Nat) (b : List (List Nat)) : List (List Nat) := b.filter (endsB to_)
def nxtK (n to_ : Nat) (b : List (List Nat)) : List (List Nat) := (b.filter fun l => !endsB to_ l).flatMap (exts n)
theorem outK_snoc (to_ : Nat) (b : List (List Nat)) (l : List Nat) : outK to_ (b ++ [l]) = if endsB to_ l then outK to_ b ++ [l] else outK to_ b := by
  unfold outK; rw [List.filter_append]
  by_cases h : endsB to_ l = true
  · rw [if_pos h]; simp [h]
  · rw [if_neg h]; simp [h]
theorem nxtK_snoc (n to_ : Nat) (b : List (List Nat)) (l : List Nat) : nxtK n to_ (b ++ [l]) = if endsB to_ l then nxtK n to_ b else nxtK n to_ b ++ extK n l := by
  unfold nxtK; rw [List.filter_append, List.flatMap_append]
  by_cases h : endsB to_ l = true
  · rw [if_pos h]; simp [h]
  · rw [if_neg h]; simp [h]; rfl
theorem nxtK_len (n to_ : Nat) : ∀ b : List (List Nat), (nxtK n to_ b).length ≤ n * b.length
  | [] => by simp [nxtK]
  | l :: b => by
    have ih := nxtK_len n to_ b
    unfold nxtK at ih ⊢
    by_cases h : endsB to_ l = true
    · simp only [List.filter_cons, h, Bool.not_true, Bool.false_eq_true, if_false, List.length_cons]
      exact Nat.le_trans ih (Nat.mul_le_mul_left _ (by omega))
    · have h' : endsB to_ l = false := by simpa using h
      simp only [List.filter_cons, h', Bool.not_false, if_true, List.flatMap_cons, List.length_append, List.length_cons]
      have e := extK_len n l
      have e2 : (exts n l).length ≤ n := e
      calc (exts n l).length + _ ≤ n + n * b.length := Nat.add_le_add e2 ih
        _ = n * (b.length + 1) := by rw [Nat.mul_add, Nat.mul_one, Nat.add_comm]
theorem waysV_nil (n to_ : Nat) : ∀ m, waysV n to_ m [] = []
  | 0 => rfl
  | m + 1 => by rw [waysV]; simp [waysV_nil n to_ m]
theorem waysV_succ (n to_ m : Nat) (b : List (List Nat)) : waysV n to_ (m + 1) b = outK to_ b ++ waysV n to_ m (nxtK n to_ b) := rfl
theorem waysV_len {n to_ : Nat} (hn : n ≤ 12) : ∀ (m : Nat) (b : List (List Nat)), (waysV n to_ m b).length ≤ b.length * 13 ^ m
  | 0, b => by simp [waysV]
  | m + 1, b => by
    rw [waysV_succ, List.length_append]
    have h1 : (outK to_ b).length ≤ b.length := List.length_filter_le _ _
    have h2 := waysV_len (to_ := to_) hn m (nxtK n to_ b)
    have h3 : (nxtK n to_ b).length ≤ 12 * b.length := Nat.le_trans (nxtK_len n to_ b) (Nat.mul_le_mul_right _ hn)
    have h4 : (nxtK n to_ b).length * 13 ^ m ≤ 12 * b.length * 13 ^ m := Nat.mul_le_mul_right _ h3
    have h5 : b.length ≤ b.length * 13 ^ m := Nat.le_mul_of_pos_right _ (Nat.pow_pos (by omega))
    rw [Nat.pow_succ]
    calc _ ≤ b.length * 13 ^ m + 12 * b.length * 13 ^ m := by omega
      _ = b.length * (13 ^ m * 13) := by rw [Nat.mul_assoc 12, Nat.mul_comm 12, ← Nat.mul_assoc]; omega
/-- Lists of rooms that are not empty, and not long. -/
def Rooms (n c : Nat) (b : List (List Nat)) : Prop := ∀ l ∈ b, 1 ≤ l.length ∧ l.length ≤ c ∧ ∀ i, i < l.length → natD l i < n
theorem natD_snoc {l : List Nat} {r i : Nat} (hi : i < l.length + 1) : natD (l ++ [r]) i = if i < l.length then natD l i else r := by
  unfold natD
  by_cases h : i < l.length
  · rw [if_pos h, List.getD_eq_getElem?_getD, List.getD_eq_getElem?_getD, List.getElem?_append_left h]
  · obtain rfl : i = l.length := by omega
    rw [if_neg h]; simp
theorem extK_rooms {n c r : Nat} {l : List Nat} (hr : r ≤ n) (h : 1 ≤ l.length ∧ l.length ≤ c ∧ ∀ i, i < l.length → natD l i < n) : Rooms n (c + 1) (extK r l) := by
  intro x hx
  unfold extK at hx
  obtain ⟨y, hy, rfl⟩ := List.mem_map.1 hx
  have hy2 : y < r := by have := (List.mem_filter.1 hy).1; simpa using this
  rw [List.length_append]
  refine ⟨by simp, by have := h.2.1; simp; omega, fun i hi => ?_⟩
  rw [natD_snoc (by simpa using hi)]
  split
  · rename_i h1; exact h.2.2 i h1
  · omega
theorem nxtK_rooms {n c to_ : Nat} {b : List (List Nat)} (h : Rooms n c b) : Rooms n (c + 1) (nxtK n to_ b) := by
  intro x hx
  unfold nxtK at hx
  obtain ⟨l, hl, hx2⟩ := List.mem_flatMap.1 hx
  exact extK_rooms (Nat.le_refl n) (h l (List.mem_filter.1 hl).1) x hx2
theorem outK_rooms {n c to_ : Nat} {b : List (List Nat)} (h : Rooms n c b) : Rooms n c (outK to_ b) := fun x hx => h x (List.mem_filter.1 hx).1
theorem waysV_rooms {n to_ : Nat} : ∀ (m c : Nat) (b : List (List Nat)), Rooms n c b → Rooms n (c + m) (waysV n to_ m b)
  | 0, c, b, _ => fun x hx => by simp [waysV] at hx
  | m + 1, c, b, h => by
    rw [waysV_succ]
    intro x hx
    rcases List.mem_append.1 hx with h1 | h1
    · obtain ⟨a1, a2, a3⟩ := h x (List.mem_filter.1 h1).1
      exact ⟨a1, by omega, a3⟩
    · obtain ⟨a1, a2, a3⟩ := waysV_rooms m (c + 1) _ (nxtK_rooms h) x h1
      exact ⟨a1, by omega, a3⟩
theorem contains_take {l : List Nat} {r j : Nat} (hj : j < l.length) : (l.take (j + 1)).contains r = ((l.take j).contains r || decide (natD l j = r)) := by
  rw [List.take_add_one, List.getElem?_eq_getElem hj]
  unfold natD
  rw [List.getD_eq_getElem?_getD, List.getElem?_eq_getElem hj]
  simp only [Option.toList, Option.getD_some, List.contains_eq_mem, List.mem_append, List.mem_singleton]
  by_cases h : r ∈ List.take j l <;> by_cases h2 : l[j] = r <;> simp [h, h2, eq_comm]
  all_goals (first | exact fun hh => h2 hh.symm | skip)
end Go.Proofs.YtfpaihjcbpaneaaGreatDoor.D
namespace Go.Proofs.YtfpaihjcbpaneaaGreatDoor
open Go.RowKit D
set_option linter.unusedVariables false
set_option linter.unusedSimpArgs false
attribute [local go_sem high] run_minI run_maxI
attribute [local go_sem] upon2 cls_cell cls_frozen forall_const exists_eq_left'
attribute [local go_sem] FirstUpon
theorem elLs : Elem Tryz.prog 106 43 (.slice none 0 0) 1 24 := ⟨by kernel_rfl, by kernel_rfl, rfl, by omega, by omega⟩
def lsC (q : Nat → Sl) (B : List (List Nat)) (i _ : Nat) : Value := .slice (q i).a (lsD B i).length (q i).cap
def LsAt (w : World) (q : Nat → Sl) (B : List (List Nat)) : Prop := ∀ i, i < B.length → OwnR w 0 3 1 (.slice (q i).a (lsD B i).length (q i).cap) (lsD B i).length (nC (lsD B i))
theorem LsAt.below {w w' : World} {q : Nat → Sl} {B : List (List Nat)} (h : LsAt w q B) (hb : Below w.heap.size w w') : LsAt w' q B := fun i hi => (h i hi).below hb
theorem LsAt.app {w w' : World} {q : Nat → Sl} {B : List (List Nat)} (h : LsAt w q B) {base sz : Nat} {v : Value} {n : Nat} {c : Nat → Nat → Value} {o : Obj} (hO : OwnR w base 43 sz v n c) (hg : (w.alloc o).grownBy w' v.ownBlock) : LsAt w' q B := fun i hi => own_app hO hg (h i hi) (by decide)
def qNew (q : Nat → Sl) (n : Nat) (s : Sl) (i : Nat) : Sl := if i = n then s else q i
theorem lsC_snoc {q : Nat → Sl} {B : List (List Nat)} {x : List Nat} {s : Sl} {i j : Nat} (hi : i < B.length + 1) (hj : j < 1) : upd (lsC q B) B.length [.slice s.a x.length s.cap] i j = lsC (qNew q B.length s) (B ++ [x]) i j := by
  obtain rfl : j = 0 := by omega
  rcases Nat.lt_or_ge i B.length with h | h
  · rw [upd_lt h]; unfold lsC qNew; rw [lsD_app h, if_neg (by omega)]
  · obtain rfl : i = B.length := by omega
    rw [upd_at]; unfold lsC qNew; rw [lsD_new, if_pos rfl]; rfl
theorem LsAt.snoc {w : World} {q : Nat → Sl} {B : List (List Nat)} {x : List Nat} {s : Sl} (h : LsAt w q B) (hx : OwnR w 0 3 1 (.slice s.a x.length s.cap) x.length (nC x)) : LsAt w (qNew q B.length s) (B ++ [x]) := by
  intro i hi
  rw [List.length_append] at hi
  rcases Nat.lt_or_ge i B.length with h1 | h1
  · unfold qNew; rw [lsD_app h1, if_neg (by omega)]; exact h i h1
  · obtain rfl : i = B.length := by have : i < B.length + 1 := hi; omega
    unfold qNew; rw [lsD_new, if_pos rfl]; exact hx
def qApp (q1 q2 : Nat → Sl) (n i : Nat) : Sl := if i < n then q1 i else q2 (i - n)
theorem LsAt.append {w : World} {q1 q2 : Nat → Sl} {A B : List (List Nat)} (h1 : LsAt w q1 A) (h2 : LsAt w q2 B) : LsAt w (qApp q1 q2 A.length) (A ++ B) := by
  intro i hi
  rw [List.length_append] at hi
  rcases Nat.lt_or_ge i A.length with h | h
  · unfold qApp; rw [lsD_appL h, if_pos h]; exact h1 i h
  · obtain ⟨k, rfl⟩ : ∃ k, i = A.length + k := ⟨i - A.length, by omega⟩
    unfold qApp; rw [lsD_appR, if_neg (by omega), Nat.add_sub_cancel_left]; exact h2 k (by omega)
theorem nC_snoc {l : List Nat} {r i j : Nat} (hi : i < l.length + 1) (hj : j < 1) : upd (nC l) l.length [.int .i64 (r : Int)] i j = nC (l ++ [r]) i j := by
  obtain rfl : j = 0 := by omega
  unfold nC
  rw [natD_snoc hi]
  rcases Nat.lt_or_ge i l.length with h | h
  · rw [upd_lt h, if_pos h]
  · obtain rfl : i = l.length := by omega
    rw [upd_at, if_neg (by omega)]; rfl
theorem nC_cell (l : List Nat) (i j : Nat) : (nC l i j).oneCell' = true := rfl
theorem lsC_cell (q : Nat → Sl) (B : List (List Nat)) (i j : Nat) : (lsC q B i j).oneCell' = true := rfl
/-- What ways returns. -/
def WaysOut (w : World) (R : List (List Nat)) (e : Ending) (w' : World) : Prop := ∃ (v : Value) (q : Nat → Sl), e = .returned v ∧ OwnR w' w.heap.size 43 1 v R.length (lsC q R) ∧ LsAt w' q R ∧ Below w.heap.size w w'
def WaysC (S : Site) (s : SSl) (td m : Nat) (w0 : World) : Prop := ∀ (w : World) (B : List (List Nat)) (q : Nat → Sl) (sl : Sl), Ext2 w0 w → RowS w sl 1 B.length (lsC q B) → LsAt w q B → 0 < B.length → Rooms S.rooms.length (6 - m) B → B.length * 13 ^ m ≤ 371293 →
  Calls Tryz.prog 54 #[.agg #[.slice s.r.a S.rooms.length s.r.cap, .slice s.c.a S.cans.length s.c.cap, .int .i64 S.rlo, .int .i64 S.rhi, .slice s.p.a S.steps.length s.p.cap], .int .i64 (td : Int), .int .i64 (m : Int), .slice sl.a B.length sl.cap] w (WaysOut w (waysV S.rooms.length td m B))
end Go.Proofs.YtfpaihjcbpaneaaGreatDoor
