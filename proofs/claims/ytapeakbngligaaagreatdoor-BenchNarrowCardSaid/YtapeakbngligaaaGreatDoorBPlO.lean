/-
  BenchOneList, plain: lists in another order, each turned.
-/
import Derived.Test.YtapeakbngligaaaGreatDoorBPlA
namespace Go.Proofs.YtapeakbngligaaaGreatDoor.D
/-- A list turned by a number, with one of its notes once more. -/
def turnN (x : List Int) (i : Nat) (l : List Note) : List Note :=
  if x.length = 0 ∨ l.length = 0 then l else l.drop ((intD x (i % x.length)).toNat % l.length) ++ l.take ((intD x (i % x.length)).toNat % l.length) ++ [ntD l ((intD x (i % x.length)).toNat % l.length)]
theorem turnN_mem {x : List Int} {i : Nat} {l : List Note} {z : Note} : z ∈ turnN x i l ↔ z ∈ l := by
  unfold turnN
  split
  · exact Iff.rfl
  · rename_i h
    have hl : (intD x (i % x.length)).toNat % l.length < l.length := Nat.mod_lt _ (by omega)
    generalize (intD x (i % x.length)).toNat % l.length = n at hl
    have e : z ∈ l ↔ z ∈ l.take n ∨ z ∈ l.drop n := by
      conv => lhs; rw [← List.take_append_drop n l]
      exact List.mem_append
    rw [List.mem_append, List.mem_append, List.mem_singleton, e]
    constructor
    · rintro ((h | h) | rfl)
      · exact .inr h
      · exact .inl h
      · exact e.1 (nt_in hl)
    · rintro (h | h)
      · exact .inl (.inr h)
      · exact .inl (.inl h)
theorem turnN_len {x : List Int} {i : Nat} {l : List Note} : (turnN x i l).length ≤ l.length + 1 := by
  unfold turnN
  split
  · omega
  · rw [List.length_append, List.length_append, List.length_drop, List.length_take, List.length_singleton]; omega
/-- The other lists behind k rounds. -/
def otherK (x : List Int) (ls : List (List Note)) : Nat → List (List Note)
  | 0 => []
  | k + 1 => otherK x ls k ++ [turnN x (ls.length - 1 - k) (ls.getD (ls.length - 1 - k) [])]
theorem otherK_len (x : List Int) (ls : List (List Note)) : ∀ k, (otherK x ls k).length = k
  | 0 => rfl
  | k + 1 => by rw [otherK, List.length_append, otherK_len x ls k]; rfl
theorem otherK_mem {x : List Int} {ls : List (List Note)} {z : Note} : ∀ {k : Nat}, k ≤ ls.length → (z ∈ (otherK x ls k).flatten ↔ ∃ i, ls.length ≤ i + k ∧ i < ls.length ∧ z ∈ ls.getD i [])
  | 0, _ => by
    rw [otherK]
    constructor
    · intro h; cases h
    · rintro ⟨i, h1, h2, -⟩; omega
  | k + 1, hk => by
    rw [otherK, List.flatten_append, List.mem_append, otherK_mem (by omega), List.flatten_cons, List.flatten_nil, List.append_nil, turnN_mem]
    constructor
    · rintro (⟨i, h1, h2, h3⟩ | h)
      · exact ⟨i, by omega, h2, h3⟩
      · exact ⟨_, by omega, by omega, h⟩
    · rintro ⟨i, h1, h2, h3⟩
      by_cases h : ls.length ≤ i + k
      · exact .inl ⟨i, h, h2, h3⟩
      · right
        rw [show ls.length - 1 - k = i by omega]; exact h3
theorem other_all {x : List Int} {ls : List (List Note)} {z : Note} : z ∈ (otherK x ls ls.length).flatten ↔ z ∈ ls.flatten := by
  rw [otherK_mem (Nat.le_refl _), List.mem_flatten]
  constructor
  · rintro ⟨i, -, h2, h3⟩
    refine ⟨ls[i], List.getElem_mem h2, ?_⟩
    rw [List.getD_eq_getElem?_getD, List.getElem?_eq_getElem h2] at h3; exact h3
  · rintro ⟨l, hl, hz⟩
    obtain ⟨i, hi, rfl⟩ := List.getElem_of_mem hl
    refine ⟨i, by omega, hi, ?_⟩
    rw [List.getD_eq_getElem?_getD, List.getElem?_eq_getElem hi]; exact hz
structure MrgOk (ls : List (List Note)) : Prop where
  n8 : ls.length ≤ 8
  each : ∀ l ∈ ls, l.length ≤ 60 ∧ ∀ x ∈ l, noteE x = 0
  few : (standV ls.flatten).length ≤ 60
theorem merge_ok {ls : List (List Note)} (h : (mergeV ls).2 = 0) : MrgOk ls ∧ mergeV ls = (standV ls.flatten, 0) := by
  unfold mergeV at h ⊢
  split at h
  · cases h
  · rename_i h1
    split at h
    · rename_i h2; exact absurd h h2
    · rename_i h2
      split at h
      · cases h
      · rename_i h3
        rw [if_neg h1, if_neg h2, if_neg h3]
        exact ⟨⟨by omega, listsE_ok.1 (Decidable.not_not.1 h2), by omega⟩, rfl⟩
theorem merge_of {ls : List (List Note)} (h : MrgOk ls) : mergeV ls = (standV ls.flatten, 0) := by
  unfold mergeV
  rw [if_neg (by have := h.n8; omega), if_neg (fun hh => hh (listsE_ok.2 h.each)), if_neg (by have := h.few; omega)]
theorem merge_no {ls : List (List Note)} (h : (mergeV ls).2 ≠ 0) : (mergeV ls).1 = [] := by
  unfold mergeV at h ⊢
  split
  · rfl
  · split
    · rfl
    · split
      · rfl
      · rename_i h1 h2 h3
        rw [if_neg h1, if_neg h2, if_neg h3] at h; exact absurd rfl h
/-- The same notes in other lists are merged alike. -/
theorem merge_same {ls ms : List (List Note)} (h : (mergeV ls).2 = 0) (hl : ms.length ≤ 8) (hm : ∀ l ∈ ms, l.length ≤ 60) (hmem : ∀ x, x ∈ ms.flatten ↔ x ∈ ls.flatten) : mergeV ms = mergeV ls := by
  obtain ⟨ok, e⟩ := merge_ok h
  have hs := standV_same hmem
  rw [e, ← hs]
  refine merge_of ⟨hl, fun l hl => ⟨hm l hl, fun x hx => ?_⟩, by rw [hs]; exact ok.few⟩
  obtain ⟨l', hl', hx'⟩ := List.mem_flatten.1 ((hmem x).1 (List.mem_flatten.2 ⟨l, hl, hx⟩))
  exact (ok.each l' hl').2 x hx'
theorem merge_again {ls ms : List (List Note)} (h : (mergeV ls).2 = 0) (hl : ms.length + 1 ≤ 8) (hm : ∀ l ∈ ms, l.length ≤ 60) (hmem : ∀ x, x ∈ ms.flatten ↔ x ∈ ls.flatten) : mergeV ((mergeV ls).1 :: ms) = mergeV ls := by
  obtain ⟨ok, e⟩ := merge_ok h
  refine merge_same h (by rw [List.length_cons]; exact hl) (fun l hl => ?_) fun x => ?_
  · rcases List.mem_cons.1 hl with rfl | hl
    · rw [e]; exact ok.few
    · exact hm l hl
  · rw [List.flatten_cons, List.mem_append, e, hmem]
    constructor
    · rintro (h | h)
      · exact (standV_mem.1 h).1
      · exact h
    · exact .inr
theorem otherK_each {x : List Int} {ls : List (List Note)} {n : Nat} : ∀ {k : Nat}, (∀ j, j < k → (turnN x (ls.length - 1 - j) (ls.getD (ls.length - 1 - j) [])).length ≤ n) → ∀ l ∈ otherK x ls k, l.length ≤ n
  | 0, _, l, hl => by cases hl
  | k + 1, h, l, hl => by
    rw [otherK] at hl
    rcases List.mem_append.1 hl with hl | hl
    · exact otherK_each (fun j hj => h j (by omega)) l hl
    · rw [List.mem_singleton] at hl
      rw [hl]; exact h k (by omega)
end Go.Proofs.YtapeakbngligaaaGreatDoor.D
