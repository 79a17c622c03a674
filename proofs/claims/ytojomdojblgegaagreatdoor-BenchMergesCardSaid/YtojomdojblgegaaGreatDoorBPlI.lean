/-
  Insertion of a note into a list in order, plain.
-/
import Derived.Test.YtojomdojblgegaaGreatDoorBPlA
namespace Go.Proofs.YtojomdojblgegaaGreatDoor.D
theorem insN_at {x : Note} : ∀ {out : List Note} {m : Nat}, (∀ j, j < m → ordV (ntD out j) x < 0) → m ≤ out.length → (m = out.length ∨ ¬ ordV (ntD out m) x < 0) → insN x out = if m < out.length ∧ ntD out m = x then out else out.take m ++ x :: out.drop m
  | [], m, _, hm, _ => by
    obtain rfl : m = 0 := by simpa using hm
    rfl
  | y :: out, 0, _, _, h => by
    have h0 : ¬ ordV y x < 0 := by rcases h with h | h; · simp at h
                                   · exact h
    rw [insN, if_neg h0]
    by_cases he : y = x
    · rw [if_pos he, if_pos ⟨by simp, he⟩]
    · rw [if_neg he, if_neg (fun hh => he hh.2)]; rfl
  | y :: out, m + 1, hl, hm, h => by
    have h0 : ordV y x < 0 := hl 0 (by omega)
    rw [insN, if_pos h0, insN_at (out := out) (m := m) (fun j hj => hl (j + 1) (by omega)) (by simpa using hm) (by rcases h with h | h; · left; simpa using h
                                                                                                                   · right; exact h)]
    have e : ntD (y :: out) (m + 1) = ntD out m := rfl
    by_cases hc : m < out.length ∧ ntD out m = x
    · rw [if_pos hc, if_pos ⟨by simpa using hc.1, by rw [e]; exact hc.2⟩]
    · rw [if_neg hc, if_neg (fun hh => hc ⟨by simpa using hh.1, by rw [← e]; exact hh.2⟩)]; rfl
theorem standK_app {l : List Note} {x : Note} : ∀ {r out : List Note}, standK l (r ++ [x]) out = if standsB l x then insN x (standK l r out) else standK l r out
  | [], out => by
    show standK l [x] out = _
    rw [standK]; rfl
  | y :: r, out => by
    rw [List.cons_append, standK, standK_app, standK]
theorem standK_take {l : List Note} {k : Nat} (hk : k < l.length) : standK l (l.take (k + 1)) [] = if standsB l (ntD l k) then insN (ntD l k) (standK l (l.take k) []) else standK l (l.take k) [] := by
  rw [List.take_succ_eq_append_getElem hk, standK_app]
  have : l[k] = ntD l k := by unfold ntD; rw [List.getD_eq_getElem?_getD, List.getElem?_eq_getElem hk]; rfl
  rw [this]
theorem insN_len {x : Note} : ∀ {l : List Note}, (insN x l).length ≤ l.length + 1
  | [] => by simp [insN]
  | y :: l => by
    rw [insN]
    have := insN_len (x := x) (l := l)
    split
    · simpa using this
    · split <;> simp
theorem standK_len {l : List Note} : ∀ {k : Nat}, k ≤ l.length → (standK l (l.take k) []).length ≤ k
  | 0, _ => by simp [standK]
  | k + 1, h => by
    rw [standK_take (by omega)]
    have ih := standK_len (l := l) (k := k) (by omega)
    have := insN_len (x := ntD l k) (l := standK l (l.take k) [])
    split <;> omega
end Go.Proofs.YtojomdojblgegaaGreatDoor.D
