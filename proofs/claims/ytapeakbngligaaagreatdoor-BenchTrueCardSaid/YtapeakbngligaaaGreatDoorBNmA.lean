/-
  Names and numbers, plain: out of the vault chapter's plain text.
-/
import Derived.Lib.SlTrimSet
namespace Go.Proofs.YtapeakbngligaaaGreatDoor.D
set_option linter.unusedVariables false
set_option linter.unusedSimpArgs false
def inB (n lo hi : Int) : Bool := decide (lo ≤ n ∧ n ≤ hi)
def intD (l : List Int) (i : Nat) : Int := l.getD i 0
def outB (n lo hi : Int) : Bool := decide (n < lo ∨ hi < n)
theorem outB_in (n lo hi : Int) : outB n lo hi = !inB n lo hi := by
  unfold outB inB
  by_cases h : lo ≤ n ∧ n ≤ hi
  · rw [decide_eq_true h, decide_eq_false (by omega)]; rfl
  · rw [decide_eq_false h, decide_eq_true (by omega)]; rfl
def sameS (a b : ByteArray) : Bool := a.data.toList == b.data.toList
theorem sameS_iff {a b : ByteArray} : sameS a b = true ↔ a = b := by
  unfold sameS
  rw [beq_iff_eq]
  constructor
  · intro h
    have : a.data = b.data := Array.ext' h
    cases a; cases b; simp_all
  · rintro rfl; rfl
def firstN (p : Nat → Bool) : Nat → Nat
  | 0 => 0
  | n + 1 => if firstN p n < n then firstN p n else if p n then n else n + 1
theorem firstN_le (p : Nat → Bool) : ∀ n, firstN p n ≤ n
  | 0 => Nat.le_refl _
  | n + 1 => by
    have := firstN_le p n
    rw [firstN]; split
    · omega
    · split <;> omega
theorem firstN_none {p : Nat → Bool} : ∀ {n : Nat}, (∀ i, i < n → p i = false) → firstN p n = n
  | 0, _ => rfl
  | n + 1, h => by
    have h1 := firstN_none (p := p) (n := n) (fun i hi => h i (by omega))
    rw [firstN, if_neg (by omega), if_neg (by rw [h n (by omega)]; simp)]
theorem firstN_at {p : Nat → Bool} {k : Nat} (h : ∀ i, i < k → p i = false) (hk : p k = true) : ∀ {n : Nat}, k < n → firstN p n = k
  | 0, h0 => absurd h0 (Nat.not_lt_zero k)
  | n + 1, h0 => by
    by_cases he : k = n
    · subst he
      have h1 := firstN_none (p := p) (n := k) h
      rw [firstN, if_neg (by omega), if_pos hk]
    · have h1 := firstN_at h hk (n := n) (by omega)
      rw [firstN, if_pos (by omega), h1]
theorem firstN_spec {p : Nat → Bool} : ∀ {n : Nat}, (∀ i, i < firstN p n → p i = false) ∧ (firstN p n < n → p (firstN p n) = true)
  | 0 => ⟨fun i hi => absurd hi (Nat.not_lt_zero i), fun h => absurd h (Nat.not_lt_zero _)⟩
  | n + 1 => by
    obtain ⟨h1, h2⟩ := firstN_spec (p := p) (n := n)
    have hl := firstN_le p n
    rw [firstN]
    split
    · rename_i h; exact ⟨h1, fun _ => h2 h⟩
    · rename_i h
      have he : firstN p n = n := by omega
      rw [he] at h1
      split
      · rename_i h3; exact ⟨h1, fun _ => h3⟩
      · rename_i h3
        refine ⟨fun i hi => ?_, fun h => absurd h (Nat.lt_irrefl _)⟩
        rcases Nat.lt_or_ge i n with h4 | h4
        · exact h1 i h4
        · obtain rfl : i = n := by omega
          simpa using h3
def idxF (p : Nat → Bool) (n : Nat) : Int := if firstN p n < n then (firstN p n : Int) else -1
def anyF (p : Nat → Bool) (n : Nat) : Bool := decide (firstN p n < n)
/-! Names. -/
def lowB (c : UInt8) : Bool := inB (c.toNat : Int) 97 122
def digB (c : UInt8) : Bool := inB (c.toNat : Int) 48 57
def nmAt (l : List UInt8) (i : Nat) : Bool := (lowB (l.getD i 0) || digB (l.getD i 0)) || ((l.getD i 0 == 45 && l.getD (i - 1) 0 != 45) && decide (i + 1 ≠ l.length))
def okName (s : ByteArray) : Bool := inB (s.size : Int) 1 24 && lowB (s.data.toList.getD 0 0) && !anyF (fun i => !nmAt s.data.toList i) s.size
theorem inB_iff {n lo hi : Int} : inB n lo hi = true ↔ lo ≤ n ∧ n ≤ hi := by unfold inB; exact decide_eq_true_iff
def alB (c : UInt8) : Bool := lowB c || digB c
theorem al_45 {c : UInt8} (h : alB c = true) : c ≠ 45 := by
  rintro rfl; revert h; decide
/-- The parts between the minus signs. -/
def cutD : List UInt8 → List (List UInt8)
  | [] => [[]]
  | c :: l => if c = 45 then [] :: cutD l else match cutD l with
    | [] => [[c]]
    | h :: t => (c :: h) :: t
theorem cutD_ne (l : List UInt8) : cutD l ≠ [] := by
  cases l with
  | nil => simp [cutD]
  | cons c l =>
    rw [cutD]
    split
    · simp
    · split <;> simp
def goodP (p : List UInt8) : Bool := !p.isEmpty && p.all alB
def nmR (prev : UInt8) : List UInt8 → Bool
  | [] => true
  | c :: l => (alB c || (c == 45 && prev != 45 && !l.isEmpty)) && nmR c l
def headAl : List (List UInt8) → Bool
  | [] => true
  | h :: t => h.all alB && t.all goodP
theorem nmR_cut : ∀ l : List UInt8, (∀ prev, prev ≠ 45 → nmR prev l = headAl (cutD l)) ∧ ((!l.isEmpty && nmR 45 l) = (cutD l).all goodP)
  | [] => ⟨fun _ _ => rfl, rfl⟩
  | c :: l => by
    obtain ⟨hA, hB⟩ := nmR_cut l
    by_cases hc : c = 45
    · subst hc
      have ha : alB 45 = false := by decide
      refine ⟨fun prev hp => ?_, ?_⟩
      · rw [nmR, cutD, if_pos rfl, ha]
        have : (prev != 45) = true := by simpa using hp
        rw [this, headAl, ← hB]
        simp
      · rw [nmR, cutD, if_pos rfl, ha]
        simp [goodP]
    · have hcb : (c == 45) = false := by simpa using hc
      have hcut : ∃ h t, cutD l = h :: t := by
        cases hl : cutD l with
        | nil => exact absurd hl (cutD_ne l)
        | cons h t => exact ⟨h, t, rfl⟩
      obtain ⟨h, t, hl⟩ := hcut
      have hA' := hA c hc
      rw [hl, headAl] at hA'
      refine ⟨fun prev hp => ?_, ?_⟩
      · rw [nmR, cutD, if_neg hc, hl, hcb, hA', headAl]
        simp only [Bool.false_and, Bool.or_false, List.all_cons]
        rw [Bool.and_assoc]
      · rw [nmR, cutD, if_neg hc, hl, hcb, hA']
        simp only [Bool.false_and, Bool.or_false, List.all_cons, goodP, List.isEmpty_cons, Bool.not_false, Bool.true_and]
        rw [Bool.and_assoc]
theorem getD_app (pre l : List UInt8) (k : Nat) : (pre ++ l).getD (pre.length + k) 0 = l.getD k 0 := by
  rw [List.getD_eq_getElem?_getD, List.getD_eq_getElem?_getD, List.getElem?_append_right (by omega)]; congr 2; omega
theorem getD_pre (pre l : List UInt8) (k : Nat) (h : k < pre.length) : (pre ++ l).getD k 0 = pre.getD k 0 := by
  rw [List.getD_eq_getElem?_getD, List.getD_eq_getElem?_getD, List.getElem?_append_left h]
theorem nmR_at : ∀ (l pre : List UInt8) (p : UInt8), pre ≠ [] → pre.getD (pre.length - 1) 0 = p → (nmR p l = true ↔ ∀ k, k < l.length → nmAt (pre ++ l) (pre.length + k) = true)
  | [], pre, p, _, _ => ⟨fun _ k hk => absurd hk (Nat.not_lt_zero k), fun _ => rfl⟩
  | c :: l, pre, p, hne, hp => by
    have ih := nmR_at l (pre ++ [c]) c (by simp) (by simp)
    have e : pre ++ c :: l = (pre ++ [c]) ++ l := by simp
    have hpos : 0 < pre.length := List.length_pos_iff.2 hne
    have h0 : nmAt (pre ++ c :: l) (pre.length + 0) = (alB c || (c == 45 && p != 45 && !l.isEmpty)) := by
      unfold nmAt alB
      rw [getD_app]
      have e1 : (pre ++ c :: l).getD (pre.length + 0 - 1) 0 = p := by rw [Nat.add_zero, getD_pre _ _ _ (by omega)]; exact hp
      rw [e1]
      have e2 : decide (pre.length + 0 + 1 ≠ (pre ++ c :: l).length) = !l.isEmpty := by
        cases l with
        | nil => simp
        | cons x l => simp
      rw [e2]; rfl
    rw [nmR, Bool.and_eq_true, ih]
    constructor
    · rintro ⟨h1, h2⟩ k hk
      cases k with
      | zero => rw [h0]; exact h1
      | succ k =>
        have := h2 k (by simpa using hk)
        rw [e]
        rw [List.length_append, List.length_singleton] at this
        rw [show pre.length + (k + 1) = pre.length + 1 + k by omega]; exact this
    · intro h
      refine ⟨by rw [← h0]; exact h 0 (by simp), fun k hk => ?_⟩
      have := h (k + 1) (by simpa using hk)
      rw [e] at this
      rw [List.length_append, List.length_singleton, show pre.length + 1 + k = pre.length + (k + 1) by omega]; exact this
theorem any_nm {l : List UInt8} : anyF (fun i => !nmAt l i) l.length = false ↔ ∀ k, k < l.length → nmAt l k = true := by
  unfold anyF
  have hl := firstN_le (fun i => !nmAt l i) l.length
  have hs := firstN_spec (p := fun i => !nmAt l i) (n := l.length)
  constructor
  · intro h k hk
    have := of_decide_eq_false h
    have := hs.1 k (by omega)
    simpa using this
  · intro h
    refine decide_eq_false fun hlt => ?_
    have := hs.2 hlt
    rw [h _ hlt] at this; cases this
/-- A part is wrong. -/
def badP (l : List UInt8) : Bool := !goodP l
theorem name_cut {l : List UInt8} (h0 : l ≠ []) (h1 : lowB (l.getD 0 0) = true) : anyF (fun i => !nmAt l i) l.length = (cutD l).any badP := by
  obtain ⟨c, t, rfl⟩ : ∃ c t, l = c :: t := by cases l with | nil => exact absurd rfl h0 | cons c t => exact ⟨c, t, rfl⟩
  have hal : alB c = true := by unfold alB; rw [show lowB c = true from h1]; rfl
  have hc := al_45 hal
  have hA := (nmR_cut (c :: t)).2
  have hn : (!(c :: t).isEmpty && nmR 45 (c :: t)) = nmR c t := by
    rw [nmR, hal]; rfl
  rw [hn] at hA
  have hr := nmR_at t [c] c (by simp) rfl
  have h00 : nmAt (c :: t) 0 = true := by
    unfold nmAt
    rw [show (c :: t).getD 0 0 = c from rfl, show lowB c = true from h1]; rfl
  have hall : nmR c t = true ↔ ∀ k, k < (c :: t).length → nmAt (c :: t) k = true := by
    rw [hr]
    constructor
    · intro h k hk
      cases k with
      | zero => exact h00
      | succ k =>
        have := h k (by simpa using hk)
        rwa [List.singleton_append, List.length_singleton, Nat.add_comm] at this
    · intro h k hk
      have := h (k + 1) (by simpa using hk)
      rwa [List.singleton_append, List.length_singleton, Nat.add_comm]
  have hb : (cutD (c :: t)).any badP = !(cutD (c :: t)).all goodP := by
    have : badP = fun x => !goodP x := rfl
    rw [this, List.not_all_eq_any_not]
  rw [hb, ← hA]
  cases hm : nmR c t
  · cases hx : anyF (fun i => !nmAt (c :: t) i) (c :: t).length
    · have := hall.2 (any_nm.1 hx); rw [hm] at this; cases this
    · rfl
  · rw [any_nm.2 (hall.1 hm)]; rfl
/-- The letters and digits, as the program writes them. -/
def alphabet : List UInt8 := [97, 98, 99, 100, 101, 102, 103, 104, 105, 106, 107, 108, 109, 110, 111, 112, 113, 114, 115, 116, 117, 118, 119, 120, 121, 122, 48, 49, 50, 51, 52, 53, 54, 55, 56, 57]
theorem alphabet_has : ∀ c : Fin 256, alphabet.contains (UInt8.ofNat c.val) = alB (UInt8.ofNat c.val) := by decide +kernel
theorem alphabet_al (c : UInt8) : alphabet.contains c = alB c := by
  have := alphabet_has ⟨c.toNat, UInt8.toNat_lt c⟩
  simpa using this
theorem dropWhile_nil {p : UInt8 → Bool} : ∀ {l : List UInt8}, l.dropWhile p = [] ↔ l.all p = true
  | [] => by simp
  | c :: l => by
    rw [List.dropWhile_cons, List.all_cons]
    cases h : p c
    · simp
    · simpa using dropWhile_nil (l := l)
theorem all_dropR {p : UInt8 → Bool} (l : List UInt8) : ((l.reverse.dropWhile p).reverse).all p = l.all p := by
  rw [List.all_reverse]
  have : ∀ m : List UInt8, (m.dropWhile p).all p = m.all p := fun m => by
    induction m with
    | nil => rfl
    | cons c m ih =>
      rw [List.dropWhile_cons, List.all_cons]
      cases h : p c
      · simp [h]
      · simpa using ih
  rw [this, List.all_reverse]
theorem trim_al (l : List UInt8) : (Lib.trimS l alphabet).isEmpty = l.all alB := by
  have hp : (fun c => alphabet.contains c) = alB := funext alphabet_al
  unfold Lib.trimS Lib.trimLeftS Lib.trimRightS
  rw [hp]
  cases hl : l.all alB
  · rw [← all_dropR (p := alB)] at hl
    cases hd : ((l.reverse.dropWhile alB).reverse).dropWhile alB with
    | nil => rw [dropWhile_nil.1 hd] at hl; cases hl
    | cons => rfl
  · rw [← all_dropR (p := alB)] at hl
    rw [dropWhile_nil.2 hl]; rfl
end Go.Proofs.YtapeakbngligaaaGreatDoor.D
