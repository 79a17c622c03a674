/-
  BenchTrue, the plain half: how a reel that has lost frames came about.
  BenchTrue, the plain half: the answers have what is true.
-/
import Derived.Test.YtapeakbngligaaaGreatDoorBPlW
import Derived.Test.YtapeakbngligaaaGreatDoorBPlB
namespace Go.Proofs.YtapeakbngligaaaGreatDoor.D
/-- What some lists say of a reel's life. -/
structure Ls where
  foot : Int
  first : Int
  roll : Int
  pieces : List (Int × Int)
  leaders : List Int
  wide : List Int
  noted : List Int
structure Md where
  all : List Int
  ahead : List Int
  notes : List Note
  marks : List Mark
  at_ : Int
  number : Nat
def turnV (l : List Int) (i : Nat) : Int := if l.length = 0 then 0 else intD l (i % l.length)
def pcL (X : Ls) (i : Nat) : Int × Int := X.pieces.getD i (0, 0)
def ledN (X : Ls) (i : Nat) : Int := turnV X.leaders i % 40
def ledS (X : Ls) (i : Nat) (s : Md) : Md :=
  if 0 < ledN X i then { s with notes := s.notes ++ [⟨eve, (i : Int) + 1, 0, 3, s.all.length, s.all.length + ledN X i - 1, 0, 0⟩], all := s.all ++ List.replicate (ledN X i).toNat (-1), ahead := s.ahead ++ List.replicate (ledN X i).toNat 0 } else s
def splS (X : Ls) (lost : Int) (s : Md) : Md := { s with number := s.number + 1, notes := s.notes ++ [⟨ada, (s.number : Int) + 1, 0, 1, s.all.length, s.all.length, max 0 (lost - turnV X.wide (s.number + 1)), lost + turnV X.wide (s.number + 2)⟩] }
def notB (X : Ls) (i : Nat) (s : Md) : Bool := decide (turnV X.noted i % 2 = 0) || (decide (0 < i) && decide (0 ≤ intD s.all (s.all.length - 1)))
def notS (X : Ls) (i : Nat) (lost : Int) (s : Md) : Md :=
  if notB X i s then (if turnV X.noted i / 2 % 2 = 1 then splS X lost (splS X lost s) else splS X lost s) else s
def frm (X : Ls) (a : Int) (s : Md) : Md :=
  { s with all := s.all ++ [s.at_], ahead := s.ahead ++ [a], marks := if (X.first + s.at_) % X.foot = 0 ∧ s.marks.length < 60 then s.marks ++ [⟨s.all.length, X.roll, (X.first + s.at_) / X.foot⟩] else s.marks, at_ := s.at_ + 1 }
def frmK (X : Ls) (lost : Int) (s : Md) : Nat → Md
  | 0 => s
  | k + 1 => frm X (if k = 0 then lost else 0) (frmK X lost s k)
def lateS (lost : Int) (s : Md) : Md := { s with at_ := s.at_ + lost }
def pceS (X : Ls) (i : Nat) (s : Md) : Md := frmK X (pcL X i).2 (lateS (pcL X i).2 (notS X i (pcL X i).2 (ledS X i s))) (1 + (pcL X i).1).toNat
def mdK (X : Ls) : Nat → Md
  | 0 => ⟨[], [], [], [], 0, 0⟩
  | i + 1 => pceS X i (mdK X i)
/-- How many frames of picture some frames have. -/
def cntP (l : List Int) : Int := ((l.filter fun x => decide (0 ≤ x)).length : Nat)
theorem cntP_app (l m : List Int) : cntP (l ++ m) = cntP l + cntP m := by unfold cntP; rw [List.filter_append, List.length_append]; omega
theorem cntP_neg (n : Nat) : cntP (List.replicate n (-1)) = 0 := by
  unfold cntP
  rw [List.filter_eq_nil_iff.2 (by intro a ha; rw [List.eq_of_mem_replicate ha]; decide)]; rfl
theorem cntP_nonneg (l : List Int) : 0 ≤ cntP l := by unfold cntP; omega
theorem intD_app1 {l m : List Int} {i : Nat} (h : i < l.length) : intD (l ++ m) i = intD l i := by unfold intD; rw [List.getD_eq_getElem?_getD, List.getD_eq_getElem?_getD, List.getElem?_append_left h]
theorem intD_app2 {l m : List Int} {i : Nat} (h : l.length ≤ i) : intD (l ++ m) i = intD m (i - l.length) := by unfold intD; rw [List.getD_eq_getElem?_getD, List.getD_eq_getElem?_getD, List.getElem?_append_right h]
theorem intD_rep {n i : Nat} {x : Int} (h : i < n) : intD (List.replicate n x) i = x := by unfold intD; rw [List.getD_eq_getElem?_getD, List.getElem?_replicate, if_pos h]; rfl
theorem sum_zero : ∀ n : Nat, (List.replicate n (0 : Int)).sum = 0
  | 0 => rfl
  | n + 1 => by rw [List.replicate_succ, List.sum_cons, sum_zero n]; rfl
theorem about_app (l m : List Note) (k f : Int) : about (l ++ m) k f = (about l k f || about m k f) := by unfold about; rw [List.any_append]
theorem about_one (x : Note) (k f : Int) : about [x] k f = (decide (x.kind = k) && inB f x.from_ x.until_) := by unfold about; simp
structure LsIn (X : Ls) : Prop where
  foot : X.foot = 16 ∨ X.foot = 40 ∨ X.foot = 80
  pieces : ∀ i, 0 ≤ (pcL X i).1 ∧ (pcL X i).1 ≤ 255 ∧ 0 ≤ (pcL X i).2 ∧ (pcL X i).2 ≤ 255
  wide : ∀ i, 0 ≤ turnV X.wide i
/-- What is true behind i pieces; in a piece (pend): the next frame has a lost frames ahead of it. -/
structure MdJ (X : Ls) (i : Nat) (pend : Bool) (a : Int) (s : Md) : Prop where
  len : s.ahead.length = s.all.length
  lead : ∀ f : Int, about s.notes 3 f = true ↔ (0 ≤ f ∧ f < s.all.length ∧ intD s.all f.toNat = -1)
  pos : ∀ f, f < s.all.length → intD s.all f = -1 ∨ 0 ≤ intD s.all f
  aheadb : ∀ f, f < s.all.length → 0 ≤ intD s.ahead f ∧ intD s.ahead f ≤ 255
  val : ∀ f, f < s.all.length → 0 ≤ intD s.all f → intD s.all f = cntP (s.all.take f) + (s.ahead.take (f + 1)).sum
  at_ : s.at_ = cntP s.all + s.ahead.sum + a
  atb : 0 ≤ s.at_
  start : ∀ f, f < s.all.length → intD s.ahead f ≠ 0 → 0 ≤ intD s.all f ∧ (f = 0 ∨ intD s.all (f - 1) = -1 ∨ about s.notes 1 f = true)
  now : a ≠ 0 → s.all.length = 0 ∨ intD s.all (s.all.length - 1) = -1 ∨ about s.notes 1 s.all.length = true
  splice : ∀ x ∈ s.notes, x.kind = 1 → x.by_ = ada ∧ (1 ≤ x.number ∧ x.number ≤ s.number) ∧ x.from_ = x.until_ ∧ 0 ≤ x.from_ ∧ ((x.from_ < s.all.length ∧ x.mlo ≤ intD s.ahead x.from_.toNat ∧ intD s.ahead x.from_.toNat ≤ x.mhi) ∨ (pend = true ∧ x.from_ = s.all.length ∧ x.mlo ≤ a ∧ a ≤ x.mhi))
  kinds : ∀ x ∈ s.notes, x.kind = 1 ∨ (x.kind = 3 ∧ x.by_ = eve ∧ 1 ≤ x.number ∧ x.number ≤ i)
  names : s.notes.Pairwise fun x y => ¬ (x.by_ = y.by_ ∧ x.number = y.number)
  marks : ∀ m ∈ s.marks, 0 ≤ m.frame ∧ m.frame < s.all.length ∧ 0 ≤ intD s.all m.frame.toNat ∧ m.number * X.foot = X.first + intD s.all m.frame.toNat ∧ m.roll = X.roll
theorem MdJ.pend {X : Ls} {i : Nat} {s : Md} (h : MdJ X i false 0 s) : MdJ X i true 0 s :=
  ⟨h.len, h.lead, h.pos, h.aheadb, h.val, h.at_, h.atb, h.start, h.now, (fun x hx hk => by
    obtain ⟨a, b, c, d, e⟩ := h.splice x hx hk
    rcases e with e | ⟨e, -⟩
    · exact ⟨a, b, c, d, .inl e⟩
    · cases e), h.kinds, h.names, h.marks⟩
theorem frm_inv {X : Ls} (hX : LsIn X) {i : Nat} {a : Int} (ha : 0 ≤ a ∧ a ≤ 255) {s : Md} (h : MdJ X i true a s) : MdJ X i false 0 (frm X a s) := by
  have hf0 : 0 < X.foot := by rcases hX.foot with h | h | h <;> omega
  have e1 : ∀ f, f < s.all.length → intD (s.all ++ [s.at_]) f = intD s.all f := fun f hf => intD_app1 hf
  have e2 : intD (s.all ++ [s.at_]) s.all.length = s.at_ := by rw [intD_app2 (Nat.le_refl _), Nat.sub_self]; rfl
  have g1 : ∀ f, f < s.all.length → intD (s.ahead ++ [a]) f = intD s.ahead f := fun f hf => intD_app1 (by rw [h.len]; exact hf)
  have g2 : intD (s.ahead ++ [a]) s.all.length = a := by rw [intD_app2 (by rw [h.len]; exact Nat.le_refl _), h.len, Nat.sub_self]; rfl
  have hl : (s.all ++ [s.at_]).length = s.all.length + 1 := by simp
  have hc : cntP (s.all ++ [s.at_]) = cntP s.all + 1 := by
    rw [cntP_app]
    have := h.atb
    unfold cntP
    simp [this]
  have hs : (s.ahead ++ [a]).sum = s.ahead.sum + a := by rw [sum_app]; simp
  have hat := h.at_; have hb := h.atb
  refine ⟨by simp [frm, h.len], fun f => ?_, fun f hf => ?_, fun f hf => ?_, fun f hf hv => ?_, ?_, ?_, fun f hf hn => ?_, fun h0 => absurd rfl h0, fun x hx hk => ?_, h.kinds, h.names, fun m hm => ?_⟩
  · show about s.notes 3 f = true ↔ _
    rw [h.lead f]
    simp only [frm, hl]
    constructor
    · rintro ⟨p, q, r⟩
      exact ⟨p, by omega, by rw [e1 _ (by omega)]; exact r⟩
    · rintro ⟨p, q, r⟩
      by_cases hq : f < s.all.length
      · exact ⟨p, hq, by rw [e1 _ (by omega)] at r; exact r⟩
      · rw [show f.toNat = s.all.length by omega, e2] at r; omega
  · simp only [frm, hl] at hf ⊢
    by_cases hq : f < s.all.length
    · rw [e1 f hq]; exact h.pos f hq
    · rw [show f = s.all.length by omega, e2]; exact .inr hb
  · simp only [frm, hl] at hf ⊢
    by_cases hq : f < s.all.length
    · rw [g1 f hq]; exact h.aheadb f hq
    · rw [show f = s.all.length by omega, g2]; exact ha
  · simp only [frm, hl] at hf hv ⊢
    by_cases hq : f < s.all.length
    · rw [e1 f hq] at hv ⊢
      rw [List.take_append_of_le_length (by omega), List.take_append_of_le_length (by rw [h.len]; omega)]
      exact h.val f hq hv
    · obtain rfl : f = s.all.length := by omega
      rw [e2, List.take_append_of_le_length (Nat.le_refl _), List.take_length, List.take_of_length_le (by simp [h.len]), hs]
      omega
  · simp only [frm]; rw [hc, hs]; omega
  · simp only [frm]; omega
  · simp only [frm, hl] at hf hn ⊢
    by_cases hq : f < s.all.length
    · rw [g1 f hq] at hn
      obtain ⟨p, q⟩ := h.start f hq hn
      rw [e1 f hq]
      refine ⟨p, ?_⟩
      rcases q with q | q | q
      · exact .inl q
      · exact .inr (.inl (by rw [e1 _ (by omega)]; exact q))
      · exact .inr (.inr q)
    · obtain rfl : f = s.all.length := by omega
      rw [g2] at hn
      rw [e2]
      refine ⟨hb, ?_⟩
      rcases h.now hn with q | q | q
      · exact .inl q
      · by_cases h0 : s.all.length = 0
        · exact .inl h0
        · exact .inr (.inl (by rw [e1 _ (by omega)]; exact q))
      · exact .inr (.inr q)
  · obtain ⟨p, q, r, t, u⟩ := h.splice x hx hk
    refine ⟨p, q, r, t, .inl ?_⟩
    simp only [frm, hl]
    rcases u with u | ⟨-, u1, u2⟩
    · refine ⟨by omega, ?_⟩
      rw [g1 _ (by omega)]; exact u.2
    · refine ⟨by omega, ?_⟩
      rw [show x.from_.toNat = s.all.length by omega, g2]; exact u2
  · have old : ∀ m ∈ s.marks, 0 ≤ m.frame ∧ m.frame < (s.all ++ [s.at_]).length ∧ 0 ≤ intD (s.all ++ [s.at_]) m.frame.toNat ∧ m.number * X.foot = X.first + intD (s.all ++ [s.at_]) m.frame.toNat ∧ m.roll = X.roll := fun m hm => by
      obtain ⟨p, q, r, t, u⟩ := h.marks m hm
      rw [e1 _ (by omega), hl]
      exact ⟨p, by omega, r, t, u⟩
    simp only [frm] at hm ⊢
    split at hm
    · rename_i hcnd
      rcases List.mem_append.1 hm with hm | hm
      · exact old m hm
      · obtain rfl : m = _ := by simpa using hm
        simp only [hl, Int.toNat_natCast, e2]
        refine ⟨by omega, by omega, hb, ?_, by trivial⟩
        have := Int.mul_ediv_add_emod (X.first + s.at_) X.foot
        rw [hcnd.1] at this
        rw [Int.mul_comm]; omega
    · exact old m hm
theorem frmK_inv {X : Ls} (hX : LsIn X) {i : Nat} {a : Int} (ha : 0 ≤ a ∧ a ≤ 255) {s : Md} (h : MdJ X i true a s) : ∀ k, MdJ X i false 0 (frmK X a s (k + 1))
  | 0 => frm_inv hX ha h
  | k + 1 => by
    have := frmK_inv hX ha h k
    exact frm_inv hX ⟨Int.le_refl _, by omega⟩ this.pend
theorem ledN_in (X : Ls) (i : Nat) : 0 ≤ ledN X i ∧ ledN X i < 40 := by unfold ledN; omega
theorem led_inv {X : Ls} {i : Nat} {s : Md} (h : MdJ X i false 0 s) : MdJ X (i + 1) false 0 (ledS X i s) := by
  unfold ledS
  split
  · rename_i hn
    obtain ⟨n, hn2⟩ : ∃ n : Nat, ledN X i = n := ⟨(ledN X i).toNat, by omega⟩
    rw [hn2, Int.toNat_natCast]
    have e1 : ∀ f, f < s.all.length → intD (s.all ++ List.replicate n (-1)) f = intD s.all f := fun f hf => intD_app1 hf
    have e2 : ∀ f, s.all.length ≤ f → f < s.all.length + n → intD (s.all ++ List.replicate n (-1)) f = -1 := fun f h1 h2 => by rw [intD_app2 h1, intD_rep (by omega)]
    have g1 : ∀ f, f < s.all.length → intD (s.ahead ++ List.replicate n 0) f = intD s.ahead f := fun f hf => intD_app1 (by rw [h.len]; exact hf)
    have g2 : ∀ f, s.all.length ≤ f → f < s.all.length + n → intD (s.ahead ++ List.replicate n 0) f = 0 := fun f h1 h2 => by rw [intD_app2 (by rw [h.len]; exact h1), intD_rep (by rw [h.len]; omega)]
    have hl : (s.all ++ List.replicate n (-1)).length = s.all.length + n := by simp
    have hab : ∀ f : Int, about (s.notes ++ [⟨eve, (i : Int) + 1, 0, 3, s.all.length, s.all.length + n - 1, 0, 0⟩]) 1 f = about s.notes 1 f := fun f => by rw [about_app, about_one]; simp
    refine ⟨by simp [h.len], fun f => ?_, fun f hf => ?_, fun f hf => ?_, fun f hf hv => ?_, ?_, h.atb, fun f hf hn => ?_, fun h0 => absurd rfl h0, fun x hx hk => ?_, fun x hx => ?_, ?_, fun m hm => ?_⟩
    · rw [about_app, about_one, Bool.or_eq_true, h.lead f, hl]
      simp only [decide_true, Bool.true_and, inB_iff]
      constructor
      · rintro (⟨p, q, r⟩ | ⟨p, q⟩)
        · exact ⟨p, by omega, by rw [e1 _ (by omega)]; exact r⟩
        · exact ⟨by omega, by omega, e2 _ (by omega) (by omega)⟩
      · rintro ⟨p, q, r⟩
        by_cases hq : f < s.all.length
        · exact .inl ⟨p, hq, by rw [e1 _ (by omega)] at r; exact r⟩
        · exact .inr (by omega)
    · rw [hl] at hf
      by_cases hq : f < s.all.length
      · rw [e1 f hq]; exact h.pos f hq
      · exact .inl (e2 f (by omega) (by omega))
    · rw [hl] at hf
      by_cases hq : f < s.all.length
      · rw [g1 f hq]; exact h.aheadb f hq
      · rw [g2 f (by omega) (by omega)]; omega
    · rw [hl] at hf
      by_cases hq : f < s.all.length
      · rw [e1 f hq] at hv ⊢
        rw [List.take_append_of_le_length (by omega), List.take_append_of_le_length (by rw [h.len]; omega)]
        exact h.val f hq hv
      · rw [e2 f (by omega) (by omega)] at hv; omega
    · rw [cntP_app, cntP_neg, sum_app, sum_zero]; have := h.at_; simp only; omega
    · rw [hl] at hf
      by_cases hq : f < s.all.length
      · rw [g1 f hq] at hn
        obtain ⟨p, q⟩ := h.start f hq hn
        rw [e1 f hq]
        refine ⟨p, ?_⟩
        rcases q with q | q | q
        · exact .inl q
        · exact .inr (.inl (by rw [e1 _ (by omega)]; exact q))
        · exact .inr (.inr (by rw [hab]; exact q))
      · exact absurd (g2 f (by omega) (by omega)) hn
    · rcases List.mem_append.1 hx with hx | hx
      · obtain ⟨p, q, r, t, u⟩ := h.splice x hx hk
        refine ⟨p, q, r, t, ?_⟩
        rcases u with u | ⟨u, -⟩
        · exact .inl ⟨by rw [hl]; omega, by rw [g1 _ (by omega)]; exact u.2⟩
        · cases u
      · obtain rfl : x = _ := by simpa using hx
        simp at hk
    · rcases List.mem_append.1 hx with hx | hx
      · rcases h.kinds x hx with q | ⟨q, r, t, u⟩
        · exact .inl q
        · exact .inr ⟨q, r, t, by omega⟩
      · obtain rfl : x = _ := by simpa using hx
        exact .inr ⟨rfl, rfl, by simp only; omega, by simp only; omega⟩
    · refine List.pairwise_append.2 ⟨h.names, by simp, fun x hx y hy => ?_⟩
      obtain rfl : y = _ := by simpa using hy
      rintro ⟨n1, n2⟩
      simp only at n1 n2
      rcases h.kinds x hx with q | ⟨q, r, t, u⟩
      · have := (h.splice x hx q).1
        rw [this] at n1
        exact absurd n1 (by decide)
      · omega
    · obtain ⟨p, q, r, t, u⟩ := h.marks m hm
      rw [hl, e1 _ (by omega)]
      exact ⟨p, by omega, r, t, u⟩
  · exact ⟨h.len, h.lead, h.pos, h.aheadb, h.val, h.at_, h.atb, h.start, h.now, h.splice, fun x hx => by
      rcases h.kinds x hx with q | ⟨q, r, t, u⟩
      · exact .inl q
      · exact .inr ⟨q, r, t, by omega⟩, h.names, h.marks⟩
/-- One note of a splice at the frame that comes next. -/
theorem spl_inv {X : Ls} (hX : LsIn X) {i : Nat} {a : Int} (ha : 0 ≤ a) {s : Md} (h : MdJ X i true a (lateS a s)) : MdJ X i true a (lateS a (splS X a s)) := by
  have w1 := hX.wide (s.number + 1); have w2 := hX.wide (s.number + 2)
  have h3 : ∀ f : Int, about (splS X a s).notes 3 f = about s.notes 3 f := fun f => by simp only [splS]; rw [about_app, about_one]; simp
  have h1 : ∀ f : Int, about s.notes 1 f = true → about (splS X a s).notes 1 f = true := fun f hf => by simp only [splS]; rw [about_app, hf]; rfl
  refine ⟨h.len, fun f => ?_, h.pos, h.aheadb, h.val, h.at_, h.atb, fun f hf hn => ?_, fun _ => .inr (.inr ?_), fun x hx hk => ?_, fun x hx => ?_, ?_, h.marks⟩
  · have := h.lead f
    simp only [lateS] at this ⊢
    rw [h3]; exact this
  · obtain ⟨p, q⟩ := h.start f hf hn
    refine ⟨p, ?_⟩
    rcases q with q | q | q
    · exact .inl q
    · exact .inr (.inl q)
    · exact .inr (.inr (h1 _ q))
  · simp only [lateS, splS]
    rw [about_app, about_one]
    simp only [decide_true, Bool.true_and, Bool.or_eq_true, inB_iff]
    exact .inr ⟨Int.le_refl _, Int.le_refl _⟩
  · simp only [lateS, splS] at hx ⊢
    rcases List.mem_append.1 hx with hx | hx
    · obtain ⟨p, q, r, t, u⟩ := h.splice x hx hk
      simp only [lateS] at q u
      exact ⟨p, ⟨q.1, by omega⟩, r, t, u⟩
    · obtain rfl : x = _ := by simpa using hx
      refine ⟨by trivial, ⟨by simp only; omega, by simp only; omega⟩, by trivial, by simp only; omega, .inr ⟨by trivial, by trivial, ?_, ?_⟩⟩
      · simp only; omega
      · simp only; omega
  · simp only [lateS, splS] at hx
    rcases List.mem_append.1 hx with hx | hx
    · exact h.kinds x hx
    · obtain rfl : x = _ := by simpa using hx
      exact .inl rfl
  · simp only [lateS, splS]
    refine List.pairwise_append.2 ⟨h.names, by simp, fun x hx y hy => ?_⟩
    obtain rfl : y = _ := by simpa using hy
    rintro ⟨n1, n2⟩
    simp only at n1 n2
    rcases h.kinds x hx with q | ⟨q, r, t, u⟩
    · have := (h.splice x hx q).2.1
      simp only [lateS] at this
      omega
    · rw [r] at n1
      exact absurd n1 (by decide)
theorem MdJ.late {X : Ls} {i : Nat} {a : Int} {s : Md} (ha : 0 ≤ a) (h : MdJ X i false 0 s) (hn : a ≠ 0 → s.all.length = 0 ∨ intD s.all (s.all.length - 1) = -1) : MdJ X i true a (lateS a s) :=
  ⟨h.len, h.lead, h.pos, h.aheadb, h.val, by have := h.at_; simp only [lateS]; omega, by have := h.atb; simp only [lateS]; omega, h.start, (fun h0 => by
    rcases hn h0 with q | q
    · exact .inl q
    · exact .inr (.inl q)), (fun x hx hk => by
    obtain ⟨p, q, r, t, u⟩ := h.splice x hx hk
    rcases u with u | ⟨u, -⟩
    · exact ⟨p, q, r, t, .inl u⟩
    · cases u), h.kinds, h.names, h.marks⟩
/-- As MdJ.late, but a note will stand there. -/
theorem MdJ.spl {X : Ls} (hX : LsIn X) {i : Nat} {a : Int} {s : Md} (ha : 0 ≤ a) (h : MdJ X i false 0 s) : MdJ X i true a (lateS a (splS X a s)) := by
  by_cases h0 : a = 0
  · exact spl_inv hX ha (h.late ha fun h1 => absurd h0 h1)
  · have w1 := hX.wide (s.number + 1); have w2 := hX.wide (s.number + 2)
    have h3 : ∀ f : Int, about (splS X a s).notes 3 f = about s.notes 3 f := fun f => by simp only [splS]; rw [about_app, about_one]; simp
    have h1 : ∀ f : Int, about s.notes 1 f = true → about (splS X a s).notes 1 f = true := fun f hf => by simp only [splS]; rw [about_app, hf]; rfl
    refine ⟨h.len, fun f => ?_, h.pos, h.aheadb, h.val, by have := h.at_; simp only [lateS, splS]; omega, by have := h.atb; simp only [lateS, splS]; omega, fun f hf hn => ?_, fun _ => .inr (.inr ?_), fun x hx hk => ?_, fun x hx => ?_, ?_, h.marks⟩
    · have := h.lead f
      simp only [lateS]
      rw [h3]; exact this
    · obtain ⟨p, q⟩ := h.start f hf hn
      refine ⟨p, ?_⟩
      rcases q with q | q | q
      · exact .inl q
      · exact .inr (.inl q)
      · exact .inr (.inr (h1 _ q))
    · simp only [lateS, splS]
      rw [about_app, about_one]
      simp only [decide_true, Bool.true_and, Bool.or_eq_true, inB_iff]
      exact .inr ⟨Int.le_refl _, Int.le_refl _⟩
    · simp only [lateS, splS] at hx ⊢
      rcases List.mem_append.1 hx with hx | hx
      · obtain ⟨p, q, r, t, u⟩ := h.splice x hx hk
        rcases u with u | ⟨u, -⟩
        · exact ⟨p, ⟨q.1, by omega⟩, r, t, .inl u⟩
        · cases u
      · obtain rfl : x = _ := by simpa using hx
        refine ⟨by trivial, ⟨by simp only; omega, by simp only; omega⟩, by trivial, by simp only; omega, .inr ⟨by trivial, by trivial, ?_, ?_⟩⟩
        · simp only; omega
        · simp only; omega
    · simp only [lateS, splS] at hx
      rcases List.mem_append.1 hx with hx | hx
      · exact h.kinds x hx
      · obtain rfl : x = _ := by simpa using hx
        exact .inl rfl
    · simp only [lateS, splS]
      refine List.pairwise_append.2 ⟨h.names, by simp, fun x hx y hy => ?_⟩
      obtain rfl : y = _ := by simpa using hy
      rintro ⟨n1, n2⟩
      simp only at n1 n2
      rcases h.kinds x hx with q | ⟨q, r, t, u⟩
      · have := (h.splice x hx q).2.1
        omega
      · rw [r] at n1
        exact absurd n1 (by decide)
theorem pce_inv {X : Ls} (hX : LsIn X) {i : Nat} {s : Md} (h : MdJ X i false 0 s) (hz : i = 0 → s.all = []) : MdJ X (i + 1) false 0 (pceS X i s) := by
  have hl := led_inv h
  have hp := hX.pieces i
  have hneg : i = 0 → ∀ f, f < (ledS X i s).all.length → intD (ledS X i s).all f = -1 := fun h0 f hf => by
    unfold ledS at hf ⊢
    split at hf
    · rename_i hn
      rw [if_pos hn]
      simp only [hz h0, List.nil_append] at hf ⊢
      exact intD_rep (by simpa using hf)
    · rw [hz h0] at hf; simp at hf
  obtain ⟨s1, hs1⟩ : ∃ t, t = ledS X i s := ⟨_, rfl⟩
  unfold pceS
  rw [← hs1] at hl hneg ⊢
  obtain ⟨⟨n, lost⟩, hpc⟩ : ∃ p, p = pcL X i := ⟨_, rfl⟩
  rw [← hpc] at hp ⊢
  simp only at hp ⊢
  obtain ⟨k, hk⟩ : ∃ k : Nat, (1 + n).toNat = k + 1 := ⟨n.toNat, by omega⟩
  rw [hk]
  refine frmK_inv hX ⟨by omega, by omega⟩ ?_ k
  unfold notS
  cases hb : notB X i s1 with
  | true =>
    rw [if_pos rfl]
    split
    · exact spl_inv hX (by omega) (hl.spl hX (by omega))
    · exact hl.spl hX (by omega)
  | false =>
    rw [if_neg (by simp)]
    refine hl.late (by omega) fun _ => ?_
    unfold notB at hb
    rw [Bool.or_eq_false_iff, Bool.and_eq_false_iff] at hb
    by_cases hlen : s1.all.length = 0
    · exact .inl hlen
    · refine .inr ?_
      rcases hb.2 with q | q
      · have : i = 0 := by have := of_decide_eq_false q; omega
        exact hneg this _ (by omega)
      · have := of_decide_eq_false q
        rcases hl.pos (s1.all.length - 1) (by omega) with r | r
        · exact r
        · exact absurd r this
theorem mdK_inv {X : Ls} (hX : LsIn X) : ∀ i, MdJ X i false 0 (mdK X i)
  | 0 => by
    refine ⟨rfl, fun f => ?_, fun f hf => by simp [mdK] at hf, fun f hf => by simp [mdK] at hf, fun f hf => by simp [mdK] at hf, rfl, Int.le_refl _, fun f hf => by simp [mdK] at hf, fun h0 => absurd rfl h0, fun x hx => by simp [mdK] at hx, fun x hx => by simp [mdK] at hx, by simp [mdK], fun m hm => by simp [mdK] at hm⟩
    simp only [mdK, about, List.any_nil, List.length_nil]
    constructor
    · intro h; cases h
    · rintro ⟨h1, h2, -⟩; omega
  | i + 1 => pce_inv hX (mdK_inv hX i) fun h0 => by subst h0; rfl
end Go.Proofs.YtapeakbngligaaaGreatDoor.D
namespace Go.Proofs.YtapeakbngligaaaGreatDoor.D
set_option linter.unusedVariables false
theorem about_mem {l m : List Note} (h : ∀ x, x ∈ l ↔ x ∈ m) (k f : Int) : about l k f = about m k f := by
  unfold about
  rw [Bool.eq_iff_iff, List.any_eq_true, List.any_eq_true]
  constructor
  · rintro ⟨x, hx, h1⟩; exact ⟨x, (h x).1 hx, h1⟩
  · rintro ⟨x, hx, h1⟩; exact ⟨x, (h x).2 hx, h1⟩
theorem stand_all {l : List Note} (h : l.Pairwise fun x y => ¬ (x.by_ = y.by_ ∧ x.number = y.number)) (x : Note) : x ∈ standV l ↔ x ∈ l := by
  rw [standV_mem, standsB_iff]
  constructor
  · exact fun h => h.1
  · intro hx
    refine ⟨hx, fun y hy h1 h2 => ?_⟩
    have : y = x := by
      obtain ⟨i, hi, rfl⟩ := List.mem_iff_getElem.1 hx
      obtain ⟨j, hj, rfl⟩ := List.mem_iff_getElem.1 hy
      have h' := List.pairwise_iff_getElem.1 h
      rcases Nat.lt_trichotomy i j with q | q | q
      · exact absurd ⟨h1.symm, h2.symm⟩ (h' i j hi hj q)
      · subst q; rfl
      · exact absurd ⟨h1, h2⟩ (h' j i hj hi q)
    subst this
    exact ⟨Int.le_refl _, fun _ => rfl⟩
theorem take_one {l : List Int} {f : Nat} (hf : f < l.length) : l.take (f + 1) = l.take f ++ [intD l f] := by
  rw [List.take_succ_eq_append_getElem hf]
  unfold intD; rw [List.getD_eq_getElem?_getD, List.getElem?_eq_getElem hf]; rfl
theorem picB_cnt {N : List Note} {all : List Int} (h : ∀ f : Nat, f < all.length → (about N 3 f = true ↔ intD all f = -1)) (hp : ∀ f, f < all.length → intD all f = -1 ∨ 0 ≤ intD all f) : ∀ f, f ≤ all.length → picB N f = cntP (all.take f)
  | 0, _ => rfl
  | f + 1, hf => by
    have ih := picB_cnt h hp f (by omega)
    rw [picB, ih, take_one (by omega), cntP_app]
    have h1 := h f (by omega)
    rcases hp f (by omega) with q | q
    · rw [if_pos (h1.2 q), q]; rfl
    · rw [if_neg (fun hc => by have := h1.1 hc; omega)]
      unfold cntP; simp [q]
theorem filter_none {l : List Gap} {k : Int} (h : ∀ x ∈ l, x.frame ≠ k) : (l.filter fun y => decide (y.frame = k)) = [] := by
  rw [List.filter_eq_nil_iff]; intro x hx; simp [h x hx]
/-- Two lists of gaps of one list, with the same members, have the same sum. -/
theorem sumG_same {l : List Gap} (h : InFr l) {p q : Gap → Bool} (n : Gap → Int) (hpq : ∀ x ∈ l, p x = q x) : sumG n (l.filter p) = sumG n (l.filter q) := by rw [List.filter_congr hpq]
/-- Ahead of a frame all is missing that is missing at gaps up to it. -/
theorem cum_sum {gs : List Gap} (h : InFr gs) {ahead : List Int} {n : Gap → Int} (hn : ∀ x ∈ gs, 0 ≤ x.frame → x.frame < (ahead.length : Int) → n x = intD ahead x.frame.toNat) (h0 : ∀ x ∈ gs, 0 ≤ x.frame) (hc : ∀ f, f < ahead.length → intD ahead f ≠ 0 → ∃ x ∈ gs, x.frame = (f : Int)) :
    ∀ k : Nat, k ≤ ahead.length → sumG n (gs.filter fun x => decide (x.frame < (k : Int))) = (ahead.take k).sum
  | 0, _ => by
    rw [List.filter_eq_nil_iff.2 (by intro x hx; have := h0 x hx; simp; omega)]; rfl
  | k + 1, hk => by
    have ih := cum_sum h hn h0 hc k (by omega)
    rw [take_one (by omega), sum_app, ← ih, sumG_split n (fun x => decide (x.frame < (k : Int))) (gs.filter fun x => decide (x.frame < ((k + 1 : Nat) : Int))), List.filter_filter, List.filter_filter]
    have e1 : (gs.filter fun x => decide (x.frame < (k : Int)) && decide (x.frame < ((k + 1 : Nat) : Int))) = gs.filter fun x => decide (x.frame < (k : Int)) := List.filter_congr fun x _ => by
      by_cases hx : x.frame < (k : Int)
      · rw [decide_eq_true hx, decide_eq_true (by omega)]; rfl
      · rw [decide_eq_false hx]; rfl
    have e2 : (gs.filter fun x => !decide (x.frame < (k : Int)) && decide (x.frame < ((k + 1 : Nat) : Int))) = gs.filter fun x => decide (x.frame = (k : Int)) := List.filter_congr fun x _ => by
      by_cases hx : x.frame = (k : Int)
      · rw [decide_eq_true hx, decide_eq_false (by omega), decide_eq_true (by omega)]; rfl
      · rw [decide_eq_false hx]
        by_cases h2 : x.frame < (k : Int)
        · rw [decide_eq_true h2]; rfl
        · rw [decide_eq_false h2, decide_eq_false (by omega)]; rfl
    rw [e1, e2]
    congr 1
    rw [List.sum_singleton]
    by_cases hx : ∃ x ∈ gs, x.frame = (k : Int)
    · obtain ⟨x, hx, he⟩ := hx
      have := filter_one h hx
      rw [he] at this
      rw [this, sumG_one, hn x hx (by omega) (by omega), he, Int.toNat_natCast]
    · rw [filter_none fun x hx2 he => hx ⟨x, hx2, he⟩]
      by_cases h9 : intD ahead k = 0
      · rw [h9]; rfl
      · exact absurd (hc k (by omega) h9) hx
theorem betw_sum {gs : List Gap} {n : Gap → Int} {a b : Nat} (hab : a ≤ b) {A B : Int} (hA : sumG n (gs.filter fun x => decide (x.frame < (a : Int))) = A) (hB : sumG n (gs.filter fun x => decide (x.frame < (b : Int))) = B) {p : Gap → Bool} (hp : ∀ x ∈ gs, p x = (decide ((a : Int) ≤ x.frame) && decide (x.frame < (b : Int)))) : sumG n (gs.filter p) = B - A := by
  rw [sumG_split n (fun x => decide (x.frame < (a : Int))) (gs.filter fun x => decide (x.frame < (b : Int))), List.filter_filter, List.filter_filter] at hB
  have e1 : (gs.filter fun x => decide (x.frame < (a : Int)) && decide (x.frame < (b : Int))) = gs.filter fun x => decide (x.frame < (a : Int)) := List.filter_congr fun x _ => by
    by_cases hx : x.frame < (a : Int)
    · rw [decide_eq_true hx, decide_eq_true (by omega)]; rfl
    · rw [decide_eq_false hx]; rfl
  have e2 : (gs.filter fun x => !decide (x.frame < (a : Int)) && decide (x.frame < (b : Int))) = gs.filter p := List.filter_congr fun x hx => by
    rw [hp x hx]
    by_cases hx : x.frame < (a : Int)
    · rw [decide_eq_true hx, decide_eq_false (show ¬ (a : Int) ≤ x.frame by omega)]; rfl
    · rw [decide_eq_false hx, decide_eq_true (show (a : Int) ≤ x.frame by omega)]; rfl
  rw [e1, e2, hA] at hB
  omega
theorem part_sumP {gs : List Gap} {all : List Grp} (h : ∀ n : Gap → Int, (all.map fun g => sumG n g.gaps).sum = sumG n gs) (n : Gap → Int) (p : Gap → Bool) : (all.map fun g => sumG n (g.gaps.filter p)).sum = sumG n (gs.filter p) := by
  have e : ∀ l : List Gap, sumG (fun x => if p x then n x else 0) l = sumG n (l.filter p) := fun l => by
    induction l with
    | nil => rfl
    | cons x l ih =>
      rw [sumG, ih, List.filter_cons]
      cases hp : p x
      · simp
      · simp [sumG]
  have := h fun x => if p x then n x else 0
  simp only [e] at this
  exact this
theorem told_true {f v : Int} : ∀ {l : List Note} {t : Told}, (∀ x ∈ l, x.kind = 1 → x.from_ = f → x.mlo ≤ v ∧ v ≤ x.mhi) → (t.is.lo ≤ v ∧ v ≤ t.is.hi) → t.struck = [] → ((l.foldl (toldS f) t).is.lo ≤ v ∧ v ≤ (l.foldl (toldS f) t).is.hi) ∧ (l.foldl (toldS f) t).struck = []
  | [], _, _, h, g => ⟨h, g⟩
  | x :: l, t, hl, h, g => by
    rw [List.foldl_cons]
    have hx := hl x (by simp)
    refine told_true (fun y hy => hl y (by simp [hy])) ?_ ?_
    · unfold toldS
      split
      · exact h
      · rename_i h1
        have h2 := hx (Decidable.not_not.1 fun e => h1 (.inl e)) (Decidable.not_not.1 fun e => h1 (.inr e))
        split
        · exact h2
        · split
          · exact h
          · unfold comS; simp only; omega
    · unfold toldS
      split
      · exact g
      · rename_i h1
        have h2 := hx (Decidable.not_not.1 fun e => h1 (.inl e)) (Decidable.not_not.1 fun e => h1 (.inr e))
        split
        · exact g
        · split
          · rename_i h3; unfold comS at h3; simp only at h3; omega
          · exact g
theorem gapS_true {N : List Note} {v : Int → Int} {F : Int} (hv : ∀ f, 0 ≤ f → f < F → (0 ≤ v f ∧ v f ≤ 400000) ∧ ((toldV N f).is.lo ≤ v f ∧ v f ≤ (toldV N f).is.hi) ∧ (toldV N f).struck = []) : ∀ {P : List Piece} {st : List Gap × List Strike}, (∀ p ∈ P, 0 ≤ p.from_ ∧ p.from_ < F) → (∀ x ∈ st.1, x.lo ≤ v x.frame ∧ v x.frame ≤ x.hi) → st.2 = [] → (∀ x ∈ (P.foldl (gapS N) st).1, x.lo ≤ v x.frame ∧ v x.frame ≤ x.hi) ∧ (P.foldl (gapS N) st).2 = []
  | [], _, _, h, g => ⟨h, g⟩
  | p :: P, st, hp, h, g => by
    rw [List.foldl_cons]
    have hq := hv p.from_ (hp p (by simp)).1 (hp p (by simp)).2
    refine gapS_true hv (fun q hq => hp q (by simp [hq])) ?_ ?_
    · unfold gapS
      split
      · exact h
      · split
        · intro x hx
          rcases List.mem_append.1 hx with hx | hx
          · exact h x hx
          · obtain rfl : x = _ := by simpa using hx
            exact hq.1
        · intro x hx
          rcases List.mem_append.1 hx with hx | hx
          · exact h x hx
          · obtain rfl : x = _ := by simpa using hx
            exact hq.2.1
    · unfold gapS
      split
      · exact g
      · split
        · exact g
        · simp only; rw [g, hq.2.2]; rfl
structure TrueA (T : Task) (s : Md) (en : Int) : Prop where
  ok : okT T = true
  struck : (gapsT T).2 = []
  wrong : (grpsT T).2 = []
  two : 2 ≤ (gapsT T).1.length
  gap : ∀ y ∈ ansV (gapsT T).1 (grpsT T).1, (y.kind ≠ 3 → (0 ≤ y.frame ∧ y.frame < (s.ahead.length : Int)) ∧ y.lo ≤ intD s.ahead y.frame.toNat ∧ intD s.ahead y.frame.toNat ≤ y.hi) ∧ (y.kind = 3 → y.lo ≤ en ∧ en ≤ y.hi)
  lead : ∀ f : Nat, f < s.all.length → intD s.all f < 0 → about (standV T.notes) 3 f = true
  pict : ∀ f : Nat, f < s.all.length → 0 ≤ intD s.all f → about (standV T.notes) 3 f = false ∧ (placeG (standV T.notes) (grpsT T).1 f).lo ≤ intD s.all f ∧ intD s.all f ≤ (placeG (standV T.notes) (grpsT T).1 f).hi
theorem last_pict {X : Ls} (hX : LsIn X) (i : Nat) (hl : 0 < (mdK X i).all.length) : ∃ f, f < (mdK X i).all.length ∧ 0 ≤ intD (mdK X i).all f := by
  cases i with
  | zero => simp [mdK] at hl
  | succ i =>
    have hp := hX.pieces i
    obtain ⟨k, hk⟩ : ∃ k : Nat, (1 + (pcL X i).1).toNat = k + 1 := ⟨(pcL X i).1.toNat, by omega⟩
    have hinv := mdK_inv hX (i + 1)
    have e : ∃ s a, mdK X (i + 1) = frm X a s := ⟨_, _, by rw [mdK, pceS, hk, frmK]⟩
    obtain ⟨s, a, e⟩ := e
    rw [e] at hinv ⊢
    have h1 : (frm X a s).all = s.all ++ [s.at_] := rfl
    have h2 : (frm X a s).all.length = s.all.length + 1 := by rw [h1]; simp
    have h3 : intD (frm X a s).all s.all.length = s.at_ := by rw [h1, intD_app2 (Nat.le_refl _), Nat.sub_self]; rfl
    refine ⟨s.all.length, by omega, ?_⟩
    rcases hinv.pos s.all.length (by omega) with q | q
    · rw [h3] at q
      have := hinv.atb
      have h4 : (frm X a s).at_ = s.at_ + 1 := rfl
      rcases Int.lt_or_le s.at_ 0 with h5 | h5
      · have hl3 := (hinv.lead s.all.length).2 ⟨by omega, by omega, by rw [Int.toNat_natCast, h3]; exact q⟩
        exfalso
        have hat := hinv.at_
        rw [h4, q] at hat
        have hc := cntP_nonneg (frm X a s).all
        have hs : (frm X a s).ahead.sum = 0 ∧ cntP (frm X a s).all = 0 → False := fun ⟨_, _⟩ => by
          have : frmK X (pcL X i).2 (lateS (pcL X i).2 (notS X i (pcL X i).2 (ledS X i (mdK X i)))) (k + 1) = frm X a s := by rw [← e, mdK, pceS, hk]
          rw [frmK] at this
          have hj : ∀ (n : Nat), 0 ≤ (frmK X (pcL X i).2 (lateS (pcL X i).2 (notS X i (pcL X i).2 (ledS X i (mdK X i)))) n).at_ := fun n => by
            induction n with
            | zero =>
              simp only [frmK, lateS]
              have h6 := (mdK_inv hX i).atb
              have e1 : (ledS X i (mdK X i)).at_ = (mdK X i).at_ := by unfold ledS; split <;> rfl
              have e2 : (notS X i (pcL X i).2 (ledS X i (mdK X i))).at_ = (ledS X i (mdK X i)).at_ := by unfold notS; split <;> (try split) <;> rfl
              rw [e2, e1]; omega
            | succ n ih => simp only [frmK, frm]; omega
          have := congrArg Md.at_ this
          simp only [frm] at this
          have := hj k
          omega
        have hsn : 0 ≤ (frm X a s).ahead.sum := by
          have hb : ∀ x ∈ (frm X a s).ahead, 0 ≤ x := fun x hx => by
            obtain ⟨j, hj, rfl⟩ := List.mem_iff_getElem.1 hx
            have := (hinv.aheadb j (by rw [← hinv.len]; exact hj)).1
            unfold intD at this
            rwa [List.getD_eq_getElem?_getD, List.getElem?_eq_getElem hj] at this
          have : ∀ l : List Int, (∀ x ∈ l, 0 ≤ x) → 0 ≤ l.sum := fun l => by
            induction l with
            | nil => intro _; simp
            | cons x l ih => intro h; have := h x (by simp); have := ih fun y hy => h y (by simp [hy]); rw [List.sum_cons]; omega
          exact this _ hb
        exact hs ⟨by omega, by omega⟩
      · rw [h3]; exact h5
    · exact q
theorem true_ans {X : Ls} (hX : LsIn X) {i : Nat} {T : Task} {en : Int} (hc : (checkV T).2.2 = 0) (hn : T.notes = (mdK X i).notes) (hm : T.reel.marks = (mdK X i).marks) (hfr : T.reel.frames = (mdK X i).all.length) (hft : footV T.reel.gauge = X.foot) (hen : 0 ≤ en ∧ en ≤ 255) (hw : T.whole.lo ≤ (mdK X i).at_ + en ∧ (mdK X i).at_ + en ≤ T.whole.hi) : TrueA T (mdK X i) en := by
  have hj := mdK_inv hX i
  have hlp := last_pict hX i
  obtain ⟨s, hs⟩ : ∃ s, s = mdK X i := ⟨_, rfl⟩
  rw [← hs] at hj hn hm hfr hw hlp ⊢
  clear hs
  have hok := task_ok hc
  obtain ⟨F, hF⟩ : ∃ F, F = s.all.length := ⟨_, rfl⟩
  have hF1 : 1 ≤ F ∧ F ≤ 200000 := by have := hok.reel.frames; omega
  obtain ⟨fp, hfp, hfp2⟩ := hlp (by omega)
  obtain ⟨N, hN⟩ : ∃ N, N = standV T.notes := ⟨_, rfl⟩
  have hmem : ∀ x, x ∈ N ↔ x ∈ s.notes := fun x => by rw [hN, hn]; exact stand_all hj.names x
  have hab : ∀ k f, about N k f = about s.notes k f := about_mem hmem
  have hst : ∀ x ∈ N, NoteOk x := fun x hx => (hok.note x (by rw [hn]; exact (hmem x).1 hx)).1
  have hbe : ∀ x ∈ N, x.until_ < (F : Int) := fun x hx => by have := (hok.note x (by rw [hn]; exact (hmem x).1 hx)).2; omega
  have hlead : ∀ f : Nat, f < F → (about N 3 f = true ↔ intD s.all f = -1) := fun f hf => by
    rw [hab, hj.lead]; constructor
    · rintro ⟨-, -, h⟩; simpa using h
    · intro h; exact ⟨by omega, by omega, by simpa using h⟩
  have hpic : ∀ f, f ≤ F → picB N f = cntP (s.all.take f) := by rw [hF] at hlead ⊢; exact picB_cnt hlead hj.pos
  have hno : ∀ f : Nat, f < F → 0 ≤ intD s.all f → about N 3 f = false := fun f hf h => by
    cases hq : about N 3 f
    · rfl
    · have := (hlead f hf).1 hq; omega
  obtain ⟨gs, hgs⟩ : ∃ g, g = (gapsN F N).1 := ⟨_, rfl⟩
  have eg : gapsT T = gapsN F N := by unfold gapsT; rw [hfr, Int.toNat_natCast, ← hF, ← hN]
  have hpi := pieceK_inv N F
  have hgi := gaps_inv hst F
  have hgo : GapsOk F gs := by rw [hgs]; exact gapsN_ok hst F
  obtain ⟨G, hG⟩ : ∃ G, G = ((pieceK N F).foldl (gapS N) ([], [])).1 := ⟨_, rfl⟩
  -- what notes tell is true, and none is struck
  have hv : ∀ f, 0 ≤ f → f < (F : Int) → (0 ≤ intD s.ahead f.toNat ∧ intD s.ahead f.toNat ≤ 400000) ∧ ((toldV N f).is.lo ≤ intD s.ahead f.toNat ∧ intD s.ahead f.toNat ≤ (toldV N f).is.hi) ∧ (toldV N f).struck = [] := fun f h0 h1 => by
    have hb := hj.aheadb f.toNat (by omega)
    refine ⟨by omega, ?_⟩
    unfold toldV
    refine told_true (fun x hx hk hf => ?_) (by simp only; omega) rfl
    obtain ⟨-, -, -, h4, h5⟩ := hj.splice x ((hmem x).1 hx) hk
    rcases h5 with h5 | ⟨h5, -⟩
    · rw [hf] at h5; exact h5.2
    · cases h5
  obtain ⟨htr, hstk⟩ := gapS_true (N := N) (v := fun f => intD s.ahead f.toNat) (F := F) hv (P := pieceK N F) (st := ([], [])) (fun p hp => by have := hpi.chain.mem p hp; omega) (by simp) rfl
  rw [← hG] at htr hgi
  obtain ⟨p, hp, hpl, hp1, hp2⟩ := piece_of (N := N) (F := F) (f := (fp : Int)) (by omega) (by omega) (hno fp (by omega) hfp2)
  obtain ⟨g0, hg0, -⟩ := hgi.all p hp hpl
  have hGl : 0 < G.length := List.length_pos_of_mem hg0
  have egs : gs = G ++ [⟨F, 3, 0, 400000⟩] ∧ (gapsN F N).2 = [] := by
    rw [hgs]; unfold gapsN; simp only
    rw [← hG, if_neg (by omega)]
    exact ⟨rfl, hstk⟩
  -- the truth of a gap
  obtain ⟨n, hnd⟩ : ∃ n : Gap → Int, n = fun x => if x.frame = (F : Int) then en else intD s.ahead x.frame.toNat := ⟨_, rfl⟩
  have hn1 : ∀ x : Gap, x.frame < (F : Int) → n x = intD s.ahead x.frame.toNat := fun x hx => by rw [hnd]; simp only; rw [if_neg (by omega)]
  have hn2 : ∀ x : Gap, x.frame = (F : Int) → n x = en := fun x hx => by rw [hnd]; simp only; rw [if_pos hx]
  have hGf : ∀ x ∈ G, 0 ≤ x.frame ∧ x.frame < (F : Int) ∧ (x.kind = 1 ∨ x.kind = 2) := fun x hx => by have := hgi.mem x hx; exact ⟨this.1, this.2.1, this.2.2.2.2.2.1⟩
  have hin : ∀ x ∈ gs, x.lo ≤ n x ∧ n x ≤ x.hi := fun x hx => by
    rw [egs.1] at hx
    rcases List.mem_append.1 hx with hx | hx
    · rw [hn1 x (hGf x hx).2.1]; exact htr x hx
    · obtain rfl : x = _ := by simpa using hx
      rw [hn2 _ rfl]; simp only; omega
  have h0 : ∀ x ∈ gs, 0 ≤ x.frame := fun x hx => (hgo.mem x hx).1
  have hcov : ∀ f, f < s.ahead.length → intD s.ahead f ≠ 0 → ∃ x ∈ gs, x.frame = (f : Int) := fun f hf hne => by
    rw [hj.len] at hf
    obtain ⟨a1, a2⟩ := hj.start f hf hne
    obtain ⟨q, hq, hql, q1, q2⟩ := piece_of (N := N) (F := F) (f := (f : Int)) (by omega) (by omega) (hno f (by omega) a1)
    have q0 := hpi.chain.mem q hq
    have hqf : q.from_ = (f : Int) := by
      rcases a2 with a2 | a2 | a2
      · omega
      · by_cases h9 : q.from_ = (f : Int)
        · exact h9
        · exfalso
          have h8 := hpi.lead q hq ((f - 1 : Nat) : Int) (by omega) (by omega)
          rw [hql, (hlead (f - 1) (by omega)).2 a2] at h8; cases h8
      · by_cases h9 : q.from_ = (f : Int)
        · exact h9
        · exfalso
          have h8 := hpi.inner q hq hql (f : Int) (by omega) q2
          rw [hab, a2] at h8; cases h8
    obtain ⟨x, hx, hxf⟩ := hgi.all q hq hql
    exact ⟨x, by rw [egs.1]; simp [hx], by omega⟩
  have hcum : ∀ k : Nat, k ≤ F → sumG n (gs.filter fun x => decide (x.frame < (k : Int))) = (s.ahead.take k).sum := fun k hk => cum_sum hgo.ord (fun x hx h1 h2 => hn1 x (by rw [hj.len] at h2; omega)) h0 hcov k (by rw [hj.len]; omega)
  have htot : sumG n gs = s.ahead.sum + en := by
    rw [sumG_split n (fun x => decide (x.frame < (F : Int))) gs, hcum F (Nat.le_refl _), List.take_of_length_le (by rw [hj.len]; omega)]
    congr 1
    rw [egs.1, List.filter_append, List.filter_eq_nil_iff.2 (by intro x hx; have := (hGf x hx).2.1; simp; omega)]
    have e1 : ([(⟨F, 3, 0, 400000⟩ : Gap)].filter fun x => !decide (x.frame < (F : Int))) = [⟨F, 3, 0, 400000⟩] := by simp
    rw [e1, List.nil_append, sumG_one, hn2 _ rfl]
  have hval : ∀ f : Nat, f < F → 0 ≤ intD s.all f → intD s.all f = picB N f + (s.ahead.take (f + 1)).sum := fun f hf h => by rw [hpic f (by omega)]; exact hj.val f (by omega) h
  -- marks
  have hmk : MarksIn F T.reel.marks := ⟨hok.reel.nm, fun i hi => by have := hok.reel.mark i hi; rw [hfr, ← hF] at this; exact this, hok.reel.up⟩
  have hfb : 0 ≤ footV T.reel.gauge ∧ footV T.reel.gauge ≤ 80 := by rw [hft]; rcases hX.foot with h | h | h <;> omega
  have hmn : ∀ k, 0 < k → k < T.reel.marks.length → missN X.foot N (mkD T.reel.marks (k - 1)) (mkD T.reel.marks k) = sumG n (gs.filter (betw (mkD T.reel.marks (k - 1)) (mkD T.reel.marks k))) := fun k hk hkl => by
    have mem : ∀ j, j < T.reel.marks.length → mkD T.reel.marks j ∈ s.marks := fun j hjl => by
      rw [← hm]; unfold mkD; rw [List.getD_eq_getElem?_getD, List.getElem?_eq_getElem hjl]; exact List.getElem_mem hjl
    obtain ⟨a1, a2, a3, a4, -⟩ := hj.marks _ (mem (k - 1) (by omega))
    obtain ⟨b1, b2, b3, b4, -⟩ := hj.marks _ (mem k hkl)
    have hup := hmk.up k hk hkl
    obtain ⟨a, ha⟩ : ∃ a : Nat, (mkD T.reel.marks (k - 1)).frame = a := ⟨_, (Int.toNat_of_nonneg a1).symm⟩
    obtain ⟨b, hb⟩ : ∃ b : Nat, (mkD T.reel.marks k).frame = b := ⟨_, (Int.toNat_of_nonneg b1).symm⟩
    rw [ha, Int.toNat_natCast] at a3 a4
    rw [hb, Int.toNat_natCast] at b3 b4
    have va := hval a (by omega) a3; have vb := hval b (by omega) b3
    have p1 : picB N (a + 1) = picB N a + 1 := by rw [picB, if_neg (by rw [hno a (by omega) a3]; simp)]
    have p2 : picB N (b + 1) = picB N b + 1 := by rw [picB, if_neg (by rw [hno b (by omega) b3]; simp)]
    rw [betw_sum (a := a + 1) (b := b + 1) (by omega) (hcum (a + 1) (by omega)) (hcum (b + 1) (by omega)) (fun x hx => by
      unfold betw; rw [ha, hb]
      rw [Bool.eq_iff_iff]; simp; omega)]
    unfold missN
    rw [ha, hb, Int.sub_mul, a4, b4, show ((a : Int) + 1).toNat = a + 1 by omega, show ((b : Int) + 1).toNat = b + 1 by omega, p1, p2]
    omega
  have hinv : ∀ k, k ≤ T.reel.marks.length → (grpsK X.foot F N gs T.reel.marks k).wrong = [] ∧ (∀ g ∈ (grpsK X.foot F N gs T.reel.marks k).all, g.is.lo = sumG n g.gaps ∧ g.is.hi = sumG n g.gaps) ∧ (grpsK X.foot F N gs T.reel.marks k).left = picB N F + ((grpsK X.foot F N gs T.reel.marks k).all.map fun g => sumG n g.gaps).sum := fun k => by
    induction k with
    | zero => intro _; simp [grpsK]
    | succ k ih =>
      intro hk
      have ih := ih (by omega)
      rw [grpsK_succ]
      obtain ⟨st, hst⟩ : ∃ st, st = grpsK X.foot F N gs T.reel.marks k := ⟨_, rfl⟩
      rw [← hst] at ih ⊢
      unfold grpS
      split
      · exact ih
      · rename_i hcnd
        have hk0 : 0 < k := by
          rcases Nat.eq_zero_or_pos k with e | e
          · exact absurd (.inl e) hcnd
          · exact e
        rw [hmn k hk0 (by omega)]
        have hle : inB (sumG n (gs.filter (betw (mkD T.reel.marks (k - 1)) (mkD T.reel.marks k)))) (endsS (gs.filter (betw (mkD T.reel.marks (k - 1)) (mkD T.reel.marks k)))).lo (endsS (gs.filter (betw (mkD T.reel.marks (k - 1)) (mkD T.reel.marks k)))).hi = true := by
          rw [endsS_eq, inB_iff]
          exact ⟨sumG_le fun x hx => (hin x (List.mem_filter.1 hx).1).1, sumG_le fun x hx => (hin x (List.mem_filter.1 hx).1).2⟩
        rw [if_neg (by rw [hle]; simp)]
        refine ⟨ih.1, fun g hg => ?_, ?_⟩
        · rcases List.mem_append.1 hg with hg | hg
          · exact ih.2.1 g hg
          · obtain rfl : g = _ := by simpa using hg
            exact ⟨rfl, rfl⟩
        · simp only [List.map_append, sum_app, List.map_cons, List.map_nil, List.sum_singleton, ih.2.2]
          omega
  obtain ⟨iw, ia, il⟩ := hinv _ (Nat.le_refl _)
  have hsum := fun m => grps_sum (N := N) (gs := gs) hgo.ord hmk (foot := X.foot) (by rw [← hft]; exact hfb) hF1.2 m _ (Nat.le_refl _)
  have er : grpsT T = grpsV X.foot F N gs T.reel.marks T.whole := by unfold grpsT; rw [eg, hfr, Int.toNat_natCast, ← hF, ← hN, hft, ← hgs]
  have hpart : PartOk gs (grpsT T).1 := by rw [er]; exact grpsV_part hgo.ord hmk (by rw [← hft]; exact hfb) hF1.2
  have hall : ∀ g ∈ (grpsT T).1, g.is.lo ≤ sumG n g.gaps ∧ sumG n g.gaps ≤ g.is.hi := by
    rw [er, grpsV_eq]
    intro g hg
    rcases List.mem_append.1 hg with hg | hg
    · have := ia g hg; omega
    · obtain rfl : g = _ := by simpa using hg
      have := hsum n
      have hat := hj.at_
      have hpf := hpic F (Nat.le_refl _)
      rw [List.take_of_length_le (by omega)] at hpf
      simp only
      omega
  have hsub : ∀ g ∈ (grpsT T).1, ∀ x ∈ g.gaps, x.lo ≤ n x ∧ n x ≤ x.hi := fun g hg x hx => hin x (hpart.sub g hg x hx)
  have hsd : ∀ g ∈ (grpsT T).1, ∀ p, (partG g p).lo ≤ sumG n (g.gaps.filter p) ∧ sumG n (g.gaps.filter p) ≤ (partG g p).hi := fun g hg p => part_sound (hsub g hg) (hall g hg) p
  have hsumA : ∀ m : Gap → Int, ((grpsT T).1.map fun g => sumG m g.gaps).sum = sumG m gs := fun m => by
    rw [er, grpsV_eq]
    simp only [List.map_append, sum_app, List.map_cons, List.map_nil, List.sum_singleton]
    exact hsum m
  refine ⟨?_, by rw [eg]; exact egs.2, by rw [er, grpsV_eq]; exact iw, by rw [eg, ← hgs, egs.1]; simp; omega, ?_, fun f hf h1 => ?_, fun f hf h1 => ?_⟩
  · unfold okT
    rw [List.all_eq_true]
    intro g hg
    have := hsd g hg (fun _ => true)
    rw [← some_all]
    exact decide_eq_true (by omega)
  · rw [eg, ← hgs]
    intro y hy
    obtain ⟨g, hg, x, hx, rfl⟩ := outV_mem.1 ((ansV_mem hpart).1 hy)
    have hxg := hpart.sub g hg x hx
    have hone := filter_one (hpart.each g hg) hx
    have := hsd g hg fun y => decide (y.frame = x.frame)
    rw [hone, sumG_one] at this
    have hkd : (x.kind ≠ 3 → x.frame < (F : Int)) ∧ (x.kind = 3 → x.frame = (F : Int)) := by
      rw [egs.1] at hxg
      rcases List.mem_append.1 hxg with h | h
      · have := hGf x h
        exact ⟨fun _ => this.2.1, fun h3 => by omega⟩
      · obtain rfl : x = _ := by simpa using h
        exact ⟨fun h3 => absurd rfl h3, fun _ => rfl⟩
    refine ⟨fun hk => ?_, fun hk => ?_⟩
    · have hf := hkd.1 hk
      rw [hn1 x hf] at this
      exact ⟨⟨h0 x hxg, by rw [hj.len]; show x.frame < _; omega⟩, this⟩
    · rw [hn2 x (hkd.2 hk)] at this
      exact this
  · rw [← hN]; exact (hlead f (by omega)).2 (by rcases hj.pos f hf with h | h <;> omega)
  · rw [← hN]
    refine ⟨hno f (by omega) h1, ?_⟩
    have h2 := part_sumP hsumA n (partF f)
    have h3 : (gs.filter (partF f)) = gs.filter fun x => decide (x.frame < ((f + 1 : Nat) : Int)) := List.filter_congr fun x _ => by
      unfold partF
      by_cases hx : x.frame ≤ (f : Int)
      · rw [decide_eq_true hx, decide_eq_true (by omega)]
      · rw [decide_eq_false hx, decide_eq_false (by omega)]
    rw [h3, hcum (f + 1) (by omega)] at h2
    rw [placeG_eq, hval f (by omega) h1, ← h2]
    have h4 := sum_map_le (f := fun g => (partG g (partF f)).lo) (g := fun g => sumG n (g.gaps.filter (partF f))) fun g hg => (hsd g hg (partF f)).1
    have h5 := sum_map_le (f := fun g => sumG n (g.gaps.filter (partF f))) (g := fun g => (partG g (partF f)).hi) fun g hg => (hsd g hg (partF f)).2
    simp only
    omega
end Go.Proofs.YtapeakbngligaaaGreatDoor.D
