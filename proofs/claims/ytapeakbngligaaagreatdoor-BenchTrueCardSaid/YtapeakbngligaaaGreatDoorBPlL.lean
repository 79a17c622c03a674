/-
  BenchTrue: the task that law.made returns, plain.
-/
import Derived.Test.YtapeakbngligaaaGreatDoorBPlT
namespace Go.Proofs.YtapeakbngligaaaGreatDoor.D
set_option linter.unusedVariables false
/-- How a reel came about. -/
structure Lost where
  gauge : Int
  roll : Int
  first : Int
  pieces : List (Int × Int)
  leaders : List Int
  wide : List Int
  noted : List Int
  end_ : Int
  least : Int
  most : Int
def gaugeV (g : Int) : Int := if g % 3 = 0 then 35 else if g % 3 = 1 then 16 else 8
def lsV (X : Lost) : Ls := ⟨footV (gaugeV X.gauge), X.first % 3000, X.roll % 100, X.pieces, X.leaders, X.wide, X.noted⟩
def mdV (X : Lost) : Md := mdK (lsV X) (min X.pieces.length 8)
def madeT (T : Task) (X : Lost) : Task := { T with reel := { T.reel with gauge := gaugeV X.gauge, marks := (mdV X).marks, lens := [], frames := ((mdV X).all.length : Int) }, whole := ⟨max 1 ((mdV X).at_ + X.end_ - X.least), (mdV X).at_ + X.end_ + X.most⟩, notes := (mdV X).notes }
structure LostOk (X : Lost) : Prop where
  gauge : 0 ≤ X.gauge ∧ X.gauge ≤ 255
  roll : 0 ≤ X.roll ∧ X.roll ≤ 255
  first : 0 ≤ X.first ∧ X.first ≤ 65535
  pin : ∀ i, i < X.pieces.length → (0 ≤ (X.pieces.getD i (0, 0)).1 ∧ (X.pieces.getD i (0, 0)).1 ≤ 255) ∧ 0 ≤ (X.pieces.getD i (0, 0)).2 ∧ (X.pieces.getD i (0, 0)).2 ≤ 255
  leaders : ∀ i, i < X.leaders.length → 0 ≤ intD X.leaders i ∧ intD X.leaders i ≤ 255
  wide : ∀ i, i < X.wide.length → 0 ≤ intD X.wide i ∧ intD X.wide i ≤ 255
  noted : ∀ i, i < X.noted.length → 0 ≤ intD X.noted i ∧ intD X.noted i ≤ 255
  end_ : 0 ≤ X.end_ ∧ X.end_ ≤ 255
  least : 0 ≤ X.least ∧ X.least ≤ 255
  most : 0 ≤ X.most ∧ X.most ≤ 255
theorem turn_in {l : List Int} (h : ∀ i, i < l.length → 0 ≤ intD l i ∧ intD l i ≤ 255) (i : Nat) : 0 ≤ turnV l i ∧ turnV l i ≤ 255 := by
  unfold turnV
  split
  · omega
  · exact h _ (Nat.mod_lt _ (by omega))
theorem foot_in (g : Int) : footV (gaugeV g) = 16 ∨ footV (gaugeV g) = 40 ∨ footV (gaugeV g) = 80 := by
  unfold gaugeV
  split
  · exact .inl rfl
  · split
    · exact .inr (.inl rfl)
    · exact .inr (.inr rfl)
theorem pc_in {X : Lost} (h : LostOk X) (i : Nat) : 0 ≤ (pcL (lsV X) i).1 ∧ (pcL (lsV X) i).1 ≤ 255 ∧ 0 ≤ (pcL (lsV X) i).2 ∧ (pcL (lsV X) i).2 ≤ 255 := by
  show 0 ≤ (X.pieces.getD i (0, 0)).1 ∧ (X.pieces.getD i (0, 0)).1 ≤ 255 ∧ 0 ≤ (X.pieces.getD i (0, 0)).2 ∧ (X.pieces.getD i (0, 0)).2 ≤ 255
  rcases Nat.lt_or_ge i X.pieces.length with hi | hi
  · have := h.pin i hi; omega
  · rw [List.getD_eq_getElem?_getD, List.getElem?_eq_none hi]; simp
theorem ls_in {X : Lost} (h : LostOk X) : LsIn (lsV X) := ⟨foot_in _, pc_in h, fun i => (turn_in h.wide i).1⟩
def ledK (s : Md) (k : Nat) : Md := { s with all := s.all ++ List.replicate k (-1), ahead := s.ahead ++ List.replicate k 0 }
def eveS (X : Ls) (i : Nat) (s : Md) : Md := { s with notes := s.notes ++ [⟨eve, (i : Int) + 1, 0, 3, s.all.length, s.all.length + ledN X i - 1, 0, 0⟩] }
theorem ledS_pos {X : Ls} {i : Nat} {s : Md} (h : 0 < ledN X i) : ledS X i s = ledK (eveS X i s) (ledN X i).toNat := if_pos h
theorem ledS_neg {X : Ls} {i : Nat} {s : Md} (h : ¬ 0 < ledN X i) : ledS X i s = s := if_neg h
theorem ledK_zero (s : Md) : ledK s 0 = s := by unfold ledK; simp
theorem ledK_all (s : Md) (k : Nat) : (ledK s (k + 1)).all = (ledK s k).all ++ [-1] := by unfold ledK; simp [List.replicate_succ', List.append_assoc]
theorem ledK_ahead (s : Md) (k : Nat) : (ledK s (k + 1)).ahead = (ledK s k).ahead ++ [0] := by unfold ledK; simp [List.replicate_succ', List.append_assoc]
def splK (X : Ls) (lost : Int) (s : Md) : Nat → Md
  | 0 => s
  | k + 1 => splS X lost (splK X lost s k)
theorem notS_pos {X : Ls} {i : Nat} {lost : Int} {s : Md} (h : notB X i s = true) : notS X i lost s = splK X lost s (turnV X.noted i / 2 % 2 + 1).toNat := by
  unfold notS
  rw [if_pos h]
  split
  · rename_i h1; rw [h1]; rfl
  · rename_i h1
    have : turnV X.noted i / 2 % 2 = 0 := by omega
    rw [this]; rfl
theorem notS_neg {X : Ls} {i : Nat} {lost : Int} {s : Md} (h : notB X i s = false) : notS X i lost s = s := by
  unfold notS; rw [if_neg (by rw [h]; simp)]
/-- How great a reel is. -/
structure MdB (a b c : Nat) (s : Md) : Prop where
  all : s.all.length ≤ a
  ahead : s.ahead.length = s.all.length
  at0 : 0 ≤ s.at_
  at1 : s.at_ ≤ b
  number : s.number ≤ c
  notes : s.notes.length ≤ 2 * c
  marks : s.marks.length ≤ 60
theorem MdB.mono {a b c a' b' c' : Nat} {s : Md} (h : MdB a b c s) (ha : a ≤ a') (hb : b ≤ b') (hc : c ≤ c') : MdB a' b' c' s := ⟨Nat.le_trans h.all ha, h.ahead, h.at0, by have := h.at1; omega, Nat.le_trans h.number hc, by have := h.notes; omega, h.marks⟩
theorem MdB.eve {X : Ls} {a b c i : Nat} {s : Md} (h : MdB a b c s) : MdB a b (c + 1) (eveS X i s) := ⟨h.all, h.ahead, h.at0, h.at1, by have := h.number; show s.number ≤ c + 1; omega, by have := h.notes; show (s.notes ++ [_]).length ≤ _; rw [List.length_append, List.length_singleton]; omega, h.marks⟩
theorem MdB.led {a b c : Nat} {s : Md} (h : MdB a b c s) (k : Nat) : MdB (a + k) b c (ledK s k) := ⟨by have := h.all; show (s.all ++ _).length ≤ _; rw [List.length_append, List.length_replicate]; omega, by have := h.ahead; show (s.ahead ++ _).length = (s.all ++ _).length; rw [List.length_append, List.length_append, List.length_replicate, List.length_replicate]; omega, h.at0, h.at1, h.number, h.notes, h.marks⟩
theorem MdB.spl {X : Ls} {lost : Int} {a b c : Nat} {s : Md} (h : MdB a b c s) : MdB a b (c + 1) (splS X lost s) := ⟨h.all, h.ahead, h.at0, h.at1, by have := h.number; show s.number + 1 ≤ c + 1; omega, by have := h.notes; show (s.notes ++ [_]).length ≤ _; rw [List.length_append, List.length_singleton]; omega, h.marks⟩
theorem MdB.splK {X : Ls} {lost : Int} {a b c : Nat} {s : Md} (h : MdB a b c s) : ∀ k, MdB a b (c + k) (splK X lost s k)
  | 0 => h
  | k + 1 => (MdB.splK h k).spl
theorem MdB.late {lost : Int} {a b c : Nat} {s : Md} (h : MdB a b c s) (hl : 0 ≤ lost ∧ lost ≤ 255) : MdB a (b + 255) c (lateS lost s) := ⟨h.all, h.ahead, by have := h.at0; show 0 ≤ s.at_ + lost; omega, by have := h.at1; show s.at_ + lost ≤ _; omega, h.number, h.notes, h.marks⟩
theorem MdB.frm {X : Ls} {q : Int} {a b c : Nat} {s : Md} (h : MdB a b c s) : MdB (a + 1) (b + 1) c (frm X q s) := by
  refine ⟨?_, ?_, ?_, ?_, h.number, h.notes, ?_⟩
  · have := h.all; show (s.all ++ [_]).length ≤ _; rw [List.length_append, List.length_singleton]; omega
  · have := h.ahead; show (s.ahead ++ [_]).length = (s.all ++ [_]).length; rw [List.length_append, List.length_append, List.length_singleton, List.length_singleton]; omega
  · have := h.at0; show 0 ≤ s.at_ + 1; omega
  · have := h.at1; show s.at_ + 1 ≤ _; omega
  · show (if _ then _ else _ : List Mark).length ≤ 60
    split
    · rename_i h1; rw [List.length_append, List.length_singleton]; omega
    · exact h.marks
theorem MdB.frmK {X : Ls} {q : Int} {a b c : Nat} {s : Md} (h : MdB a b c s) : ∀ k, MdB (a + k) (b + k) c (frmK X q s k)
  | 0 => h
  | k + 1 => (MdB.frmK h k).frm
theorem led_b {X : Lost} (h : LostOk X) {a b c i : Nat} {s : Md} (hs : MdB a b c s) : MdB (a + 40) b (c + 1) (ledS (lsV X) i s) := by
  have hn := ledN_in (lsV X) i
  by_cases h0 : 0 < ledN (lsV X) i
  · rw [ledS_pos h0]; exact (hs.eve.led _).mono (by omega) (by omega) (by omega)
  · rw [ledS_neg h0]; exact hs.mono (by omega) (by omega) (by omega)
theorem not_b {X : Lost} (h : LostOk X) {a b c i : Nat} {lost : Int} {s : Md} (hs : MdB a b c s) : MdB a b (c + 2) (notS (lsV X) i lost s) := by
  by_cases h0 : notB (lsV X) i s = true
  · rw [notS_pos h0]; exact (hs.splK _).mono (by omega) (by omega) (by omega)
  · rw [notS_neg (by simpa using h0)]; exact hs.mono (by omega) (by omega) (by omega)
theorem md_b {X : Lost} (h : LostOk X) : ∀ i, MdB (300 * i) (600 * i) (3 * i) (mdK (lsV X) i)
  | 0 => ⟨Nat.le_refl _, rfl, Int.le_refl _, Int.le_refl _, Nat.le_refl _, Nat.le_refl _, Nat.zero_le _⟩
  | i + 1 => by
    have hp := pc_in h i
    refine MdB.mono ((((not_b h (led_b h (md_b h i))).late hp.2.2).frmK _)) ?_ ?_ ?_ <;> omega
theorem frmK_at {X : Ls} {q : Int} {s : Md} : ∀ k, (frmK X q s k).at_ = s.at_ + k
  | 0 => by simp [frmK]
  | k + 1 => by show (frmK X q s k).at_ + 1 = _; rw [frmK_at k]; omega
theorem md_at {X : Lost} (h : LostOk X) {i : Nat} (hi : 0 < i) : 1 ≤ (mdK (lsV X) i).at_ := by
  obtain ⟨i, rfl⟩ : ∃ j, i = j + 1 := ⟨i - 1, by omega⟩
  have hp := pc_in h i
  show 1 ≤ (frmK _ _ _ _).at_
  rw [frmK_at]
  have hb := ((not_b h (led_b h (md_b h i) (i := i)) (i := i) (lost := (pcL (lsV X) i).2)).late hp.2.2).at0
  omega
theorem made_true {X : Lost} (h : LostOk X) {T : Task} (hc : (checkV (madeT T X)).2.2 = 0) : TrueA (madeT T X) (mdV X) X.end_ := by
  refine true_ans (ls_in h) hc rfl rfl rfl rfl h.end_ ?_
  have hfr := (task_ok hc).reel.frames
  have hl : 0 < (mdV X).all.length := by have : (1 : Int) ≤ ((mdV X).all.length : Int) := hfr.1; omega
  have h0 : 0 < min X.pieces.length 8 := by
    refine Nat.pos_of_ne_zero fun he => ?_
    unfold mdV at hl; rw [he] at hl; exact absurd hl (Nat.lt_irrefl 0)
  have h1 := md_at h h0
  have h2 := h.least; have h3 := h.most; have h4 := h.end_
  show max 1 ((mdV X).at_ + X.end_ - X.least) ≤ (mdV X).at_ + X.end_ ∧ (mdV X).at_ + X.end_ ≤ (mdV X).at_ + X.end_ + X.most
  have h5 : 1 ≤ (mdV X).at_ := h1
  omega
end Go.Proofs.YtapeakbngligaaaGreatDoor.D
