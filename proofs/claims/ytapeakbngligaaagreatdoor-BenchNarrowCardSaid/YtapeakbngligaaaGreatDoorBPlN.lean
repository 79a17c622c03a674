/-
  BenchNarrow, what its walk asks for.
-/
import Derived.Test.YtapeakbngligaaaGreatDoorBPlX
import Derived.Test.YtapeakbngligaaaGreatDoorBPlO
namespace Go.Proofs.YtapeakbngligaaaGreatDoor.D
set_option linter.unusedVariables false
/-- A narrower whole. -/
def narW (w : Span) (x y : Int) : Span := ⟨w.lo + (w.hi - w.lo) * x / 512, w.hi - (w.hi - w.lo) * y / 512⟩
def narT (T : Task) (x y : Int) : Task := { T with whole := narW T.whole x y }
/-- A further note. -/
def furT (T : Task) (f lo wide : Int) : Task := { T with notes := T.notes ++ [zoeN f lo (lo + wide)] }
theorem mul255 {d x : Int} (hd : 0 ≤ d) (hx : 0 ≤ x ∧ x ≤ 255) : 0 ≤ d * x ∧ d * x ≤ d * 255 := ⟨Int.mul_nonneg hd hx.1, Int.mul_le_mul_of_nonneg_left hx.2 hd⟩
theorem narW_in {w : Span} {x y : Int} (hw : 1 ≤ w.lo ∧ w.lo ≤ w.hi ∧ w.hi ≤ 400000) (hx : 0 ≤ x ∧ x ≤ 255) (hy : 0 ≤ y ∧ y ≤ 255) : w.lo ≤ (narW w x y).lo ∧ (narW w x y).hi ≤ w.hi ∧ (narW w x y).lo ≤ (narW w x y).hi ∧ (0 ≤ (w.hi - w.lo) * x ∧ (w.hi - w.lo) * x ≤ 102000000) ∧ (0 ≤ (w.hi - w.lo) * y ∧ (w.hi - w.lo) * y ≤ 102000000) := by
  have a := mul255 (d := w.hi - w.lo) (by omega) hx
  have b := mul255 (d := w.hi - w.lo) (by omega) hy
  unfold narW
  simp only
  obtain ⟨p, hp⟩ : ∃ p, p = (w.hi - w.lo) * x := ⟨_, rfl⟩
  obtain ⟨q, hq⟩ : ∃ p, p = (w.hi - w.lo) * y := ⟨_, rfl⟩
  rw [← hp] at a ⊢; rw [← hq] at b ⊢
  omega
theorem nar_chk {T : Task} (hc : (checkV T).2.2 = 0) {x y : Int} (hx : 0 ≤ x ∧ x ≤ 255) (hy : 0 ≤ y ∧ y ≤ 255) : (checkV (narT T x y)).2.2 = 0 := by
  have hp := chk_parts.1 hc
  have hok := (task_ok hc).whole
  have h := narW_in hok hx hy
  refine chk_parts.2 ⟨hp.film, ?_, h.2.2.1, hp.nn, hp.note⟩
  show (inB (narW T.whole x y).lo 1 400000 && inB (narW T.whole x y).hi 1 400000) = true
  rw [inB_iff.2 (by omega), inB_iff.2 (by omega)]; rfl
theorem ga_bad {T : Task} (h : (checkV T).2.2 ≠ 0) : (gapsAns T).e ≠ 0 := by unfold gapsAns; rw [if_pos h]; exact h
theorem ga_chk {T : Task} (h : (gapsAns T).e = 0) : (checkV T).2.2 = 0 := Decidable.byContradiction fun hh => ga_bad hh h
theorem ga_ok {T : Task} (h : (gapsAns T).e = 0) : gapsAns T = ⟨ansV (gapsT T).1 (grpsT T).1, (gapsT T).2, (grpsT T).2, 0⟩ := by
  have hc := ga_chk h
  unfold gapsAns at h ⊢
  rw [if_neg (by simpa using hc)] at h ⊢
  split at h
  · rename_i h1; rw [if_pos h1]
  · cases h
theorem ga_e {T : Task} (hc : (checkV T).2.2 = 0) : (gapsAns T).e = 0 ∨ (gapsAns T).e = 9 := by
  unfold gapsAns
  rw [if_neg (by simpa using hc)]
  split
  · exact .inl rfl
  · exact .inr rfl
theorem ga_struck {T : Task} (hc : (checkV T).2.2 = 0) : (gapsAns T).struck = (gapsT T).2 ∧ (gapsAns T).wrong = (grpsT T).2 := by
  unfold gapsAns
  rw [if_neg (by simpa using hc)]
  split <;> exact ⟨rfl, rfl⟩
/-- With a narrower whole no gap gets wider. -/
theorem nar_part1 {T : Task} (h0 : (gapsAns T).e = 0) {x y : Int} (hx : 0 ≤ x ∧ x ≤ 255) (hy : 0 ≤ y ∧ y ≤ 255) : (gapsAns (narT T x y)).e = 9 ∨ ((gapsAns (narT T x y)).e = 0 ∧ holdsP (gapsAns T).gaps (gapsAns (narT T x y)).gaps) := by
  have hc := ga_chk h0
  have hc' := nar_chk hc hx hy
  rcases ga_e hc' with h | h
  · refine .inr ⟨h, ?_⟩
    rw [ga_ok h0, ga_ok h]
    simp only
    have hw := narW_in (task_ok hc).whole hx hy
    have hg : gapsT (narT T x y) = gapsT T := rfl
    have hl : All2 NarG (grpsT (narT T x y)).1 (grpsT T).1 := whole_nar hw.1 hw.2.1
    have hp' := (task_p hc').part
    rw [hg] at hp' ⊢
    exact nar_holds (nar_ans hp' (task_p hc).part (All2.rfl narX_rfl _) hl)
  · exact .inl h
theorem holds_rfl (l : List Gap) : holdsP l l := ⟨rfl, fun i hi => ⟨rfl, rfl, Int.le_refl _, Int.le_refl _⟩⟩
theorem insN_len' {x : Note} : ∀ {l : List Note}, (insN x l).length ≤ l.length + 1
  | [] => by simp [insN]
  | y :: l => by
    have ih := insN_len' (x := x) (l := l)
    rw [insN]
    split
    · simp only [List.length_cons]; omega
    · split <;> simp
theorem standK_len' {l : List Note} : ∀ {r out : List Note}, (standK l r out).length ≤ out.length + r.length
  | [], out => by simp [standK]
  | x :: r, out => by
    rw [standK]
    refine Nat.le_trans standK_len' ?_
    have := insN_len' (x := x) (l := out)
    split <;> simp only [List.length_cons] <;> omega
/-- The notes of a valid task are merged. -/
theorem merge_self {T : Task} (hc : (checkV T).2.2 = 0) : mergeV [T.notes] = (standV T.notes, 0) := by
  have hp := chk_parts.1 hc
  have hs : (standV T.notes).length ≤ 60 := by
    have := standK_len' (l := T.notes) (r := T.notes) (out := [])
    have := hp.nn
    unfold standV; simp only [List.length_nil] at *; omega
  have he : ∀ l ∈ [T.notes], l.length ≤ 60 ∧ ∀ x ∈ l, noteE x = 0 := by
    intro l hl
    obtain rfl : l = T.notes := List.mem_singleton.1 hl
    exact ⟨hp.nn, fun x hx => (hp.note x hx).1⟩
  have h := merge_of (ls := [T.notes]) ⟨by simp, he, by simpa using hs⟩
  rw [h]; simp
/-- Of a further note: struck, or not. -/
theorem nar_part2 {T : Task} (h0 : (gapsAns T).e = 0) {g : Gap} (hg : g ∈ (gapsAns T).gaps) (hk : g.kind = 2) {lo wide : Int} (hlo : 0 ≤ lo ∧ lo ≤ 65535) (hw : 0 ≤ wide ∧ wide ≤ 65535) (hz : ∀ y ∈ T.notes, y.by_ ≠ zoe) (hB : ∀ y ∈ T.notes, y.from_ = g.frame → ltB zoe y.by_ = false) (hn : ∃ y ∈ standV T.notes, y.kind = 1 ∧ y.from_ = g.frame) (hl : T.notes.length < 60) :
    (gapsAns (furT T g.frame lo wide)).e = 9 ∨ ((gapsAns (furT T g.frame lo wide)).e = 0 ∧
      (((gapsAns (furT T g.frame lo wide)).gaps = (gapsAns T).gaps ∧ (gapsAns (furT T g.frame lo wide)).wrong = (gapsAns T).wrong) ∨
       ((∀ s ∈ (gapsAns (furT T g.frame lo wide)).struck, s.by_ ≠ zoe) ∧ ((gapsAns (furT T g.frame lo wide)).wrong.length ≤ (gapsAns T).wrong.length → holdsP (gapsAns T).gaps (gapsAns (furT T g.frame lo wide)).gaps)))) := by
  have hc := ga_chk h0
  have hg' := hg
  rw [ga_ok h0] at hg'
  obtain ⟨x0, hx0, hf, hkk⟩ := ans_mem hg'
  obtain ⟨hc', hf'⟩ := further hc hx0 (hkk.trans hk) hf (lo := lo) (hi := lo + wide) (by omega) hz hB hn hl
  have hc2 : (checkV (furT T g.frame lo wide)).2.2 = 0 := hc'
  rcases ga_e hc2 with h | h
  · refine .inr ⟨h, ?_⟩
    rw [ga_ok h0, ga_ok h]
    simp only
    rcases hf' with ⟨e1, e2⟩ | ⟨e1, e2, e3⟩
    · have e1' : (gapsT (furT T g.frame lo wide)).1 = (gapsT T).1 := e1
      have e2' : grpsT (furT T g.frame lo wide) = grpsT T := e2
      exact .inl ⟨by rw [e1', e2'], by rw [e2']⟩
    · exact .inr ⟨e2, fun hle => nar_holds (nar_ans (task_p hc2).part (task_p hc).part e1 (e3 hle))⟩
  · exact .inl h
end Go.Proofs.YtapeakbngligaaaGreatDoor.D
