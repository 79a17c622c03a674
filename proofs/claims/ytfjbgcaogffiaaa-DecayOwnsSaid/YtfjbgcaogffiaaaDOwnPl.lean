/-
  Plain: a course of levels.
-/
import Derived.Test.YtfjbgcaogffiaaaDKnowA
namespace Go.Proofs.Ytfjbgcaogffiaaa
open D
/-- What a level can be on a morning, by the level of the one before it. -/
def canOf (T : Task) (c : Nat → Int) : Nat → Span
  | 0 => T.start
  | i + 1 => ⟨least T.rule (spanD (forces T) i) (c i), most T.rule (spanD (forces T) i) (c i)⟩
def ownBad (T : Task) (c : Nat → Int) (i : Nat) : Bool := decide (c i < (canOf T c i).lo ∨ (canOf T c i).hi < c i)
theorem ownBad_in (T : Task) (c : Nat → Int) (i : Nat) : inB (c i) (canOf T c i).lo (canOf T c i).hi = !ownBad T c i := by
  unfold inB ownBad
  rw [Bool.eq_iff_iff]; simp <;> omega
def ownI (T : Task) (c : Nat → Int) : Int := firstDay 0 (ownBad T c) (T.days.length + 1)
def ownV (T : Task) (l : List Int) : Int × Int := if (checkTask T).2.2 ≠ 0 then (0, (checkTask T).2.2) else if l.length ≠ T.days.length + 1 then (0, 2) else (ownI T (intD l), 0)
theorem can_lev {T : Task} (hk : TaskOk T) {c : Nat → Int} : ∀ {i : Nat}, i ≤ T.days.length → (∀ j, j < i → ownBad T c j = false) → LevOk (canOf T c i)
  | 0, _, _ => ⟨hk.start.1, hk.start.2.1⟩
  | i + 1, hi, h => by
    have h1 := can_lev hk (c := c) (i := i) (by omega) (fun j hj => h j (by omega))
    have h2 := h i (by omega)
    simp only [ownBad, decide_eq_false_iff_not] at h2
    have hg := (stepOk_at hk (i := i) hi).g
    have hb : 0 ≤ c i ∧ c i ≤ 1000000 := by obtain ⟨⟨a, b⟩, x, y⟩ := h1; omega
    have hc : LevOk ⟨c i, c i⟩ := ⟨hb, hb⟩
    have h3 := grow_lev hg hc
    exact h3
theorem own_lev {T : Task} (hk : TaskOk T) {c : Nat → Int} {i : Nat} (hi : i ≤ T.days.length) (h : ∀ j, j ≤ i → ownBad T c j = false) : 0 ≤ c i ∧ c i ≤ 1000000 := by
  have h1 := can_lev hk (c := c) hi (fun j hj => h j (by omega))
  have h2 := h i (Nat.le_refl _)
  simp only [ownBad, decide_eq_false_iff_not] at h2
  obtain ⟨⟨a, b⟩, x, y⟩ := h1
  omega
end Go.Proofs.Ytfjbgcaogffiaaa
