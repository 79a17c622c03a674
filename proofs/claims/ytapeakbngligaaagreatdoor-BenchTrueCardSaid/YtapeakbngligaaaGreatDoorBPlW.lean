/-
  BenchFound and BenchClimbs, the plain half.
-/
import Derived.Test.YtapeakbngligaaaGreatDoorBPlB
namespace Go.Proofs.YtapeakbngligaaaGreatDoor.D
theorem ChainP.find : ∀ {P : List Piece} {a b : Int}, ChainP a P b → ∀ f : Int, a ≤ f → f < b → ∃ p ∈ P, p.from_ ≤ f ∧ f ≤ p.until_
  | [], _, _, h, f, h1, h2 => by have : _ = _ := h; omega
  | r :: R, a, b, ⟨h1, h2, h3⟩, f, h4, h5 => by
    rcases Int.lt_or_le r.until_ f with h6 | h6
    · obtain ⟨p, hp, hp2⟩ := h3.find f (by omega) h5
      exact ⟨p, by simp [hp], hp2⟩
    · exact ⟨r, by simp, by omega, h6⟩
/-- A frame of picture is in one piece of picture. -/
theorem piece_of {N : List Note} {F : Nat} {f : Int} (h0 : 0 ≤ f) (h1 : f < F) (hb : about N 3 f = false) : ∃ p ∈ pieceK N F, p.leader = false ∧ p.from_ ≤ f ∧ f ≤ p.until_ := by
  have hi := pieceK_inv N F
  obtain ⟨p, hp, a, b⟩ := hi.chain.find f h0 h1
  exact ⟨p, hp, by rw [← hi.lead p hp f a b, hb], a, b⟩
theorem any_take {α : Type} {p : α → Bool} {d : α} {l : List α} {k : Nat} (hk : k < l.length) : (l.take (k + 1)).any p = ((l.take k).any p || p (l.getD k d)) := by
  rw [List.take_succ_eq_append_getElem hk, List.any_append]
  simp [List.getD_eq_getElem?_getD, List.getElem?_eq_getElem hk]
end Go.Proofs.YtapeakbngligaaaGreatDoor.D
