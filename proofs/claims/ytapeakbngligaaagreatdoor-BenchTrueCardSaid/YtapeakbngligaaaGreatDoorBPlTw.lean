/-
  BenchTrue: what the walk of the law asks for.
-/
import Derived.Test.YtapeakbngligaaaGreatDoorBPlL
namespace Go.Proofs.YtapeakbngligaaaGreatDoor.D
set_option linter.unusedVariables false
/-- What the walk of the law asks for. -/
structure TrueW (V : Task) (s : Md) (en : Int) (gs : List Gap) : Prop where
  ans : gapsAns V = ⟨gs, [], [], 0⟩
  two : 2 ≤ gs.length
  gap : ∀ i, i < gs.length → ((gpD gs i).kind ≠ 3 → ∃ j : Nat, (gpD gs i).frame = (j : Int) ∧ j < s.ahead.length ∧ (gpD gs i).lo ≤ intD s.ahead j ∧ intD s.ahead j ≤ (gpD gs i).hi) ∧ ((gpD gs i).kind = 3 → (gpD gs i).lo ≤ en ∧ en ≤ (gpD gs i).hi)
  pos : 0 < s.all.length
  lead : ∀ f : Nat, f < s.all.length → intD s.all f < 0 → placeAns V f = (⟨0, 0⟩, 4)
  pict : ∀ f : Nat, f < s.all.length → 0 ≤ intD s.all f → ∃ z, placeAns V f = (z, 0) ∧ z.lo ≤ intD s.all f ∧ intD s.all f ≤ z.hi
theorem true_walk {X : Lost} (h : LostOk X) {T : Task} (hc : (checkV (madeT T X)).2.2 = 0) : ∃ gs, TrueW (madeT T X) (mdV X) X.end_ gs := by
  have ht := made_true h hc
  have hfr := (task_ok hc).reel.frames
  have hF : (madeT T X).reel.frames = ((mdV X).all.length : Int) := rfl
  rw [hF] at hfr
  refine ⟨ansV (gapsT (madeT T X)).1 (grpsT (madeT T X)).1, ?_, ?_, ?_, ?_, ?_, ?_⟩
  · unfold gapsAns
    rw [if_neg (by rw [hc]; simp), if_pos ht.ok, ht.struck, ht.wrong]
  · rw [ansV_len]; exact ht.two
  · intro i hi
    have hm : gpD (ansV (gapsT (madeT T X)).1 (grpsT (madeT T X)).1) i ∈ ansV (gapsT (madeT T X)).1 (grpsT (madeT T X)).1 := by rw [gpD_get hi]; exact List.getElem_mem _
    obtain ⟨h1, h2⟩ := ht.gap _ hm
    refine ⟨fun hk => ?_, h2⟩
    obtain ⟨⟨a, b⟩, c, d⟩ := h1 hk
    exact ⟨_, (Int.toNat_of_nonneg a).symm, by omega, c, d⟩
  · omega
  · intro f hf h0
    unfold placeAns
    rw [if_neg (by rw [hc]; simp), if_neg (by rw [hF, inB_iff.2 (by omega)]; simp), if_pos (ht.lead f hf h0)]
  · intro f hf h0
    obtain ⟨h1, h2, h3⟩ := ht.pict f hf h0
    refine ⟨_, ?_, h2, h3⟩
    unfold placeAns
    rw [if_neg (by rw [hc]; simp), if_neg (by rw [hF, inB_iff.2 (by omega)]; simp), if_neg (by rw [h1]; simp), if_neg (by rw [ht.ok]; simp), Int.toNat_natCast]
end Go.Proofs.YtapeakbngligaaaGreatDoor.D
