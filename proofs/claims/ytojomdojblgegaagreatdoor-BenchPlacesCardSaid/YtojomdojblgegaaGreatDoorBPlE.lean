/-
  Sums of gaps by their indices, as the reference keeps them, plain.
-/
import Derived.Test.YtojomdojblgegaaGreatDoorBPlB
namespace Go.Proofs.YtojomdojblgegaaGreatDoor.D
/-- Some gaps by their indices, and their sum. -/
abbrev IxG : Type := List Nat × Span
def toG (gs : List Gap) (x : IxG) : Grp := ⟨x.1.map (gpD gs), x.2⟩
def ixB (n : Nat) (p : Nat → Bool) : List Nat := (List.range n).filter p
def btI (gs : List Gap) (ms : List Mark) (i k : Nat) : Bool := betw (mkD ms (i - 1)) (mkD ms i) (gpD gs k)
structure Sms where
  all : List IxG
  wrong : List Int
  left : Int
  used : Nat → Bool
/-- A mark that is not looked at: another roll, or leader. -/
def skipM (l : List Note) (ms : List Mark) (i : Nat) : Prop := i = 0 ∨ (mkD ms (i - 1)).roll ≠ (mkD ms i).roll ∨ about l 3 (mkD ms (i - 1)).frame = true ∨ about l 3 (mkD ms i).frame = true
instance (l : List Note) (ms : List Mark) (i : Nat) : Decidable (skipM l ms i) := by unfold skipM; infer_instance
def smS (foot : Int) (l : List Note) (gs : List Gap) (ms : List Mark) (st : Sms) (i : Nat) : Sms :=
  if skipM l ms i then st
  else if inB (missN foot l (mkD ms (i - 1)) (mkD ms i)) (endsS ((ixB gs.length (btI gs ms i)).map (gpD gs))).lo (endsS ((ixB gs.length (btI gs ms i)).map (gpD gs))).hi = false
  then { st with wrong := st.wrong ++ [(i : Int)] }
  else ⟨st.all ++ [(ixB gs.length (btI gs ms i), ⟨missN foot l (mkD ms (i - 1)) (mkD ms i), missN foot l (mkD ms (i - 1)) (mkD ms i)⟩)], st.wrong, st.left + missN foot l (mkD ms (i - 1)) (mkD ms i), fun k => st.used k || btI gs ms i k⟩
def smK (foot : Int) (F : Nat) (l : List Note) (gs : List Gap) (ms : List Mark) (k : Nat) : Sms := (List.range k).foldl (smS foot l gs ms) ⟨[], [], picB l F, fun _ => false⟩
theorem smK_succ (foot : Int) (F : Nat) (l : List Note) (gs : List Gap) (ms : List Mark) (k : Nat) : smK foot F l gs ms (k + 1) = smS foot l gs ms (smK foot F l gs ms k) k := by
  unfold smK
  rw [List.range_succ, List.foldl_append]; rfl
theorem smK_one (foot : Int) (F : Nat) (l : List Note) (gs : List Gap) (ms : List Mark) : smK foot F l gs ms 1 = ⟨[], [], picB l F, fun _ => false⟩ := by
  rw [smK_succ]; unfold smS; rw [if_pos (.inl rfl)]; rfl
theorem range_map (gs : List Gap) : (List.range gs.length).map (gpD gs) = gs := by
  refine List.ext_getElem (by simp) fun i h1 h2 => ?_
  rw [List.getElem_map, List.getElem_range, gpD_get h2]
theorem ixB_map (gs : List Gap) (p : Gap → Bool) : (ixB gs.length fun k => p (gpD gs k)).map (gpD gs) = gs.filter p := by
  unfold ixB
  conv => rhs; rw [← range_map gs]
  rw [List.filter_map]; rfl
structure SmG (foot : Int) (F : Nat) (l : List Note) (gs : List Gap) (ms : List Mark) (k : Nat) : Prop where
  all : (smK foot F l gs ms k).all.map (toG gs) = (grpsK foot F l gs ms k).all
  wrong : (smK foot F l gs ms k).wrong = (grpsK foot F l gs ms k).wrong
  left : (smK foot F l gs ms k).left = (grpsK foot F l gs ms k).left
  rest : (ixB gs.length fun j => !(smK foot F l gs ms k).used j).map (gpD gs) = (grpsK foot F l gs ms k).rest
theorem smK_grps (foot : Int) (F : Nat) (l : List Note) (gs : List Gap) (ms : List Mark) : ∀ k, SmG foot F l gs ms k
  | 0 => ⟨rfl, rfl, rfl, by
      show (ixB gs.length fun j => !false).map (gpD gs) = gs
      unfold ixB
      rw [show (List.range gs.length).filter (fun j => !false) = List.range gs.length from List.filter_eq_self.2 (fun _ _ => rfl), range_map]⟩
  | k + 1 => by
    have h := smK_grps foot F l gs ms k
    have e : (ixB gs.length (btI gs ms k)).map (gpD gs) = gs.filter (betw (mkD ms (k - 1)) (mkD ms k)) := ixB_map gs _
    have h1 := smK_succ foot F l gs ms k
    have h2 := grpsK_succ foot F l gs ms k
    unfold smS at h1; unfold grpS at h2
    rw [e] at h1
    by_cases c : skipM l ms k
    · rw [if_pos c] at h1
      unfold skipM at c
      rw [if_pos c] at h2
      exact ⟨by rw [h1, h2]; exact h.all, by rw [h1, h2]; exact h.wrong, by rw [h1, h2]; exact h.left, by rw [h1, h2]; exact h.rest⟩
    · rw [if_neg c] at h1
      unfold skipM at c
      rw [if_neg c] at h2
      by_cases c2 : inB (missN foot l (mkD ms (k - 1)) (mkD ms k)) (endsS (gs.filter (betw (mkD ms (k - 1)) (mkD ms k)))).lo (endsS (gs.filter (betw (mkD ms (k - 1)) (mkD ms k)))).hi = false
      · rw [if_pos c2] at h1 h2
        exact ⟨by rw [h1, h2]; exact h.all, by rw [h1, h2]; simp only [h.wrong], by rw [h1, h2]; exact h.left, by rw [h1, h2]; exact h.rest⟩
      · rw [if_neg c2] at h1 h2
        refine ⟨?_, by rw [h1, h2]; exact h.wrong, by rw [h1, h2]; simp only [h.left], ?_⟩
        · rw [h1, h2]
          simp only [List.map_append, List.map_cons, List.map_nil, h.all, toG, e]
        · rw [h1, h2]
          simp only
          rw [← h.rest, List.filter_map]
          congr 1
          unfold ixB
          rw [List.filter_filter]
          refine List.filter_congr fun x _ => ?_
          simp only [Function.comp_apply, Bool.not_or]
          exact Bool.and_comm _ _
def sumsV (foot : Int) (F : Nat) (l : List Note) (gs : List Gap) (ms : List Mark) (whole : Span) : List IxG × List Int :=
  ((smK foot F l gs ms ms.length).all ++ [(ixB gs.length fun j => !(smK foot F l gs ms ms.length).used j, ⟨whole.lo - (smK foot F l gs ms ms.length).left, whole.hi - (smK foot F l gs ms ms.length).left⟩)], (smK foot F l gs ms ms.length).wrong)
theorem sumsV_grps (foot : Int) (F : Nat) (l : List Note) (gs : List Gap) (ms : List Mark) (whole : Span) : (sumsV foot F l gs ms whole).1.map (toG gs) = (grpsV foot F l gs ms whole).1 ∧ (sumsV foot F l gs ms whole).2 = (grpsV foot F l gs ms whole).2 := by
  have h := smK_grps foot F l gs ms ms.length
  rw [grpsV_eq]
  unfold sumsV
  simp only [List.map_append, List.map_cons, List.map_nil, h.all, h.wrong, toG, h.rest, h.left, and_self]
theorem ixB_lt {n : Nat} {p : Nat → Bool} : ∀ i ∈ ixB n p, i < n := fun i hi => by
  unfold ixB at hi; exact List.mem_range.1 (List.mem_filter.1 hi).1
theorem ixB_len (n : Nat) (p : Nat → Bool) : (ixB n p).length ≤ n := by
  unfold ixB
  have := List.length_filter_le p (List.range n)
  rwa [List.length_range] at this
theorem ixB_succ (k : Nat) (p : Nat → Bool) : ixB (k + 1) p = if p k then ixB k p ++ [k] else ixB k p := by
  unfold ixB
  rw [List.range_succ, List.filter_append]
  by_cases h : p k = true
  · simp [h]
  · simp [h]
theorem ixB_nd (n : Nat) (p : Nat → Bool) : (ixB n p).Pairwise (· < ·) := by
  unfold ixB
  exact List.Pairwise.sublist List.filter_sublist List.pairwise_lt_range
theorem smK_len {foot : Int} {F : Nat} {l : List Note} {gs : List Gap} {ms : List Mark} : ∀ k, (smK foot F l gs ms k).all.length ≤ k ∧ (smK foot F l gs ms k).wrong.length ≤ k
  | 0 => ⟨Nat.le_refl _, Nat.le_refl _⟩
  | k + 1 => by
    have h := smK_len (foot := foot) (F := F) (l := l) (gs := gs) (ms := ms) k
    rw [smK_succ]
    unfold smS
    split
    · omega
    · split
      · simp only [List.length_append, List.length_singleton]; omega
      · simp only [List.length_append, List.length_singleton]; omega
theorem smK_left {foot : Int} {F : Nat} {l : List Note} {gs : List Gap} {ms : List Mark} (hf : 0 ≤ foot ∧ foot ≤ 80) (hm : MarksIn F ms) (hF : F ≤ 200000) : ∀ k, k ≤ ms.length → -1000000 * (k : Int) ≤ (smK foot F l gs ms k).left ∧ (smK foot F l gs ms k).left ≤ 200000 + 1000000 * (k : Int)
  | 0, _ => by
    have := picB_in l F
    show -1000000 * ((0 : Nat) : Int) ≤ picB l F ∧ picB l F ≤ 200000 + 1000000 * ((0 : Nat) : Int)
    omega
  | k + 1, hk => by
    have h := smK_left (l := l) (gs := gs) hf hm hF k (by omega)
    rw [smK_succ]
    unfold smS
    split
    · omega
    · rename_i hs
      have hk0 : 0 < k := by
        rcases Nat.eq_zero_or_pos k with h0 | h0
        · exact absurd (.inl h0) hs
        · exact h0
      have h1 := hm.mark (k - 1) (by omega); have h2 := hm.mark k (by omega)
      have h3 := miss_in (l := l) (a := mkD ms (k - 1)) (b := mkD ms k) hf h1.2.2 h2.2.2 (by omega) (by omega)
      split
      · simp only; omega
      · simp only; omega
end Go.Proofs.YtojomdojblgegaaGreatDoor.D
