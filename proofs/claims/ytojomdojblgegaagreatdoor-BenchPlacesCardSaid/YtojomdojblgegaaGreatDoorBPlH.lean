/-
  What the reference's Gaps does to the list of gaps, plain.
-/
import Derived.Test.YtojomdojblgegaaGreatDoorBROp
namespace Go.Proofs.YtojomdojblgegaaGreatDoor.D
set_option linter.unusedVariables false
theorem inFr_idx {gs : List Gap} (h : InFr gs) {i j : Nat} (hi : i < gs.length) (hj : j < gs.length) (he : (gpD gs i).frame = (gpD gs j).frame) : i = j := by
  rw [gpD_get hi, gpD_get hj] at he
  rcases Nat.lt_trichotomy i j with h1 | h1 | h1
  · have := List.pairwise_iff_getElem.1 h i j hi hj h1; omega
  · exact h1
  · have := List.pairwise_iff_getElem.1 h j i hj hi h1; omega
theorem ixG_lt {gs : List Gap} {X : IxG} (h : SumOk gs X) : X.1.Pairwise (· < ·) := by
  obtain ⟨p, hp⟩ := h.ix; rw [hp]; exact ixB_nd _ _
theorem ix_parts {l : List Nat} {k : Nat} (hk : k < l.length) : l = l.take k ++ l.getD k 0 :: l.drop (k + 1) := by
  have e : l.getD k 0 = l[k] := by rw [List.getD_eq_getElem?_getD, List.getElem?_eq_getElem hk]; rfl
  rw [e, ← List.drop_eq_getElem_cons hk, List.take_append_drop]
theorem split_frame {gs : List Gap} (h : InFr gs) {X : IxG} (hX : SumOk gs X) {k : Nat} (hk : k < X.1.length) :
    ((toG gs X).gaps.filter fun y => decide (y.frame = (gpD gs (X.1.getD k 0)).frame)) = [gpD gs (X.1.getD k 0)] ∧ ((toG gs X).gaps.filter fun y => !decide (y.frame = (gpD gs (X.1.getD k 0)).frame)) = (X.1.take k ++ X.1.drop (k + 1)).map (gpD gs) := by
  have hp := ixG_lt hX
  have e := ix_parts hk
  have hq : X.1.getD k 0 < gs.length := hX.lt _ (by rw [List.getD_eq_getElem?_getD, List.getElem?_eq_getElem hk]; exact List.getElem_mem hk)
  generalize X.1.getD k 0 = q at e hq ⊢
  have hg : (toG gs X).gaps = (X.1.take k).map (gpD gs) ++ gpD gs q :: (X.1.drop (k + 1)).map (gpD gs) := by
    show X.1.map (gpD gs) = _
    conv => lhs; rw [e]
    rw [List.map_append, List.map_cons]
  rw [e] at hp
  have hp1 := List.pairwise_append.1 hp
  have hp2 := List.pairwise_cons.1 hp1.2.1
  have hn : ∀ i, i ∈ X.1.take k ∨ i ∈ X.1.drop (k + 1) → (gpD gs i).frame ≠ (gpD gs q).frame := fun i hi he => by
    have hil : i < gs.length := hX.lt i (hi.elim List.mem_of_mem_take List.mem_of_mem_drop)
    have := inFr_idx h hil hq he
    subst this
    rcases hi with hi | hi
    · have := hp1.2.2 i hi i List.mem_cons_self; omega
    · have := hp2.1 i hi; omega
  have f1 : ∀ l : List Nat, (∀ i ∈ l, (gpD gs i).frame ≠ (gpD gs q).frame) → (l.map (gpD gs)).filter (fun y => decide (y.frame = (gpD gs q).frame)) = [] ∧ (l.map (gpD gs)).filter (fun y => !decide (y.frame = (gpD gs q).frame)) = l.map (gpD gs) := fun l hl => by
    constructor
    · refine List.filter_eq_nil_iff.2 fun y hy => ?_
      obtain ⟨i, hi, rfl⟩ := List.mem_map.1 hy
      simp [hl i hi]
    · refine List.filter_eq_self.2 fun y hy => ?_
      obtain ⟨i, hi, rfl⟩ := List.mem_map.1 hy
      simp [hl i hi]
  obtain ⟨a1, a2⟩ := f1 (X.1.take k) fun i hi => hn i (.inl hi)
  obtain ⟨b1, b2⟩ := f1 (X.1.drop (k + 1)) fun i hi => hn i (.inr hi)
  rw [hg]
  refine ⟨?_, ?_⟩
  · rw [List.filter_append, List.filter_cons, a1, b1]; simp
  · rw [List.filter_append, List.filter_cons, a2, b2, List.map_append]; simp
/-- The gap of an index behind rounds: those that are done are as their sum tells. -/
structure OutK (gs : List Gap) (L : List IxG) (i k : Nat) (O : List Gap) : Prop where
  len : O.length = gs.length
  done : ∀ a j, (a < i ∨ a = i ∧ j < k) → a < L.length → j < (L.getD a ([], ⟨0, 0⟩)).1.length → gpD O ((L.getD a ([], ⟨0, 0⟩)).1.getD j 0) = tellG (toG gs (L.getD a ([], ⟨0, 0⟩))) (gpD gs ((L.getD a ([], ⟨0, 0⟩)).1.getD j 0))
  fk : ∀ q, q < gs.length → (gpD O q).frame = (gpD gs q).frame ∧ (gpD O q).kind = (gpD gs q).kind
theorem outK_zero (gs : List Gap) (L : List IxG) : OutK gs L 0 0 gs :=
  ⟨rfl, fun a j h _ _ => by omega, fun q _ => ⟨rfl, rfl⟩⟩
theorem outK_next {gs : List Gap} {L : List IxG} {i : Nat} {O : List Gap} (h : OutK gs L i (L.getD i ([], ⟨0, 0⟩)).1.length O) : OutK gs L (i + 1) 0 O :=
  ⟨h.len, fun a j h1 h2 h3 => h.done a j (by
    rcases h1 with h1 | h1
    · rcases Nat.lt_or_ge a i with h4 | h4
      · exact .inl h4
      · obtain rfl : a = i := by omega
        exact .inr ⟨rfl, h3⟩
    · omega) h2 h3, h.fk⟩
theorem gpD_set {P : List Gap} {q i : Nat} {x : Gap} (hq : q < P.length) : gpD (P.set q x) i = if i = q then x else gpD P i := by
  unfold gpD
  rw [List.getD_eq_getElem?_getD, List.getD_eq_getElem?_getD, List.getElem?_set]
  by_cases h : q = i
  · subst h; simp [hq]
  · rw [if_neg h, if_neg (fun h' => h h'.symm)]
/-- The sums have the indices of all gaps, each once. -/
structure IxOk (gs : List Gap) (L : List IxG) : Prop where
  ord : InFr gs
  ok : ∀ x ∈ L, SumOk gs x
  part : PartOk gs (L.map (toG gs))
theorem ixD_mem {L : List IxG} {a : Nat} (ha : a < L.length) : L.getD a ([], ⟨0, 0⟩) ∈ L := by
  rw [List.getD_eq_getElem?_getD, List.getElem?_eq_getElem ha]; exact List.getElem_mem ha
theorem IxOk.one {gs : List Gap} {L : List IxG} (h : IxOk gs L) {a b j k : Nat} (ha : a < L.length) (hb : b < L.length) (hj : j < (L.getD a ([], ⟨0, 0⟩)).1.length) (hk : k < (L.getD b ([], ⟨0, 0⟩)).1.length) (he : (L.getD a ([], ⟨0, 0⟩)).1.getD j 0 = (L.getD b ([], ⟨0, 0⟩)).1.getD k 0) : toG gs (L.getD a ([], ⟨0, 0⟩)) = toG gs (L.getD b ([], ⟨0, 0⟩)) := by
  refine h.part.one (List.mem_map.2 ⟨_, ixD_mem ha, rfl⟩) (List.mem_map.2 ⟨_, ixD_mem hb, rfl⟩) (x := gpD gs ((L.getD a ([], ⟨0, 0⟩)).1.getD j 0)) (y := gpD gs ((L.getD b ([], ⟨0, 0⟩)).1.getD k 0)) ?_ ?_ (by rw [he])
  · exact List.mem_map.2 ⟨_, by rw [List.getD_eq_getElem?_getD (l := (L.getD a ([], ⟨0, 0⟩)).1), List.getElem?_eq_getElem hj]; exact List.getElem_mem hj, rfl⟩
  · exact List.mem_map.2 ⟨_, by rw [List.getD_eq_getElem?_getD (l := (L.getD b ([], ⟨0, 0⟩)).1), List.getElem?_eq_getElem hk]; exact List.getElem_mem hk, rfl⟩
theorem outK_step {gs : List Gap} {L : List IxG} (hI : IxOk gs L) {i k : Nat} {O : List Gap} (h : OutK gs L i k O) (hi : i < L.length) (hk : k < (L.getD i ([], ⟨0, 0⟩)).1.length) {q : Nat} (hq : q = (L.getD i ([], ⟨0, 0⟩)).1.getD k 0) {P : Span} (hP : P = partG (toG gs (L.getD i ([], ⟨0, 0⟩))) fun y => decide (y.frame = (gpD gs q).frame)) : OutK gs L i (k + 1) (O.set q { gpD O q with lo := P.lo, hi := P.hi }) := by
  have hql : q < gs.length := by
    rw [hq]
    exact (hI.ok _ (ixD_mem hi)).lt _ (by rw [List.getD_eq_getElem?_getD (l := (L.getD i ([], ⟨0, 0⟩)).1), List.getElem?_eq_getElem hk]; exact List.getElem_mem hk)
  have hqo : q < O.length := by rw [h.len]; exact hql
  have hnew : ({ gpD O q with lo := P.lo, hi := P.hi } : Gap) = tellG (toG gs (L.getD i ([], ⟨0, 0⟩))) (gpD gs q) := by
    have := h.fk q hql
    unfold tellG
    rw [hP]
    simp only [this.1, this.2]
  refine ⟨by rw [List.length_set]; exact h.len, fun a j h1 h2 h3 => ?_, fun p hp => ?_⟩
  · rw [gpD_set hqo]
    by_cases he : (L.getD a ([], ⟨0, 0⟩)).1.getD j 0 = q
    · rw [if_pos he, hnew, he]
      have := hI.one h2 hi h3 hk (by rw [he, hq])
      rw [this]
    · rw [if_neg he]
      refine h.done a j ?_ h2 h3
      rcases h1 with h1 | ⟨h1, h4⟩
      · exact .inl h1
      · subst h1
        refine .inr ⟨rfl, ?_⟩
        rcases Nat.lt_or_ge j k with h5 | h5
        · exact h5
        · obtain rfl : j = k := by omega
          exact absurd hq.symm he
  · rw [gpD_set hqo]
    split
    · rename_i he; subst he; exact h.fk p hp
    · exact h.fk p hp
theorem outK_end {gs : List Gap} {L : List IxG} (hI : IxOk gs L) {O : List Gap} (h : OutK gs L L.length 0 O) : O = ansV gs (L.map (toG gs)) := by
  refine List.ext_getElem (by rw [h.len, ansV_len]) fun q h1 h2 => ?_
  have hq : q < gs.length := by rw [← h.len]; exact h1
  have hx : gpD gs q ∈ gs := by rw [gpD_get hq]; exact List.getElem_mem hq
  obtain ⟨g, hg, hxg⟩ := hI.part.cov _ hx
  obtain ⟨X, hX, rfl⟩ := List.mem_map.1 hg
  obtain ⟨a, ha, rfl⟩ := List.getElem_of_mem hX
  have eX : L.getD a ([], ⟨0, 0⟩) = L[a] := by rw [List.getD_eq_getElem?_getD, List.getElem?_eq_getElem ha]; rfl
  obtain ⟨r, hr, hrq⟩ := List.mem_map.1 hxg
  obtain ⟨j, hj, rfl⟩ := List.getElem_of_mem hr
  have eJ : L[a].1.getD j 0 = L[a].1[j] := by rw [List.getD_eq_getElem?_getD, List.getElem?_eq_getElem hj]; rfl
  have hrl : L[a].1[j] < gs.length := (hI.ok _ hX).lt _ (List.getElem_mem hj)
  have hrr : L[a].1[j] = q := inFr_idx hI.ord hrl hq (by rw [hrq])
  have hd := h.done a j (.inl ha) ha (by rw [eX]; exact hj)
  rw [eX, eJ, hrr, gpD_get h1] at hd
  rw [hd]
  simp only [ansV, List.getElem_map]
  rw [hI.part.of hg (x := gs[q]) (by rw [← gpD_get hq]; exact hxg), gpD_get hq]
theorem sums_ixOk {T : Task} (hc : (checkV T).2.2 = 0) : IxOk (gapsT T).1 (sumsT T).1 := by
  have hp := task_p hc
  exact ⟨hp.gaps.ord, sumsT_ok hc, by rw [(sumsT_grps T).1]; exact hp.part⟩
theorem gapsN_pos (F : Nat) (N : List Note) : 0 < (gapsN F N).1.length := by
  unfold gapsN
  simp only
  split
  · simp
  · simp
end Go.Proofs.YtojomdojblgegaaGreatDoor.D
namespace Go.Proofs.YtojomdojblgegaaGreatDoor
open D
theorem ptR_tell {gs : List Gap} (h : InFr gs) {X : IxG} (hX : SumOk gs X) {k : Nat} (hk : k < X.1.length) : ptR gs X.2 [X.1.getD k 0] (X.1.take k ++ X.1.drop (k + 1)) = partG (toG gs X) fun y => decide (y.frame = (gpD gs (X.1.getD k 0)).frame) := by
  obtain ⟨h1, h2⟩ := split_frame h hX hk
  unfold ptR partG
  rw [h1, h2]
  rfl
end Go.Proofs.YtojomdojblgegaaGreatDoor
