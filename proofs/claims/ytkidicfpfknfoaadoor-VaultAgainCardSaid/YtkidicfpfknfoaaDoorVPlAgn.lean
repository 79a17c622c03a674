/-
  VaultAgain, plain: moves that are left out, and moves that come later.
-/
import Derived.Test.YtkidicfpfknfoaaDoorVPlBst
namespace Go.Proofs.YtkidicfpfknfoaaDoor.D
theorem valid_take {S : Site} {L : List Mv} (h : ∀ i, i < L.length → mvE S (mvD L i) = 0) (n : Nat) : ∀ i, i < (L.take n).length → mvE S (mvD (L.take n) i) = 0 := by
  intro i hi
  rw [List.length_take] at hi
  rw [mvD_take (by omega)]
  exact h i (by omega)
theorem valid_kept {S : Site} {M : List Mv} (hK : Kept S M) : ∀ i, i < M.length → mvE S (mvD M i) = 0 := fun _ hi => hK.valid _ (mvD_mem hi)
theorem playV_kept {S : Site} {M : List Mv} (hK : Kept S M) : playV S M = (M, List.replicate M.length 0) := by
  unfold playV
  rw [play_again hK (Nat.le_refl _), List.take_length]
theorem playV_take {S : Site} {L : List Mv} {n : Nat} (hn : n ≤ L.length) : playV S (L.take n) = playK S L n := by
  unfold playV
  have e : (L.take n).length = n := by rw [List.length_take]; omega
  rw [e]
  exact playK_congr fun i hi => mvD_take hi
/-- What VaultAgain looks at. -/
structure AgainV (S : Site) (L : List Mv) (n : Nat) : Prop where
  kept : Kept S (playV S L).1
  le : (playV S L).1.length ≤ L.length
  why : (playV S L).2.length = L.length
  again : playV S (playV S L).1 = ((playV S L).1, List.replicate (playV S L).1.length 0)
  some_ : (playV S (L.take n)).1 = (playV S L).1.take (playV S (L.take n)).1.length
  slen : (playV S (L.take n)).1.length ≤ (playV S L).1.length
  short : (playV S (L.take n)).2 = (playV S L).2.take n
theorem again_v {S : Site} {L : List Mv} {n : Nat} (hv : ∀ i, i < L.length → mvE S (mvD L i) = 0) (hn : n ≤ L.length) : AgainV S L n := by
  have hp := played hv (Nat.le_refl L.length)
  have hq := played hv hn
  have hpr := playK_pre (S := S) (L := L) hn
  have e := playV_take (S := S) hn
  refine ⟨hp.kept, hp.le, hp.len, playV_kept hp.kept, ?_, ?_, ?_⟩
  · rw [e]; exact List.prefix_iff_eq_take.1 hpr.1
  · rw [e]; exact hpr.1.length_le
  · rw [e]
    have := List.prefix_iff_eq_take.1 hpr.2
    rw [hq.len] at this
    exact this
/-- Where and Temp ahead of the first move that differs. -/
theorem again_at {S : Site} {L : List Mv} {n : Nat} (h : AgainV S L n) {P : Nat} (hP : (playV S (L.take n)).1.length = P) (hlt : P < (playV S L).1.length) {x : Int} (hx : x = (mvD (playV S L).1 P).hour - 1) (h0 : 0 ≤ x) (c : Nat) :
    ownT S (playV S L).1 c (x + 1).toNat = ownT S (playV S (L.take n)).1 c (x + 1).toNat ∧ whereV S (playV S L).1 x = whereV S (playV S (L.take n)).1 x := by
  have e := h.some_
  rw [hP] at e
  rw [e]
  refine ⟨own_take h.kept hlt (by omega) c, ?_⟩
  unfold whereV
  refine List.map_congr_left fun i _ => ?_
  exact take_late h.kept (by omega) fun _ => by omega
theorem tempE_zero {S : Site} {L : List Mv} {c h : Int} (hm : movedE S L = 0) (hc : 0 ≤ c ∧ c < S.cans.length) (hh : 0 ≤ h ∧ h ≤ 2400) : tempE S L c h = 0 := by
  unfold tempE playE
  rw [hm, inB_iff.2 (show 0 ≤ c ∧ c ≤ (S.cans.length : Int) - 1 by omega), inB_iff.2 hh]
  simp
theorem whereE_zero {S : Site} {L : List Mv} {h : Int} (hm : movedE S L = 0) (hh : 0 ≤ h ∧ h ≤ 2400) : whereE S L h = 0 := by
  unfold whereE
  rw [hm, inB_iff.2 hh]
  simp
end Go.Proofs.YtkidicfpfknfoaaDoor.D
