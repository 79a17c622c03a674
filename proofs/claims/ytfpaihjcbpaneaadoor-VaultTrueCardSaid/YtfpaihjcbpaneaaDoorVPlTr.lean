/-
  VaultTrue, plain: a can's life keeps to what Temp and Climates say.
-/
import Derived.Test.YtfpaihjcbpaneaaDoorVPlBst
namespace Go.Proofs.YtfpaihjcbpaneaaDoor.D
set_option linter.unusedVariables false
/-- A number of a list, by turns (0: the list is empty). -/
def idxL (l : List Int) (i : Nat) : Int := if l.length = 0 then 0 else intD l (i % l.length)
theorem idxL_none {l : List Int} {i : Nat} (h : l.length = 0) : idxL l i = 0 := if_pos h
theorem idxL_some {l : List Int} {i : Nat} (h : 0 < l.length) : idxL l i = intD l (i % l.length) := if_neg (by omega)
theorem idxL_in {l : List Int} (h : ∀ i, i < l.length → 0 ≤ intD l i ∧ intD l i ≤ 255) (i : Nat) : 0 ≤ idxL l i ∧ idxL l i ≤ 255 := by
  by_cases h0 : l.length = 0
  · rw [idxL_none h0]; omega
  · rw [idxL_some (by omega)]; exact h _ (Nat.mod_lt _ (by omega))
theorem partV_zero (lo hi : Int) : partV lo hi 0 = lo := by unfold partV; simp
/-- A move that is kept does not make the can sweat, whatever the room's air is. -/
theorem kept_dry {S : Site} (hC : Chk S) {M : List Mv} (hK : Kept S M) {k : Nat} (hk : k < M.length) {h : Nat} (hh : (mvD M k).hour = (h : Int)) {can : Nat} (hcan : (mvD M k).can = (can : Int)) {air damp own : Int}
    (h1 : air ≤ (rmD S.rooms (mvD M k).to_.toNat).thi) (h1' : -300 ≤ air) (h2 : damp ≤ (rmD S.rooms (mvD M k).to_.toNat).dhi) (h2' : 0 ≤ damp) (h3 : (ownT S M can h).lo ≤ own) (h3' : own ≤ 600) : damp * vap air ≤ 1000 * vap own := by
  have hv := mvE_iff.1 (hK.valid _ (mvD_mem hk))
  obtain ⟨-, ⟨c1, c2⟩, t1, t2⟩ := hv
  have hw := hK.ok k hk
  have hm : mayS (ownT S (M.take k) can h) (rmD S.rooms (mvD M k).to_.toNat) = false := by
    unfold whyV at hw
    split at hw
    · cases hw
    split at hw
    · cases hw
    split at hw
    · cases hw
    split at hw
    · cases hw
    split at hw
    · cases hw
    split at hw
    · cases hw
    · rename_i hx
      have e1 : (mvD M k).can.toNat = can := by omega
      have e2 : (mvD M k).hour.toNat = h := by omega
      rw [e1, e2] at hx
      simpa using hx
  have ho := own_take (S := S) hK (j := k) (n := h) hk (by omega) can
  rw [← ho] at hm
  have hcl : can < S.cans.length := by omega
  obtain ⟨o1, o2, o3, o4⟩ := hC.own hK.valid hcl h
  have hto : (mvD M k).to_.toNat < S.rooms.length := by omega
  obtain ⟨⟨r1, r2, r3, r4, r5, r6, r7, r8⟩, -⟩ := hC.room hto
  unfold mayS wet at hm
  have hm' : ¬ 1000 * vap (ownT S M can h).lo < (rmD S.rooms (mvD M k).to_.toNat).dhi * vap (rmD S.rooms (mvD M k).to_.toNat).thi := of_decide_eq_false hm
  have v1 := vap_mono h1' h1 r4
  have v2 := vap_mono o1 h3 h3'
  have v3 := vap_in h1' (by omega : air ≤ 600)
  have a1 : damp * vap air ≤ (rmD S.rooms (mvD M k).to_.toNat).dhi * vap (rmD S.rooms (mvD M k).to_.toNat).thi := Int.mul_le_mul h2 v1 (by omega) (by omega)
  omega
/-- Where the can is before the moves of an hour, and how many moves are behind it. -/
structure TrSt (S : Site) (M : List Mv) (can h k : Nat) (room : Int) : Prop where
  le : k ≤ M.length
  past : ∀ i, i < k → (mvD M i).hour ≤ (h : Int)
  next : k < M.length → (h : Int) ≤ (mvD M k).hour
  room_ : room = atK S M can (h : Int) k
theorem tr_zero {S : Site} {M : List Mv} (hK : Kept S M) {can : Nat} : TrSt S M can 0 0 (cnD S.cans can).room :=
  ⟨Nat.zero_le _, fun i hi => absurd hi (Nat.not_lt_zero i), fun h => by have := (mvE_iff.1 (hK.valid _ (mvD_mem h))).1.1; omega, rfl⟩
theorem tr_step {S : Site} {M : List Mv} (hK : Kept S M) {can h k : Nat} {room : Int} (hT : TrSt S M can h k room) (hk : k < M.length) (hh : (mvD M k).hour ≤ (h : Int)) :
    (mvD M k).hour = (h : Int) ∧ TrSt S M can h (k + 1) (if (mvD M k).can = (can : Int) then (mvD M k).to_ else room) := by
  have e : (mvD M k).hour = (h : Int) := by have := hT.next hk; omega
  refine ⟨e, by omega, fun i hi => ?_, fun h1 => ?_, ?_⟩
  · rcases Nat.lt_or_ge i k with h1 | h1
    · exact hT.past i h1
    · obtain rfl : i = k := by omega
      omega
  · have := hK.next h1; omega
  · rw [atK]
    by_cases hc : (mvD M k).can = (can : Int)
    · rw [if_pos hc, if_pos ⟨hc, hh⟩]
    · rw [if_neg hc, if_neg (fun h => hc h.1)]; exact hT.room_
/-- Behind the moves of an hour the can is where Where says; and so it goes on. -/
theorem tr_done {S : Site} {M : List Mv} (hK : Kept S M) {can h k : Nat} {room : Int} (hT : TrSt S M can h k room) (hk : k < M.length → (h : Int) < (mvD M k).hour) : room = atV S M can (h : Int) ∧ TrSt S M can (h + 1) k room := by
  have e1 : atV S M can (h : Int) = atV S (M.take k) can (h : Int) := take_late hK hT.le hk
  have e2 : atV S (M.take k) can (h : Int) = atK S M can (h : Int) k := by
    unfold atV
    rw [List.length_take, Nat.min_eq_left hT.le]
    exact atK_congr fun i hi => mvD_take hi
  refine ⟨by rw [e1, e2]; exact hT.room_, hT.le, fun i hi => by have := hT.past i hi; omega, fun h1 => by have := hk h1; omega, ?_⟩
  rw [hT.room_]
  exact atV_early hT.past (by omega)
end Go.Proofs.YtfpaihjcbpaneaaDoor.D
