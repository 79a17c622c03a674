/-
  ref.name.
-/
import Derived.Test.YtkidicfpfknfoaaDoorVRefN
import Derived.Test.YtkidicfpfknfoaaDoorVCheck
namespace Go.Proofs.YtkidicfpfknfoaaDoor.D
set_option linter.unusedVariables false
def nameE (s : ByteArray) (l : List ByteArray) : Int := if okName s = false then 6 else if anyF (fun k => sameS (strD l k) s) l.length then 5 else 0
def namesR (l : List Rm) (k : Nat) : List ByteArray := (List.range k).map fun i => (rmD l i).name
def namesC (l : List Cn) (k : Nat) : List ByteArray := (List.range k).map fun i => (cnD l i).name
theorem namesR_at {l : List Rm} {k i : Nat} (h : i < k) : strD (namesR l k) i = (rmD l i).name := by simp [strD, namesR, h]
theorem namesC_at {l : List Cn} {k i : Nat} (h : i < k) : strD (namesC l k) i = (cnD l i).name := by simp [strD, namesC, h]
theorem anyF_congr2 {p q : Nat → Bool} : ∀ {n : Nat}, (∀ i, i < n → p i = q i) → anyF p n = anyF q n
  | 0, _ => rfl
  | n + 1, h => by rw [anyF_succ, anyF_succ, anyF_congr2 (fun i hi => h i (by omega)), h n (by omega)]
theorem rmE_name (l : List Rm) (k : Nat) : rmE l k = if nameE (rmD l k).name (namesR l k) ≠ 0 then nameE (rmD l k).name (namesR l k) else roomE (rmD l k) := by
  unfold rmE nameE
  have e : anyF (fun j => sameS (strD (namesR l k) j) (rmD l k).name) (namesR l k).length = twiceR l k := by
    unfold twiceR
    have hl : (namesR l k).length = k := by simp [namesR]
    rw [hl]
    exact anyF_congr2 fun j hj => by rw [namesR_at hj]
  rw [e]
  cases okName (rmD l k).name
  · simp
  · cases twiceR l k <;> simp
theorem cnE_name (S : Site) (k : Nat) : cnE S k = if nameE (cnD S.cans k).name (namesC S.cans k) ≠ 0 then nameE (cnD S.cans k).name (namesC S.cans k) else canE S.rooms.length (cnD S.cans k) := by
  unfold cnE nameE
  have e : anyF (fun j => sameS (strD (namesC S.cans k) j) (cnD S.cans k).name) (namesC S.cans k).length = twiceC S.cans k := by
    unfold twiceC
    have hl : (namesC S.cans k).length = k := by simp [namesC]
    rw [hl]
    exact anyF_congr2 fun j hj => by rw [namesC_at hj]
  rw [e]
  cases okName (cnD S.cans k).name
  · simp
  · cases twiceC S.cans k <;> simp
end Go.Proofs.YtkidicfpfknfoaaDoor.D
namespace Go.Proofs.YtkidicfpfknfoaaDoor
open Go.RowKit D
set_option linter.unusedVariables false
set_option linter.unusedSimpArgs false
attribute [local go_sem high] run_minI run_maxI
attribute [local go_sem] upon2 cls_cell cls_frozen forall_const exists_eq_left'
attribute [local go_sem] FirstUpon
theorem ite_undef {c : Prop} [Decidable c] {A B : Prop} (hc : ¬ c) (h : B) : if c then A else B := by rw [if_neg hc]; exact h
theorem elStr : Elem Tryd.prog 116 9 (.string ByteArray.empty) 1 16 := ⟨by kernel_rfl, by kernel_rfl, rfl, by omega, by omega⟩
set_option maxRecDepth 100000 in
set_option maxHeartbeats 2000000 in
theorem nameRf_any {s : ByteArray} {t : Sl} {l : List ByteArray} {w : World} (hT : StrsS w t l) (hs : s.size ≤ maxLen) (hl : l.length ≤ 100) : Calls Tryd.prog 51 #[.string s, .slice t.a l.length t.cap] w fun e w' => e = .returned (.int .i64 (nameE s l)) ∧ w = w' := by
  have HT := Lib.hid hT
  have htl := hT.le; have htm := hT.max
  obtain ⟨E, hE⟩ : ∃ E, E = nameE s l := ⟨_, rfl⟩
  rw [← hE]
  unfold nameE at hE
  obtain ⟨v, hv⟩ : ∃ v, v = okName s := ⟨_, rfl⟩
  rw [← hv] at hE
  have HE := Lib.hid hE
  have HNM : Hid (∀ W, Calls Tryd.prog 79 #[.string s] W fun e w' => e = .returned (.bool v) ∧ W = w') := Lib.hid fun W => by rw [hv]; exact nameR_any hs
  obtain ⟨ta, tc⟩ := t
  dsimp only at htl htm
  clear hE hv hT hs
  go_enter Tryd.func51, Tryd.ntmps51
  go_wp2_with (fail)
  (with_reducible refine (HNM.out _).mono ?_)
  rintro e w' ⟨rfl, rfl⟩
  cases v
  case false =>
    go_wp2_with (fail)
    go_ret
    exact ⟨ret_int (by rw [HE.out]; rfl), rfl⟩
  case true =>
  go_wp2_with (fail)
  go_loop [5] (fun z => ∃ k : Nat, z = .int .i64 (k : Int) ∧ k ≤ l.length ∧ ∀ j, j < k → sameS (strD l j) s = false) (fun z => l.length - (intOf z).toNat)
  case atStart => exact ⟨0, rfl, by omega, fun j hj => absurd hj (Nat.not_lt_zero j)⟩
  case round =>
    obtain ⟨k, rfl, hk, hall⟩ := hrel
    have HALL := Lib.hid hall
    clear hall
    by_cases hlt : k < l.length
    · go_light
      obtain ⟨tb, toff, hta, t0⟩ := str_cell HT.out hlt
      dsimp only at hta
      subst hta
      obtain ⟨x, hx⟩ : ∃ x, x = strD l k := ⟨_, rfl⟩
      rw [← hx] at t0
      have HX := Lib.hid hx
      have p0 : (0 : Int) ≤ (k : Int) := by omega
      have p1 : (k : Int) < (l.length : Int) := by omega
      clear hx
      cases hq : sameS x s
      case false =>
        have he2 : (x.toList == s.toList) = false := by rw [beq_list]; exact hq
        have HQ := Lib.hid hq
        clear hq
        go_wp2_with (fail)
        go_round
        case rel =>
          refine ⟨k + 1, by go_num, by omega, fun j hj => ?_⟩
          rcases Nat.lt_or_ge j k with h | h
          · exact HALL.out j h
          · obtain rfl : j = k := by omega
            rw [← HX.out]; exact HQ.out
        case measure => simp [intOf]; omega
      case true =>
        have he2 : (x.toList == s.toList) = true := by rw [beq_list]; exact hq
        have hE2 : E = 5 := by
          have : anyF (fun k => sameS (strD l k) s) l.length = true := decide_eq_true (by rw [firstN_at (k := k) HALL.out (by rw [← HX.out]; exact hq) hlt]; exact hlt)
          rw [HE.out, if_neg (by simp), this, if_pos rfl]
        have HE2 := Lib.hid hE2
        clear hq hE2
        go_wp2_with (fail)
        go_ret
        exact ⟨ret_int HE2.out.symm, rfl⟩
    · obtain rfl : k = l.length := by omega
      have hE2 : E = 0 := by
        have : anyF (fun k => sameS (strD l k) s) l.length = false := decide_eq_false (by rw [firstN_none HALL.out]; omega)
        rw [HE.out, if_neg (by simp), this]; rfl
      have HE2 := Lib.hid hE2
      have r9 : ¬ (l.length : Int) < (l.length : Int) := by omega
      clear hE2
      go_wp2_with (fail)
      go_ret
      exact ⟨ret_int HE2.out.symm, rfl⟩
end Go.Proofs.YtkidicfpfknfoaaDoor
