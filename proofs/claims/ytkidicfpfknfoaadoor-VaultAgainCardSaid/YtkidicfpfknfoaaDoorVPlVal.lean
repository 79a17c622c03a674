/-
  Plain: sites that are valid.
-/
import Derived.Test.YtkidicfpfknfoaaDoorVPlPlay
import Derived.Test.YtkidicfpfknfoaaDoorVPlNar
namespace Go.Proofs.YtkidicfpfknfoaaDoor.D
set_option linter.unusedVariables false
set_option linter.unusedSimpArgs false
structure Chk (S : Site) : Prop where
  len : (1 ≤ S.rooms.length ∧ S.rooms.length ≤ 12) ∧ S.cans.length ≤ 30 ∧ S.steps.length ≤ 8
  rm : ∀ i, i < S.rooms.length → rmE S.rooms i = 0
  cn : ∀ i, i < S.cans.length → cnE S i = 0
  rate : (1 ≤ S.rlo ∧ S.rlo ≤ 100) ∧ 1 ≤ S.rhi ∧ S.rhi ≤ 100
  rle : S.rlo ≤ S.rhi
  st : ∀ i, i < S.steps.length → stE S.steps i = 0
  ov : ∀ i, i < S.cans.length → overB S i = false
  nr : nears S (firstW S.cans) = []
theorem first_all {p : Nat → Int} {n : Nat} : ¬ firstN (fun i => p i != 0) n < n ↔ ∀ i, i < n → p i = 0 := by
  constructor
  · intro h i hi
    have hl := firstN_le (fun i => p i != 0) n
    have := (firstN_spec (p := fun i => p i != 0) (n := n)).1 i (by omega)
    simpa using this
  · intro h
    rw [firstN_none (fun i hi => by rw [h i hi]; rfl)]; omega
theorem first_ne {p : Nat → Int} {n : Nat} (h : firstN (fun i => p i != 0) n < n) : p (firstN (fun i => p i != 0) n) ≠ 0 := by
  have := (firstN_spec (p := fun i => p i != 0) (n := n)).2 h
  simpa using this
theorem first_allB {p : Nat → Bool} {n : Nat} : ¬ firstN p n < n ↔ ∀ i, i < n → p i = false := by
  constructor
  · intro h i hi
    have hl := firstN_le p n
    exact (firstN_spec (p := p) (n := n)).1 i (by omega)
  · intro h
    rw [firstN_none h]; omega
theorem chk_iff {S : Site} : (checkV S).2.2 = 0 ↔ Chk S := by
  unfold checkV
  have hlen : (inB (S.rooms.length : Int) 1 12 && decide (S.cans.length ≤ 30) && decide (S.steps.length ≤ 8)) = true ↔ ((1 ≤ S.rooms.length ∧ S.rooms.length ≤ 12) ∧ S.cans.length ≤ 30 ∧ S.steps.length ≤ 8) := by
    simp only [Bool.and_eq_true, inB_iff, decide_eq_true_eq]; omega
  have hrate : (inB S.rlo 1 100 && inB S.rhi 1 100) = true ↔ ((1 ≤ S.rlo ∧ S.rlo ≤ 100) ∧ 1 ≤ S.rhi ∧ S.rhi ≤ 100) := by
    simp only [Bool.and_eq_true, inB_iff]
  constructor
  · intro h
    split at h
    · cases h
    rename_i h1
    split at h
    · rename_i h2; exact absurd h (first_ne h2)
    rename_i h2
    split at h
    · rename_i h3; exact absurd h (first_ne (p := cnE S) h3)
    rename_i h3
    split at h
    · cases h
    rename_i h4
    split at h
    · cases h
    rename_i h5
    split at h
    · rename_i h6; exact absurd h (first_ne h6)
    rename_i h6
    split at h
    · cases h
    rename_i h7
    split at h
    · cases h
    rename_i h8
    exact ⟨hlen.1 (by simpa only [Bool.not_eq_false] using h1), first_all.1 h2, first_all.1 h3, hrate.1 (by simpa only [Bool.not_eq_false] using h4), by omega, first_all.1 h6, first_allB.1 h7, Classical.not_not.1 h8⟩
  · rintro ⟨h1, h2, h3, h4, h5, h6, h7, h8⟩
    rw [hlen.2 h1, if_neg (by simp), if_neg (show ¬ fstR S < _ from first_all.2 h2), if_neg (show ¬ fstC S < _ from first_all.2 h3), hrate.2 h4, if_neg (by simp), if_neg (by omega), if_neg (show ¬ fstS S < _ from first_all.2 h6), if_neg (show ¬ fstO S < _ from first_allB.2 h7), if_neg (not_not_intro h8)]
theorem room_iff {r : Rm} : roomE r = 0 ↔ RIn r ∧ r.tlo ≤ r.thi ∧ r.dlo ≤ r.dhi ∧ (0 ≤ r.most ∧ r.most ≤ 10000000) ∧ (0 ≤ r.x ∧ r.x ≤ 10000) ∧ 0 ≤ r.y ∧ r.y ≤ 10000 := by
  unfold roomE RIn
  have hb : (inB r.tlo (-300) 600 && inB r.thi (-300) 600 && inB r.dlo 0 1000 && inB r.dhi 0 1000 && inB r.most 0 10000000 && inB r.x 0 10000 && inB r.y 0 10000) = true ↔ ((((((-300 ≤ r.tlo ∧ r.tlo ≤ 600) ∧ (-300 ≤ r.thi ∧ r.thi ≤ 600)) ∧ (0 ≤ r.dlo ∧ r.dlo ≤ 1000)) ∧ (0 ≤ r.dhi ∧ r.dhi ≤ 1000)) ∧ (0 ≤ r.most ∧ r.most ≤ 10000000)) ∧ (0 ≤ r.x ∧ r.x ≤ 10000)) ∧ (0 ≤ r.y ∧ r.y ≤ 10000) := by
    simp only [Bool.and_eq_true, inB_iff]
  constructor
  · intro h
    split at h
    · cases h
    rename_i h1
    split at h
    · cases h
    have := hb.1 (by simpa only [Bool.not_eq_false] using h1)
    omega
  · intro h
    rw [hb.2 (by omega), if_neg (by simp), if_neg (by omega)]
theorem can_iff {n : Nat} {c : Cn} : canE n c = 0 ↔ (1 ≤ c.base ∧ c.base ≤ 3) ∧ (1 ≤ c.frames ∧ c.frames ≤ 200000) ∧ 0 ≤ c.room ∧ c.room < n := by
  unfold canE
  constructor
  · intro h
    split at h
    · cases h
    rename_i h1
    split at h
    · cases h
    rename_i h2
    split at h
    · cases h
    rename_i h3
    have a := inB_iff.1 (by simpa using h1); have b := inB_iff.1 (by simpa using h2); have c := inB_iff.1 (by simpa using h3)
    omega
  · intro h
    rw [inB_iff.2 (by omega), inB_iff.2 (by omega), inB_iff.2 (by omega)]; rfl
theorem rm_iff {l : List Rm} {i : Nat} : rmE l i = 0 ↔ okName (rmD l i).name = true ∧ twiceR l i = false ∧ roomE (rmD l i) = 0 := by
  unfold rmE
  cases okName (rmD l i).name
  · simp
  · cases twiceR l i <;> simp
theorem cn_iff {S : Site} {i : Nat} : cnE S i = 0 ↔ okName (cnD S.cans i).name = true ∧ twiceC S.cans i = false ∧ canE S.rooms.length (cnD S.cans i) = 0 := by
  unfold cnE
  cases okName (cnD S.cans i).name
  · simp
  · cases twiceC S.cans i <;> simp
theorem st_iff {l : List Stp} {i : Nat} : stE l i = 0 ↔ ((0 ≤ (stD l i).over ∧ (stD l i).over ≤ 10000000) ∧ 0 ≤ (stD l i).metres ∧ (stD l i).metres ≤ 10000) ∧ (0 < i → (stD l (i - 1)).over < (stD l i).over ∧ (stD l (i - 1)).metres ≤ (stD l i).metres) := by
  unfold stE
  have hb : (inB (stD l i).over 0 10000000 && inB (stD l i).metres 0 10000) = true ↔ ((0 ≤ (stD l i).over ∧ (stD l i).over ≤ 10000000) ∧ 0 ≤ (stD l i).metres ∧ (stD l i).metres ≤ 10000) := by simp only [Bool.and_eq_true, inB_iff]
  constructor
  · intro h
    split at h
    · cases h
    rename_i h1
    split at h
    · cases h
    have := hb.1 (by simpa only [Bool.not_eq_false] using h1)
    exact ⟨this, fun _ => by omega⟩
  · intro h
    rw [hb.2 h.1, if_neg (by simp), if_neg (by omega)]
theorem Chk.room {S : Site} (h : Chk S) {i : Nat} (hi : i < S.rooms.length) : RIn (rmD S.rooms i) ∧ (rmD S.rooms i).tlo ≤ (rmD S.rooms i).thi ∧ (rmD S.rooms i).dlo ≤ (rmD S.rooms i).dhi ∧ (0 ≤ (rmD S.rooms i).most ∧ (rmD S.rooms i).most ≤ 10000000) ∧ (0 ≤ (rmD S.rooms i).x ∧ (rmD S.rooms i).x ≤ 10000) ∧ 0 ≤ (rmD S.rooms i).y ∧ (rmD S.rooms i).y ≤ 10000 :=
  room_iff.1 (rm_iff.1 (h.rm i hi)).2.2
theorem Chk.cans {S : Site} (h : Chk S) : CansOk S :=
  have := fun i hi => can_iff.1 (cn_iff.1 (h.cn i hi)).2.2
  ⟨fun i hi => (this i hi).1, fun i hi => (this i hi).2.1, fun i hi => (this i hi).2.2⟩
theorem Chk.rates {S : Site} (h : Chk S) : RateIn S := ⟨h.rate.1.1, h.rate.1.2, h.rate.2.1, h.rate.2.2⟩
theorem Chk.step {S : Site} (h : Chk S) {i : Nat} (hi : i < S.steps.length) : ((0 ≤ (stD S.steps i).over ∧ (stD S.steps i).over ≤ 10000000) ∧ 0 ≤ (stD S.steps i).metres ∧ (stD S.steps i).metres ≤ 10000) ∧ (0 < i → (stD S.steps (i - 1)).over < (stD S.steps i).over ∧ (stD S.steps (i - 1)).metres ≤ (stD S.steps i).metres) := st_iff.1 (h.st i hi)
/-- At first all stands as it should. -/
theorem amtK_pos {C : List Cn} {wh : List Int} {r : Int} (hf : ∀ i, i < C.length → 1 ≤ (cnD C i).frames) : ∀ {k : Nat}, k ≤ C.length → 0 < amtK C wh r k → ∃ i, i < k ∧ intD wh i = r ∧ (cnD C i).base = 1 ∧ amtK C wh r (i + 1) = amtK C wh r k
  | 0, _, h => by simp [amtK] at h
  | k + 1, hk, h => by
    by_cases hc : intD wh k = r ∧ (cnD C k).base = 1
    · exact ⟨k, by omega, hc.1, hc.2, rfl⟩
    · have e : amtK C wh r (k + 1) = amtK C wh r k := by rw [amtK, if_neg hc, Int.add_zero]
      rw [e] at h ⊢
      obtain ⟨i, h1, h2, h3, h4⟩ := amtK_pos hf (k := k) (by omega) h
      exact ⟨i, by omega, h2, h3, h4⟩
theorem firstW_at {l : List Cn} {i : Nat} (hi : i < l.length) : intD (firstW l) i = (cnD l i).room := by
  unfold firstW intD cnD
  rw [List.getD_eq_getElem?_getD, List.getElem?_map, List.getD_eq_getElem?_getD, List.getElem?_eq_getElem hi]; rfl
theorem Chk.good {S : Site} (h : Chk S) : GoodW S (firstW S.cans) := by
  refine ⟨fun r hr => ?_, h.nr⟩
  obtain ⟨i, h1, h2, h3, h4⟩ := amtK_pos (fun i hi => (h.cans.frames i hi).1) (Nat.le_refl _) hr
  have ho := of_decide_eq_false (h.ov i h1)
  rw [firstW_at h1] at h2
  rw [h2] at ho
  have e : amtK S.cans (firstW S.cans) (r : Int) (i + 1) = amt S (firstW S.cans) r := h4
  rw [e] at ho
  simp only [Int.toNat_natCast] at ho
  refine ⟨?_, ?_⟩
  · cases ha : (rmD S.rooms r).allows
    · exact absurd ⟨h3, .inl ha⟩ ho
    · rfl
  · refine Int.not_lt.1 fun hlt => ho ⟨h3, .inr hlt⟩
/-! No nitrate: nothing is too near. -/
theorem amtK_none {C : List Cn} {wh : List Int} {r : Int} : ∀ {k : Nat}, (∀ i, i < k → (cnD C i).base ≠ 1) → amtK C wh r k = 0
  | 0, _ => rfl
  | k + 1, h => by rw [amtK, amtK_none fun i hi => h i (by omega), if_neg fun hc => h k (by omega) hc.2]; rfl
theorem near_none {S : Site} {wh : List Int} (h : ∀ r, amt S wh r = 0) : nears S wh = [] := by
  have hb : ∀ a b, nearB S wh a b = false := fun a b => by unfold nearB risk; rw [h a, h b]; rfl
  have hr : ∀ a k, nearRow S wh a k = [] := fun a k => by
    induction k with
    | zero => rfl
    | succ k ih => rw [nearRow, ih, hb]; rfl
  unfold nears
  generalize S.rooms.length = n
  have : ∀ a, nearK S wh a = [] := fun a => by
    induction a with
    | zero => rfl
    | succ a ih => rw [nearK, ih, hr]; rfl
  exact this n
/-! Temperatures in time. -/
theorem Chk.atIn {S : Site} (h : Chk S) {M : List Mv} (hK : ∀ m ∈ M, mvE S m = 0) {c : Nat} (hc : c < S.cans.length) (hr : Int) : 0 ≤ atV S M c hr ∧ atV S M c hr < S.rooms.length := by
  unfold atV
  have : ∀ k, k ≤ M.length → 0 ≤ atK S M c hr k ∧ atK S M c hr k < S.rooms.length := fun k hk => by
    induction k with
    | zero => exact h.cans.room c hc
    | succ k ih =>
      rw [atK]
      split
      · exact (mvE_iff.1 (hK _ (mvD_mem (by omega)))).2.2
      · exact ih (by omega)
  exact this _ (Nat.le_refl _)
theorem Chk.rmAt {S : Site} (h : Chk S) {M : List Mv} (hK : ∀ m ∈ M, mvE S m = 0) {c : Nat} (hc : c < S.cans.length) (hr : Int) : RIn (rmAt S M c hr) ∧ (rmAt S M c hr).tlo ≤ (rmAt S M c hr).thi ∧ (rmAt S M c hr).dlo ≤ (rmAt S M c hr).dhi := by
  have := h.atIn hK hc hr
  have := h.room (i := (atV S M c hr).toNat) (by omega)
  exact ⟨this.1, this.2.1, this.2.2.1⟩
theorem Chk.own {S : Site} (h : Chk S) {M : List Mv} (hK : ∀ m ∈ M, mvE S m = 0) {c : Nat} (hc : c < S.cans.length) : ∀ n, TIn (ownT S M c n)
  | 0 => by
    have := h.cans.room c hc
    have := (h.room (i := (cnD S.cans c).room.toNat) (by omega)).1
    exact ⟨this.1, this.2.1, this.2.2.1, this.2.2.2.1⟩
  | n + 1 => by rw [ownT]; exact warm_in h.rates (h.rmAt hK hc _).1 (h.own hK hc n)
end Go.Proofs.YtkidicfpfknfoaaDoor.D
