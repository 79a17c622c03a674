/-
  Plain: what holds of the moves that are kept.
-/
import Derived.Test.YtkidicfpfknfoaaDoorVPlMv
namespace Go.Proofs.YtkidicfpfknfoaaDoor.D
set_option linter.unusedVariables false
set_option linter.unusedSimpArgs false
theorem mvD_app {L E : List Mv} {i : Nat} (h : i < L.length) : mvD (L ++ E) i = mvD L i := by
  unfold mvD; rw [List.getD_eq_getElem?_getD, List.getD_eq_getElem?_getD, List.getElem?_append_left h]
theorem mvD_new (L : List Mv) (x : Mv) : mvD (L ++ [x]) L.length = x := by unfold mvD; simp
theorem mvD_take {L : List Mv} {n i : Nat} (h : i < n) : mvD (L.take n) i = mvD L i := by
  unfold mvD; rw [List.getD_eq_getElem?_getD, List.getD_eq_getElem?_getD, List.getElem?_take_of_lt h]
theorem atK_congr {S : Site} {M M' : List Mv} {c : Nat} {h : Int} : ∀ {k : Nat}, (∀ i, i < k → mvD M i = mvD M' i) → atK S M c h k = atK S M' c h k
  | 0, _ => rfl
  | k + 1, e => by rw [atK, atK, atK_congr fun i hi => e i (by omega), e k (by omega)]
theorem atK_app {S : Site} {M E : List Mv} {c : Nat} {h : Int} {k : Nat} (hk : k ≤ M.length) : atK S (M ++ E) c h k = atK S M c h k := atK_congr fun i hi => mvD_app (by omega)
theorem atV_snoc (S : Site) (M : List Mv) (m : Mv) (c : Nat) (h : Int) : atV S (M ++ [m]) c h = if m.can = (c : Int) ∧ m.hour ≤ h then m.to_ else atV S M c h := by
  unfold atV
  rw [List.length_append, List.length_singleton, atK, mvD_new, atK_app (Nat.le_refl _)]
/-- Moves behind an hour do not count. -/
theorem atV_late {S : Site} {c : Nat} {h : Int} : ∀ {E M : List Mv}, (∀ m ∈ E, h < m.hour) → atV S (M ++ E) c h = atV S M c h
  | [], M, _ => by rw [List.append_nil]
  | m :: E, M, hE => by
    have e : M ++ m :: E = (M ++ [m]) ++ E := by simp
    rw [e, atV_late fun x hx => hE x (List.mem_cons_of_mem _ hx), atV_snoc, if_neg (by have := hE m List.mem_cons_self; omega)]
def sortedM (M : List Mv) : Prop := M.Pairwise fun a b => a.hour ≤ b.hour
/-- What was kept: each move was not refused when it came. -/
structure Kept (S : Site) (M : List Mv) : Prop where
  ok : ∀ k, k < M.length → whyV S (M.take k) (mvD M k) = 0
  valid : ∀ m ∈ M, mvE S m = 0
theorem whyV_hour {S : Site} {M : List Mv} {m : Mv} (h : whyV S M m = 0) : M.length = 0 ∨ (mvD M (M.length - 1)).hour ≤ m.hour := by
  unfold whyV at h
  split at h
  · cases h
  · omega
theorem take_succ' {M : List Mv} {k : Nat} (hk : k < M.length) : M.take (k + 1) = M.take k ++ [mvD M k] := by
  rw [List.take_succ_eq_append_getElem hk]; unfold mvD; rw [List.getD_eq_getElem?_getD, List.getElem?_eq_getElem hk]; rfl
theorem mem_mvD {M : List Mv} {m : Mv} (h : m ∈ M) : ∃ i, i < M.length ∧ mvD M i = m := by
  obtain ⟨i, hi, rfl⟩ := List.getElem_of_mem h
  exact ⟨i, hi, by unfold mvD; rw [List.getD_eq_getElem?_getD, List.getElem?_eq_getElem hi]; rfl⟩
theorem mvD_mem {M : List Mv} {i : Nat} (h : i < M.length) : mvD M i ∈ M := by unfold mvD; rw [List.getD_eq_getElem?_getD, List.getElem?_eq_getElem h]; exact List.getElem_mem _
theorem Kept.next {S : Site} {M : List Mv} (hK : Kept S M) {k : Nat} (hk : k + 1 < M.length) : (mvD M k).hour ≤ (mvD M (k + 1)).hour := by
  have := whyV_hour (hK.ok (k + 1) hk)
  rw [List.length_take, Nat.min_eq_left (by omega)] at this
  rcases this with h | h
  · omega
  · rw [show k + 1 - 1 = k by omega, mvD_take (by omega)] at h; exact h
theorem Kept.mono {S : Site} {M : List Mv} (hK : Kept S M) {i j : Nat} (hij : i ≤ j) (hj : j < M.length) : (mvD M i).hour ≤ (mvD M j).hour := by
  induction j with
  | zero => obtain rfl : i = 0 := by omega
            exact Int.le_refl _
  | succ j ih =>
    rcases Nat.lt_or_ge j i with h | h
    · obtain rfl : i = j + 1 := by omega
      exact Int.le_refl _
    · have := ih h (by omega)
      have := hK.next hj
      omega
theorem Kept.take {S : Site} {M : List Mv} (hK : Kept S M) (n : Nat) : Kept S (M.take n) :=
  ⟨fun k hk => by
    rw [List.length_take] at hk
    rw [List.take_take, Nat.min_eq_left (by omega), mvD_take (by omega)]; exact hK.ok k (by omega),
   fun m hm => hK.valid m (List.mem_of_mem_take hm)⟩
theorem kept_nil (S : Site) : Kept S [] := ⟨fun k hk => absurd hk (Nat.not_lt_zero k), fun m hm => by cases hm⟩
theorem Kept.snoc {S : Site} {M : List Mv} {m : Mv} (hK : Kept S M) (h : whyV S M m = 0) (hv : mvE S m = 0) : Kept S (M ++ [m]) :=
  ⟨fun k hk => by
    rw [List.length_append, List.length_singleton] at hk
    rcases Nat.lt_or_ge k M.length with h1 | h1
    · rw [List.take_append_of_le_length (by omega), mvD_app h1]; exact hK.ok k h1
    · obtain rfl : k = M.length := by omega
      rw [List.take_left, mvD_new]; exact h,
   fun x hx => by
    rcases List.mem_append.1 hx with h1 | h1
    · exact hK.valid x h1
    · rw [List.mem_singleton.1 h1]; exact hv⟩
/-- What play does. -/
structure Played (S : Site) (L : List Mv) (k : Nat) : Prop where
  kept : Kept S (playK S L k).1
  len : (playK S L k).2.length = k
  le : (playK S L k).1.length ≤ k
theorem played {S : Site} {L : List Mv} (hv : ∀ i, i < L.length → mvE S (mvD L i) = 0) : ∀ {k : Nat}, k ≤ L.length → Played S L k
  | 0, _ => ⟨kept_nil S, rfl, Nat.le_refl _⟩
  | k + 1, hk => by
    have ih := played hv (k := k) (by omega)
    refine ⟨?_, ?_, ?_⟩
    · rw [playK]; simp only
      split
      · rename_i h; exact ih.kept.snoc h (hv k (by omega))
      · exact ih.kept
    · rw [playK]; simp [ih.len]
    · rw [playK]; simp only
      have := ih.le
      split
      · simp; omega
      · omega
theorem playK_congr {S : Site} {L L' : List Mv} : ∀ {k : Nat}, (∀ i, i < k → mvD L i = mvD L' i) → playK S L k = playK S L' k
  | 0, _ => rfl
  | k + 1, e => by rw [playK, playK, playK_congr fun i hi => e i (by omega), e k (by omega)]
theorem playK_pre {S : Site} {L : List Mv} {k : Nat} : ∀ {n : Nat}, k ≤ n → (playK S L k).1 <+: (playK S L n).1 ∧ (playK S L k).2 <+: (playK S L n).2
  | 0, h => by obtain rfl : k = 0 := by omega
               exact ⟨List.prefix_rfl, List.prefix_rfl⟩
  | n + 1, h => by
    rcases Nat.lt_or_ge n k with h1 | h1
    · obtain rfl : k = n + 1 := by omega
      exact ⟨List.prefix_rfl, List.prefix_rfl⟩
    · obtain ⟨a, b⟩ := playK_pre (S := S) (L := L) h1
      rw [playK]; simp only
      refine ⟨?_, b.trans (List.prefix_append _ _)⟩
      split
      · exact a.trans (List.prefix_append _ _)
      · exact a
/-- What was kept is kept again. -/
theorem play_again {S : Site} {M : List Mv} (hK : Kept S M) : ∀ {k : Nat}, k ≤ M.length → playK S M k = (M.take k, List.replicate k 0)
  | 0, _ => by simp [playK]
  | k + 1, hk => by
    rw [playK, play_again hK (k := k) (by omega)]
    simp only
    rw [hK.ok k (by omega), if_pos rfl, take_succ' (by omega), List.replicate_succ']
/-! The nitrate in the rooms. -/
def okAmt (S : Site) (wh : List Int) : Prop := ∀ r : Nat, 0 < amt S wh r → (rmD S.rooms r).allows = true ∧ amt S wh r ≤ (rmD S.rooms r).most
/-- Valid cans. -/
structure CansOk (S : Site) : Prop where
  base : ∀ i, i < S.cans.length → 1 ≤ (cnD S.cans i).base ∧ (cnD S.cans i).base ≤ 3
  frames : ∀ i, i < S.cans.length → 1 ≤ (cnD S.cans i).frames ∧ (cnD S.cans i).frames ≤ 200000
  room : ∀ i, i < S.cans.length → 0 ≤ (cnD S.cans i).room ∧ (cnD S.cans i).room < S.rooms.length
theorem amtK_nonneg {S : Site} (hC : CansOk S) {wh : List Int} {r : Int} : ∀ {k : Nat}, k ≤ S.cans.length → 0 ≤ amtK S.cans wh r k ∧ amtK S.cans wh r k ≤ 200000 * k
  | 0, _ => by simp [amtK]
  | k + 1, hk => by
    have ih := amtK_nonneg hC (wh := wh) (r := r) (k := k) (by omega)
    have hf := hC.frames k (by omega)
    rw [amtK]; split <;> omega
theorem amtK_congr {C : List Cn} {wh wh' : List Int} {r : Int} : ∀ {k : Nat}, (∀ i, i < k → (intD wh i = r ↔ intD wh' i = r) ∨ (cnD C i).base ≠ 1) → amtK C wh r k = amtK C wh' r k
  | 0, _ => rfl
  | k + 1, h => by
    rw [amtK, amtK, amtK_congr fun i hi => h i (by omega)]
    congr 1
    rcases h k (by omega) with h1 | h1
    · simp only [h1]
    · rw [if_neg (fun h => h1 h.2), if_neg (fun h => h1 h.2)]
theorem amtK_le {S : Site} (hC : CansOk S) {wh wh' : List Int} {r : Int} : ∀ {k : Nat}, k ≤ S.cans.length → (∀ i, i < k → intD wh i = r → intD wh' i = r) → amtK S.cans wh r k ≤ amtK S.cans wh' r k
  | 0, _, _ => Int.le_refl _
  | k + 1, hk, h => by
    rw [amtK, amtK]
    have ih := amtK_le hC (wh := wh) (wh' := wh') (r := r) (k := k) (by omega) (fun i hi => h i (by omega))
    have hf := hC.frames k (by omega)
    have := h k (by omega)
    split
    · rename_i h1
      rw [if_pos ⟨this h1.1, h1.2⟩]; omega
    · split <;> omega
theorem intD_set {l : List Int} {i j : Nat} {v : Int} (hi : i < l.length) : intD (l.set i v) j = if j = i then v else intD l j := by
  unfold intD
  rw [List.getD_eq_getElem?_getD, List.getD_eq_getElem?_getD, List.getElem?_set]
  by_cases h : i = j
  · subst h; rw [if_pos rfl, if_pos rfl]; simp [hi]
  · rw [if_neg h, if_neg (Ne.symm h)]
theorem whereV_len (S : Site) (M : List Mv) (h : Int) : (whereV S M h).length = S.cans.length := by simp [whereV]
theorem whereV_at {S : Site} {M : List Mv} {h : Int} {i : Nat} (hi : i < S.cans.length) : intD (whereV S M h) i = atV S M i h := by
  unfold intD whereV; rw [List.getD_eq_getElem?_getD, List.getElem?_map]; simp [hi]
theorem amt_congr {S : Site} {wh wh' : List Int} {r : Nat} (h : ∀ i, i < S.cans.length → intD wh i = intD wh' i) : amt S wh r = amt S wh' r := amtK_congr fun i hi => .inl (by rw [h i hi])
theorem nearB_congr {S : Site} {wh wh' : List Int} (h : ∀ r, amt S wh r = amt S wh' r) (a b : Nat) : nearB S wh a b = nearB S wh' a b := by unfold nearB risk; rw [h a, h b]
theorem nearRow_congr {S : Site} {wh wh' : List Int} (h : ∀ r, amt S wh r = amt S wh' r) : ∀ (a k : Nat), nearRow S wh a k = nearRow S wh' a k
  | _, 0 => rfl
  | a, k + 1 => by rw [nearRow, nearRow, nearRow_congr h a k, nearB_congr h]
theorem nearK_congr {S : Site} {wh wh' : List Int} (h : ∀ r, amt S wh r = amt S wh' r) : ∀ (a : Nat), nearK S wh a = nearK S wh' a
  | 0 => rfl
  | a + 1 => by rw [nearK, nearK, nearK_congr h a, nearRow_congr h]
theorem nears_congr {S : Site} {wh wh' : List Int} (h : ∀ i, i < S.cans.length → intD wh i = intD wh' i) : nears S wh = nears S wh' := nearK_congr (fun r => amt_congr h) _
/-- A place of all cans as it should be. -/
def GoodW (S : Site) (wh : List Int) : Prop := okAmt S wh ∧ nears S wh = []
theorem good_congr {S : Site} {wh wh' : List Int} (h : ∀ i, i < S.cans.length → intD wh i = intD wh' i) (hg : GoodW S wh) : GoodW S wh' :=
  ⟨fun r => by rw [← amt_congr h]; exact hg.1 r, by rw [← nears_congr h]; exact hg.2⟩
theorem mvE_iff {S : Site} {m : Mv} : mvE S m = 0 ↔ (0 ≤ m.hour ∧ m.hour ≤ 2400) ∧ (0 ≤ m.can ∧ m.can < S.cans.length) ∧ 0 ≤ m.to_ ∧ m.to_ < S.rooms.length := by
  unfold mvE
  constructor
  · intro h
    split at h
    · cases h
    · rename_i h1
      split at h
      · cases h
      · rename_i h2
        simp only [Bool.not_eq_false, Bool.and_eq_true] at h1 h2
        have a := of_decide_eq_true h1; have b := of_decide_eq_true h2.1; have c := of_decide_eq_true h2.2
        omega
  · rintro ⟨a, b, c⟩
    have h1 : inB m.hour 0 2400 = true := decide_eq_true a
    have h2 : inB m.can 0 (S.cans.length - 1) = true := decide_eq_true (by omega)
    have h3 : inB m.to_ 0 (S.rooms.length - 1) = true := decide_eq_true (by omega)
    rw [h1, h2, h3]; rfl
theorem good_move {S : Site} {M : List Mv} {m : Mv} (hC : CansOk S) (hv : mvE S m = 0) (hg : GoodW S (whereV S M m.hour)) (h : whyV S M m = 0) : GoodW S (moveW S M m) := by
  obtain ⟨-, ⟨c1, c2⟩, t1, t2⟩ := mvE_iff.1 hv
  have hlt : m.can.toNat < (whereV S M m.hour).length := by rw [whereV_len]; omega
  unfold whyV at h
  split at h
  · cases h
  split at h
  · cases h
  split at h
  · cases h
  rename_i hal
  split at h
  · cases h
  rename_i hful
  split at h
  · cases h
  rename_i hn
  refine ⟨fun r hr => ?_, Classical.not_not.1 hn⟩
  by_cases hb : (cnD S.cans m.can.toNat).base = 1
  · by_cases hrt : (r : Int) = m.to_
    · have er : m.to_.toNat = r := by omega
      rw [er] at hal hful
      refine ⟨?_, by omega⟩
      cases ha : (rmD S.rooms r).allows
      · exact absurd ⟨hb, ha⟩ hal
      · rfl
    · have hle : amt S (moveW S M m) r ≤ amt S (whereV S M m.hour) r := by
        refine amtK_le hC (Nat.le_refl _) fun i hi he => ?_
        unfold moveW at he
        rw [intD_set hlt] at he
        split at he
        · omega
        · exact he
      have := hg.1 r (by omega)
      exact ⟨this.1, by omega⟩
  · have he : amt S (moveW S M m) r = amt S (whereV S M m.hour) r := by
      refine amtK_congr fun i hi => ?_
      unfold moveW
      rw [intD_set hlt]
      by_cases h1 : i = m.can.toNat
      · exact .inr (by rw [h1]; exact hb)
      · rw [if_neg h1]; exact .inl Iff.rfl
    rw [he] at hr ⊢
    exact hg.1 r hr
theorem take_late {S : Site} {M : List Mv} (hK : Kept S M) {j : Nat} {h : Int} (hj : j ≤ M.length) (h1 : j < M.length → h < (mvD M j).hour) {c : Nat} : atV S M c h = atV S (M.take j) c h := by
  conv => lhs; rw [← List.take_append_drop j M]
  refine atV_late fun m hm => ?_
  obtain ⟨i, hi, rfl⟩ := List.getElem_of_mem hm
  rw [List.length_drop] at hi
  have e : (M.drop j)[i] = mvD M (j + i) := by
    rw [List.getElem_drop]; unfold mvD; rw [List.getD_eq_getElem?_getD, List.getElem?_eq_getElem (by omega)]; rfl
  rw [e]
  have := hK.mono (i := j) (j := j + i) (by omega) (by omega)
  have := h1 (by omega)
  omega
/-- How many moves count in an hour. -/
theorem upto {S : Site} {M : List Mv} (hK : Kept S M) (h : Int) : ∃ j, j ≤ M.length ∧ (∀ i, i < j → (mvD M i).hour ≤ h) ∧ (j < M.length → h < (mvD M j).hour) := by
  refine ⟨firstN (fun i => decide (h < (mvD M i).hour)) M.length, firstN_le _ _, fun i hi => ?_, fun hlt => ?_⟩
  · have := (firstN_spec (p := fun i => decide (h < (mvD M i).hour)) (n := M.length)).1 i hi
    have := of_decide_eq_false this; omega
  · exact of_decide_eq_true ((firstN_spec (p := fun i => decide (h < (mvD M i).hour)) (n := M.length)).2 hlt)
theorem atV_early {S : Site} {c : Nat} {h h' : Int} : ∀ {k : Nat} {M : List Mv}, (∀ i, i < k → (mvD M i).hour ≤ h) → h ≤ h' → atK S M c h k = atK S M c h' k
  | 0, _, _, _ => rfl
  | k + 1, M, hM, hh => by
    rw [atK, atK, atV_early (fun i hi => hM i (by omega)) hh]
    have := hM k (by omega)
    by_cases hc : (mvD M k).can = (c : Int)
    · rw [if_pos ⟨hc, this⟩, if_pos ⟨hc, by omega⟩]
    · rw [if_neg (fun h => hc h.1), if_neg (fun h => hc h.1)]
theorem where_move {S : Site} {M : List Mv} {m : Mv} (hv : mvE S m = 0) {i : Nat} (hi : i < S.cans.length) : intD (moveW S M m) i = intD (whereV S (M ++ [m]) m.hour) i := by
  obtain ⟨-, ⟨c1, c2⟩, t1, t2⟩ := mvE_iff.1 hv
  unfold moveW
  rw [intD_set (by rw [whereV_len]; omega), whereV_at hi, whereV_at hi, atV_snoc]
  by_cases h : i = m.can.toNat
  · rw [if_pos h, if_pos ⟨by omega, Int.le_refl _⟩]
  · rw [if_neg h, if_neg (fun hc => h (by omega))]
/-- At each hour all stands as it should. -/
theorem good_at {S : Site} (hC : CansOk S) (h0 : GoodW S (firstW S.cans)) : ∀ {n : Nat} {M : List Mv}, M.length = n → Kept S M → ∀ h : Int, GoodW S (whereV S M h)
  | 0, M, hn, hK, h => by
    obtain rfl := List.eq_nil_of_length_eq_zero hn
    refine good_congr (fun i hi => ?_) h0
    rw [whereV_at hi]
    unfold firstW intD atV atK cnD
    rw [List.getD_eq_getElem?_getD, List.getElem?_map, List.getD_eq_getElem?_getD, List.getElem?_eq_getElem hi]; rfl
  | n + 1, M, hn, hK, h => by
    obtain ⟨j, hj, h1, h2⟩ := upto hK h
    rcases Nat.lt_or_ge j M.length with hlt | hge
    · have hg := good_at hC h0 (n := j) (M := M.take j) (by simp; omega) (hK.take j) h
      refine good_congr (fun i hi => ?_) hg
      rw [whereV_at hi, whereV_at hi, take_late hK hj h2]
    · obtain rfl : j = M.length := by omega
      have hM : M = M.take n ++ [mvD M n] := by rw [← take_succ' (by omega), List.take_of_length_le (by omega)]
      have hg := good_at hC h0 (n := n) (M := M.take n) (by simp; omega) (hK.take n) (mvD M n).hour
      have hv := hK.valid _ (mvD_mem (M := M) (i := n) (by omega))
      have hm := good_move hC hv hg (hK.ok n (by omega))
      refine good_congr (fun i hi => ?_) hm
      rw [where_move hv hi, ← hM, whereV_at hi, whereV_at hi]
      unfold atV
      exact atV_early (fun i hi => hK.mono (by omega) (by omega)) (h1 n (by omega))
end Go.Proofs.YtkidicfpfknfoaaDoor.D
