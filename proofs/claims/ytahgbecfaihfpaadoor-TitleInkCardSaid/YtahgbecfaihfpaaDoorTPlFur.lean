/-
  The text behind some of its words: words, breaks and rest (plain).
-/
import Derived.Test.YtahgbecfaihfpaaDoorTPlSpel
namespace Go.Proofs.YtahgbecfaihfpaaDoor.D
/-- Words with single spaces. -/
def joinW : List (List UInt8) → List UInt8
  | [] => []
  | [p] => p
  | p :: q :: r => p ++ 32 :: joinW (q :: r)
/-- A text of words. -/
def joinS (P : List ByteArray) : ByteArray := baL (joinW (P.map fun p => p.data.toList))
end Go.Proofs.YtahgbecfaihfpaaDoor.D
namespace Go.Proofs.YtahgbecfaihfpaaDoor
open Go.RowKit D
set_option linter.unusedVariables false
theorem cut_join : ∀ L : List (List UInt8), L ≠ [] → (∀ p ∈ L, ∀ c ∈ p, c ≠ 32) → cutW (joinW L) = L
  | [], h, _ => absurd rfl h
  | [p], _, h => by rw [joinW]; exact cutW_one (h p (List.mem_cons_self ..))
  | p :: q :: r, _, h => by
    rw [joinW, cutW_sp (h p (List.mem_cons_self ..)), cut_join (q :: r) (by simp) (fun x hx => h x (List.mem_cons_of_mem _ hx))]
theorem join_len : ∀ L : List (List UInt8), L ≠ [] → (joinW L).length + 1 = (L.map List.length).sum + L.length
  | [], h => absurd rfl h
  | [p], _ => by simp [joinW]
  | p :: q :: r, _ => by
    have ih := join_len (q :: r) (by simp)
    rw [joinW, List.length_append, List.length_cons, List.map_cons, List.sum_cons, List.length_cons]
    omega
theorem cut_total : ∀ l : List UInt8, l.length + 1 = ((cutW l).map List.length).sum + (cutW l).length
  | [] => rfl
  | c :: l => by
    have ih := cut_total l
    unfold cutW
    by_cases h : c = 32
    · rw [if_pos h]; simp only [List.map_cons, List.sum_cons, List.length_cons, List.length_nil]; omega
    · rw [if_neg h]
      cases hc : cutW l with
      | nil => exact absurd hc (cutW_ne l)
      | cons p ps =>
        rw [hc] at ih
        simp only [List.map_cons, List.sum_cons, List.length_cons] at ih ⊢; omega
theorem okS_no32 {s : ByteArray} (h : oddS s = false) : ∀ c ∈ s.data.toList, c ≠ 32 := fun c hc he => by
  unfold oddS at h
  rw [Bool.or_eq_false_iff] at h
  have h1 : okS s = true := by simpa using h.1
  unfold okS at h1
  rw [List.all_eq_true] at h1
  have h2 := h1 c hc
  rw [he] at h2
  exact absurd h2 (by decide)
theorem drop_at {P : List ByteArray} {f i : Nat} : strD (P.drop f) i = strD P (f + i) := by
  unfold strD; rw [List.getD_eq_getElem?_getD, List.getD_eq_getElem?_getD, List.getElem?_drop]
section
variable {F : Font} {R : Rul} {P : List ByteArray} {f : Nat}
theorem drop_ok (h : TextOk F R P) (hf : f < P.length) : TextOk F R (P.drop f) := by
  have hl : (P.drop f).length = P.length - f := List.length_drop ..
  have h1 := h.n40
  refine ⟨by omega, by omega, fun i hi => ?_, fun i hi => ?_, fun i hi => ?_, fun i hi => ?_⟩
  · rw [drop_at]; exact h.size _ (by omega)
  · rw [drop_at]; exact h.odd _ (by omega)
  · rw [drop_at]; exact h.set _ (by omega)
  · rw [drop_at]; exact h.wide _ (by omega)
theorem mem_odd (h : TextOk F R P) : ∀ p ∈ P, oddS p = false := fun p hp => by
  obtain ⟨i, hi, rfl⟩ := List.getElem_of_mem hp
  have := h.odd i hi
  unfold strD at this
  rwa [List.getD_eq_getElem?_getD, List.getElem?_eq_getElem hi] at this
theorem parts_join (h : TextOk F R P) : partsS (joinS P) = P := by
  unfold partsS joinS
  rw [data_baL, cut_join]
  · rw [List.map_map]
    have : (baL ∘ fun p : ByteArray => p.data.toList) = id := by funext p; exact baL_data p
    rw [this, List.map_id]
  · intro h0
    have h1 := congrArg List.length h0
    have h2 := h.n1
    simp at h1; subst h1; simp at h2
  · intro p hp c hc
    obtain ⟨q, hq, rfl⟩ := List.mem_map.1 hp
    exact okS_no32 (mem_odd h q hq) c hc
theorem wordsE_ok {t : ByteArray} (hs : t.size ≤ 1000) (h : TextOk F R (partsS t)) : wordsE F R t = 0 := by
  have h40 := h.n40
  have hw : ∀ i, i < (partsS t).length → badW F R (partsS t) i = false := fun i hi => decide_eq_false (by
    have h1 := h.set i hi; have h2 := h.wide i hi
    unfold wordErr
    rw [if_neg (by cases hq : setS F (strD (partsS t) i).data.toList <;> simp_all), if_neg (by omega)]
    exact not_not_intro rfl)
  unfold wordsE
  rw [if_neg (by omega), any_no (fun i hi => h.odd i hi), if_neg (by simp), if_neg (by omega), any_no (fun i hi => decide_eq_false (by have := h.size i hi; omega)), if_neg (by simp), firstN_none hw, if_neg (Nat.lt_irrefl _)]
theorem open_size {t : ByteArray} (h : openE F R t = 0) : t.size ≤ 1000 := by
  have h1 : wordsE F R t = 0 := by unfold openE at h; split at h <;> omega
  unfold wordsE at h1
  split at h1
  · omega
  · omega
theorem open_drop {t : ByteArray} (h : openE F R t = 0) (hf : f < (partsS t).length) : openE F R (joinS ((partsS t).drop f)) = 0 := by
  obtain ⟨hk, hr, ht⟩ := open_ok h
  have h1 : checkRul F R = 0 := by unfold openE at h; split at h <;> omega
  have hd := drop_ok ht hf
  have hp := parts_join hd
  unfold openE
  rw [if_neg (not_not_intro h1)]
  refine wordsE_ok ?_ (by rw [hp]; exact hd)
  have hz := open_size h
  have a1 := cut_total t.data.toList
  have a2 : t.data.toList.length = t.size := Array.length_toList
  have hne : ((partsS t).drop f).map (fun p => p.data.toList) ≠ [] := by
    intro h0
    have h2 := congrArg List.length h0
    rw [List.length_map, List.length_drop, List.length_nil] at h2; omega
  have a3 := join_len _ hne
  have a4 : (joinS ((partsS t).drop f)).size = (joinW (((partsS t).drop f).map fun p => p.data.toList)).length := by
    unfold joinS baL; exact List.size_toArray
  rw [a4]
  have a5 : ((partsS t).drop f).map (fun p => p.data.toList) = (cutW t.data.toList).drop f := by
    unfold partsS
    rw [← List.map_drop, List.map_map]
    have : ((fun p : ByteArray => p.data.toList) ∘ baL) = id := by funext p; exact data_baL p
    rw [this, List.map_id]
  rw [a5] at a3 ⊢
  have a6 : ∀ (L : List Nat) (n : Nat), (L.drop n).sum ≤ L.sum := by
    intro L
    induction L with
    | nil => intro n; simp
    | cons x L ih =>
      intro n
      cases n with
      | zero => simp
      | succ n => simp only [List.drop_succ_cons, List.sum_cons]; have := ih n; omega
  have a7 := a6 ((cutW t.data.toList).map List.length) f
  rw [← List.map_drop] at a7
  have a8 : ((cutW t.data.toList).drop f).length ≤ (cutW t.data.toList).length := by rw [List.length_drop]; omega
  omega
theorem sumW_drop (a : Nat) : ∀ n, sumW F (P.drop f) a n = sumW F P (f + a) n
  | 0 => rfl
  | n + 1 => by rw [sumW, sumW, sumW_drop a n, drop_at, Nat.add_assoc]
theorem wide_drop (a z : Nat) : wideL F (P.drop f) a z = wideL F P (f + a) (f + z) := by
  unfold wideL; rw [sumW_drop, show f + z - (f + a) = z - a by omega]
theorem cost_drop (hf : f ≤ P.length) {a z : Nat} (haz : a < z) : costL F R (P.drop f) a z = costL F R P (f + a) (f + z) := by
  have hl : (P.drop f).length = P.length - f := List.length_drop ..
  unfold costL
  rw [wide_drop, drop_at, show f + (z - 1) = f + z - 1 by omega]
  by_cases h : z = (P.drop f).length
  · rw [if_pos h, if_pos (by omega)]
  · rw [if_neg h, if_neg (show ¬ f + z = P.length by omega)]
theorem firstN_congr {p q : Nat → Bool} : ∀ {n : Nat}, (∀ i, i < n → p i = q i) → firstN p n = firstN q n
  | 0, _ => rfl
  | n + 1, h => by rw [firstN, firstN, firstN_congr (n := n) (fun i hi => h i (by omega)), h n (by omega)]
theorem kmax_drop (i : Nat) : kmax F R (P.drop f) i = kmax F R P (f + i) := by
  unfold kmax
  rw [List.length_drop, show P.length - f - i = P.length - (f + i) by omega]
  exact firstN_congr fun c _ => by rw [wide_drop, show f + (i + c + 1) = f + i + c + 1 by omega]
/-- The same but for where it ends. -/
def OffR (f : Nat) (r q : Rst) : Prop := r.cost = q.cost ∧ r.lines = q.lines ∧ r.end_ + (f : Int) = q.end_
theorem inn_drop (hf : f ≤ P.length) {T T' : Nat → Rst} {i : Nat} : ∀ c, (∀ e, i < e → e ≤ i + c → (T e).cost = (T' (f + e)).cost ∧ (T e).lines = (T' (f + e)).lines) → 0 < c → OffR f (innS F R (P.drop f) T i c) (innS F R P T' (f + i) c)
  | 0, _, h => absurd h (Nat.lt_irrefl _)
  | c + 1, hT, _ => by
    obtain ⟨t1, t2⟩ := hT (i + c + 1) (by omega) (by omega)
    have hc : OffR f (candR F R (P.drop f) T i (i + c + 1)) (candR F R P T' (f + i) (f + i + c + 1)) := by
      unfold candR OffR
      dsimp only
      rw [cost_drop hf (by omega), t1, t2, show f + (i + c + 1) = f + i + c + 1 by omega]
      exact ⟨rfl, rfl, by omega⟩
    rw [innS, innS]
    by_cases h0 : c = 0
    · rw [if_pos (.inl h0), if_pos (.inl h0)]; exact hc
    · have ih := inn_drop hf (T := T) (T' := T') (i := i) c (fun e h1 h2 => hT e h1 (by omega)) (by omega)
      have hl : lessS (innS F R (P.drop f) T i c) (candR F R (P.drop f) T i (i + c + 1)) = lessS (innS F R P T' (f + i) c) (candR F R P T' (f + i) (f + i + c + 1)) := by
        unfold lessS; rw [ih.1, ih.2.1, hc.1, hc.2.1]
      rw [hl]
      by_cases h1 : lessS (innS F R P T' (f + i) c) (candR F R P T' (f + i) (f + i + c + 1)) = false
      · rw [if_pos (.inr h1), if_pos (.inr h1)]; exact hc
      · rw [if_neg (fun h => h.elim h0 h1), if_neg (fun h => h.elim h0 h1)]; exact ih
theorem rest_drop (h : TextOk F R P) (hf : f < P.length) : ∀ d i, i + d = P.length - f → ((restS F R (P.drop f) i).cost = (restS F R P (f + i)).cost ∧ (restS F R (P.drop f) i).lines = (restS F R P (f + i)).lines) ∧ (0 < d → OffR f (restS F R (P.drop f) i) (restS F R P (f + i)))
  | 0, i, hi => by
    have hl : (P.drop f).length = P.length - f := List.length_drop ..
    have e1 : restS F R (P.drop f) i = ⟨0, 0, 0⟩ := by rw [show i = (P.drop f).length by omega]; exact restS_end ..
    have e2 : restS F R P (f + i) = ⟨0, 0, 0⟩ := by rw [show f + i = P.length by omega]; exact restS_end ..
    rw [e1, e2]
    exact ⟨⟨rfl, rfl⟩, fun h => absurd h (Nat.lt_irrefl _)⟩
  | d + 1, i, hi => by
    have hl : (P.drop f).length = P.length - f := List.length_drop ..
    have hkl := kmax_le F R (P.drop f) i
    have hkp := kmax_pos (drop_ok h hf) (i := i) (by omega)
    have key : OffR f (restS F R (P.drop f) i) (restS F R P (f + i)) := by
      rw [restS_eq F R (P.drop f) (i := i) (by omega), restS_eq F R P (i := f + i) (by omega), ← kmax_drop]
      exact inn_drop (by omega) _ (fun e h1 h2 => (rest_drop h hf (P.length - f - e) e (by omega)).1) hkp
    exact ⟨⟨key.1, key.2.1⟩, fun _ => key⟩
termination_by d => d
theorem rest_cost_drop (h : TextOk F R P) (hf : f < P.length) {i : Nat} (hi : i ≤ P.length - f) : (restS F R (P.drop f) i).cost = (restS F R P (f + i)).cost := (rest_drop h hf (P.length - f - i) i (by omega)).1.1
/-- The numbers of Rest behind some words are the rest of the list. -/
theorem restL_drop (h : TextOk F R P) (hf : f < P.length) : restL F R (P.drop f) = (restL F R P).drop f := by
  have hl : (P.drop f).length = P.length - f := List.length_drop ..
  apply List.ext_getElem
  · rw [rest_len, hl, List.length_drop, rest_len]; omega
  · intro i h1 h2
    rw [rest_len] at h1
    simp only [restL, List.getElem_drop, List.getElem_map, List.getElem_range]
    exact rest_cost_drop h hf (by omega)
theorem end_drop (h : TextOk F R P) (hf : f < P.length) {i : Nat} (hi : i < P.length - f) : endN F R P (f + i) = f + endN F R (P.drop f) i := by
  have h1 := ((rest_drop h hf (P.length - f - i) i (by omega)).2 (by omega)).2.2
  have hl : (P.drop f).length = P.length - f := List.length_drop ..
  have h2 := endN_ok (drop_ok h hf) (i := i) (by omega)
  have h3 := endN_ok h (i := f + i) (by omega)
  omega
theorem brk_drop (h : TextOk F R P) {k : Nat} (hk : k < nLines F R P) : ∀ j, brk F R P (k + j) = brk F R P k + brk F R (P.drop (brk F R P k)) j
  | 0 => rfl
  | j + 1 => by
    have hf := (lines_ok h).2.2.1 k hk
    have ih := brk_drop h hk j
    have hl : (P.drop (brk F R P k)).length = P.length - brk F R P k := List.length_drop ..
    rw [← Nat.add_assoc, brk, brk, ih, hl]
    by_cases h1 : brk F R (P.drop (brk F R P k)) j < P.length - brk F R P k
    · rw [if_pos h1, if_pos (by omega), end_drop h hf h1]
    · rw [if_neg h1, if_neg (by omega)]
theorem nLines_drop (h : TextOk F R P) {k : Nat} (hk : k < nLines F R P) : nLines F R (P.drop (brk F R P k)) = nLines F R P - k := by
  have hf := (lines_ok h).2.2.1 k hk
  have hl : (P.drop (brk F R P k)).length = P.length - brk F R P k := List.length_drop ..
  have h1 := lines_ok h
  have h2 := lines_ok (drop_ok h hf)
  obtain ⟨N, hN⟩ : ∃ N, N = nLines F R (P.drop (brk F R P k)) := ⟨_, rfl⟩
  rw [← hN] at h2 ⊢
  have a1 := brk_drop h hk (nLines F R P - k)
  rw [show k + (nLines F R P - k) = nLines F R P by omega, h1.2.1] at a1
  have a2 := brk_drop h hk N
  rw [h2.2.1] at a2
  rcases Nat.lt_trichotomy N (nLines F R P - k) with h3 | h3 | h3
  · have := h1.2.2.1 (k + N) (by omega); omega
  · exact h3
  · have := h2.2.2.1 _ h3; omega
/-- A line of the text behind, in the whole text. -/
theorem lin_drop (h : TextOk F R P) {k : Nat} (hk : k < nLines F R P) {j : Nat} (hj : j < nLines F R P - k) :
    (linS F R (P.drop (brk F R P k)) j).from_ + (brk F R P k : Int) = (linS F R P (k + j)).from_ ∧ (linS F R (P.drop (brk F R P k)) j).until_ + (brk F R P k : Int) = (linS F R P (k + j)).until_ ∧ (linS F R (P.drop (brk F R P k)) j).wide = (linS F R P (k + j)).wide ∧ (linS F R (P.drop (brk F R P k)) j).cost = (linS F R P (k + j)).cost := by
  have hf := (lines_ok h).2.2.1 k hk
  have a1 := brk_drop h hk j
  have a2 := brk_drop h hk (j + 1)
  have a3 := brk_lt (drop_ok h hf) (k := j) (by rw [nLines_drop h hk]; exact hj)
  unfold linS lineS
  dsimp only
  rw [wide_drop, cost_drop (by omega) a3.1, Nat.add_assoc, a1, a2]
  exact ⟨by omega, by omega, rfl, rfl⟩
end
end Go.Proofs.YtahgbecfaihfpaaDoor
