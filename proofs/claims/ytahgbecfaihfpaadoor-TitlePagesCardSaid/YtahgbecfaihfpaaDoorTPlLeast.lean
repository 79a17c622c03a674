/-
  What the best breaks cost, plain.
-/
import Derived.Test.YtahgbecfaihfpaaDoorTJudge
namespace Go.Proofs.YtahgbecfaihfpaaDoor.D
def leR (c n c' n' : Int) : Prop := c < c' ∨ (c = c' ∧ n ≤ n')
def ownE (F : Font) (R : Rul) (P : List ByteArray) : List Int := (breaksL F R P).map Ln.until_
end Go.Proofs.YtahgbecfaihfpaaDoor.D
namespace Go.Proofs.YtahgbecfaihfpaaDoor
open Go.RowKit D
set_option linter.unusedVariables false
section
variable {F : Font} {R : Rul} {P : List ByteArray}
theorem less_le (r q : Rst) : lessS r q = false ↔ leR q.cost q.lines r.cost r.lines := by
  unfold lessS leR
  rw [Bool.or_eq_false_iff, decide_eq_false_iff_not, Bool.and_eq_false_iff, decide_eq_false_iff_not, decide_eq_false_iff_not]
  omega
theorem leR_trans {a b c d e f : Int} (h : leR a b c d) (g : leR c d e f) : leR a b e f := by unfold leR at *; omega
theorem leR_refl (a b : Int) : leR a b a b := .inr ⟨rfl, Int.le_refl _⟩
theorem leR_total (a b c d : Int) : leR a b c d ∨ leR c d a b := by unfold leR; omega
theorem inn_min (T : Nat → Rst) (i : Nat) : ∀ c e, i < e → e ≤ i + c → leR (innS F R P T i c).cost (innS F R P T i c).lines (candR F R P T i e).cost (candR F R P T i e).lines
  | 0, e, h1, h2 => by omega
  | c + 1, e, h1, h2 => by
    rw [innS]
    split
    · rename_i h
      rcases Nat.lt_or_ge e (i + c + 1) with h3 | h3
      · rcases h with h | h
        · omega
        · exact leR_trans ((less_le _ _).1 h) (inn_min T i c e h1 (by omega))
      · obtain rfl : e = i + c + 1 := by omega
        exact leR_refl _ _
    · rename_i h
      rcases Nat.lt_or_ge e (i + c + 1) with h3 | h3
      · exact inn_min T i c e h1 (by omega)
      · obtain rfl : e = i + c + 1 := by omega
        have h4 : ¬ lessS (innS F R P T i c) (candR F R P T i (i + c + 1)) = false := fun h' => h (.inr h')
        have h5 : ¬ leR (candR F R P T i (i + c + 1)).cost (candR F R P T i (i + c + 1)).lines (innS F R P T i c).cost (innS F R P T i c).lines := fun h' => h4 ((less_le _ _).2 h')
        exact (leR_total _ _ _ _).resolve_right h5
/-- The widths grow. -/
theorem sumW_mono (hk : FontOk F) (h : TextOk F R P) (a : Nat) : ∀ d m, a + (m + d) ≤ P.length → sumW F P a m ≤ sumW F P a (m + d)
  | 0, m, _ => Int.le_refl _
  | d + 1, m, hm => by
    have i1 := sumW_mono hk h a d m (by omega)
    have i2 := (h.wide (a + (m + d)) (by omega)).1
    have i3 := hk.space
    rw [← Nat.add_assoc, sumW]; omega
theorem fits_kmax (hk : FontOk F) (h : TextOk F R P) {a z : Nat} (haz : a < z) (hz : z ≤ P.length) (hf : wideL F P a z ≤ R.measure) : z ≤ a + kmax F R P a := by
  rcases Nat.lt_or_ge (a + kmax F R P a) z with h1 | h1
  · have h2 := (firstN_spec (p := fun c => decide (R.measure < wideL F P a (a + c + 1))) (n := P.length - a)).2 (by show kmax F R P a < _; omega)
    have h3 : R.measure < wideL F P a (a + kmax F R P a + 1) := of_decide_eq_true h2
    have h4 := sumW_mono hk h a (z - a - (kmax F R P a + 1)) (kmax F R P a + 1) (by omega)
    unfold wideL at h3 hf
    rw [show a + kmax F R P a + 1 - a = kmax F R P a + 1 by omega] at h3
    rw [show kmax F R P a + 1 + (z - a - (kmax F R P a + 1)) = z - a by omega] at h4
    omega
  · exact h1
/-- No line that fits costs less. -/
theorem rest_min (hk : FontOk F) (h : TextOk F R P) {a z : Nat} (haz : a < z) (hz : z ≤ P.length) (hf : wideL F P a z ≤ R.measure) :
    leR (restS F R P a).cost (restS F R P a).lines (costL F R P a z + (restS F R P z).cost) (1 + (restS F R P z).lines) := by
  rw [restS_eq F R P (i := a) (by omega)]
  exact inn_min (restS F R P) a (kmax F R P a) z haz (fits_kmax hk h haz hz hf)
/-- What Judge says of breaks that it accepts. -/
theorem judge_ok {E : List Int} (h2 : (judgeS F R P E).2 = 0) : (∀ i, i < E.length → badEnd P.length E i = false) ∧ prevE E E.length = P.length ∧ (∀ i, i < E.length → tooWide F R P E i = false) ∧ (judgeS F R P E).1 = sumE F R P E E.length := by
  unfold judgeS at h2 ⊢
  split at h2
  · cases h2
  · rename_i h3
    split at h2
    · cases h2
    · rename_i h4
      split at h2
      · cases h2
      · rename_i h5
        rw [if_neg h3, if_neg h4, if_neg h5]
        have h6 := firstN_le (badEnd P.length E) E.length
        have h7 := firstN_le (tooWide F R P E) E.length
        refine ⟨fun i hi => (firstN_spec (p := badEnd P.length E) (n := E.length)).1 i (by omega), by omega, fun i hi => (firstN_spec (p := tooWide F R P E) (n := E.length)).1 i (by omega), rfl⟩
theorem end_ok {E : List Int} {i : Nat} (h : badEnd P.length E i = false) : prevE E i < intD E i ∧ intD E i ≤ P.length := by
  unfold badEnd inB at h
  simp only [Bool.not_eq_false', decide_eq_true_eq] at h
  omega
theorem leR_add {a b c d : Int} (x y : Int) (h : leR a b c d) : leR (a + x) (b + y) (c + x) (d + y) := by unfold leR at *; omega
/-- Breaks that are accepted cost no less than the best ones. -/
theorem judge_min (hk : FontOk F) (h : TextOk F R P) {E : List Int} (h2 : (judgeS F R P E).2 = 0) : ∀ d k, k + d = E.length → leR (restS F R P (prevE E k).toNat).cost (restS F R P (prevE E k).toNat).lines (sumE F R P E E.length - sumE F R P E k) d := by
  obtain ⟨hb, hl, hw, -⟩ := judge_ok h2
  intro d
  induction d with
  | zero =>
    intro k hk'
    obtain rfl : k = E.length := by omega
    rw [hl, Int.toNat_natCast, restS_end]
    right; simp
  | succ d ih =>
    intro k hk'
    have h3 := ih (k + 1) (by omega)
    have h4 := end_ok (hb k (by omega))
    have h5 := ends_rng (n := P.length) (E := E) (k := k) (fun i hi => hb i (by omega)) k (Nat.le_refl _)
    have h6 := of_decide_eq_false (hw k (by omega))
    have h7 := rest_min hk h (a := (prevE E k).toNat) (z := (intD E k).toNat) (by omega) (by omega) (by omega)
    rw [show prevE E (k + 1) = intD E k from rfl] at h3
    rw [show sumE F R P E (k + 1) = sumE F R P E k + costL F R P (prevE E k).toNat (intD E k).toNat from rfl] at h3
    refine leR_trans h7 ?_
    have h8 := leR_add (costL F R P (prevE E k).toNat (intD E k).toNat) 1 h3
    unfold leR at h8 ⊢
    push_cast
    omega
/-- The ends of the best breaks. -/
theorem own_len : (ownE F R P).length = nLines F R P := by unfold ownE; rw [List.length_map, breaks_len]
theorem own_at {k : Nat} (hk : k < nLines F R P) : intD (ownE F R P) k = (brk F R P (k + 1) : Int) := by
  have h1 := breaks_at F R P hk
  unfold ownE intD
  rw [List.getD_eq_getElem?_getD, List.getElem?_map]
  unfold lnD at h1
  rw [List.getD_eq_getElem?_getD, List.getElem?_eq_getElem (by rw [breaks_len]; exact hk)] at h1
  rw [List.getElem?_eq_getElem (by rw [breaks_len]; exact hk)]
  have h2 : (breaksL F R P)[k]'(by rw [breaks_len]; exact hk) = linS F R P k := h1
  show ((breaksL F R P)[k]'(by rw [breaks_len]; exact hk)).until_ = _
  rw [h2]; rfl
theorem own_prev {k : Nat} (hk : k ≤ nLines F R P) : prevE (ownE F R P) k = (brk F R P k : Int) := by
  cases k with
  | zero => rfl
  | succ k => exact own_at (by omega)
theorem rest_brk (h : TextOk F R P) {k : Nat} (hk : k < nLines F R P) : (restS F R P (brk F R P k)).cost = costL F R P (brk F R P k) (brk F R P (k + 1)) + (restS F R P (brk F R P (k + 1))).cost ∧ (restS F R P (brk F R P k)).lines = 1 + (restS F R P (brk F R P (k + 1))).lines := by
  have h1 := (lines_ok h).2.2.1 k hk
  have h2 := endN_ok h h1
  rw [brk_succ h1]
  have h3 := h2.2.2.2.2
  constructor
  · conv => lhs; rw [h3]
    rfl
  · conv => lhs; rw [h3]
    rfl
/-- The cost of the first lines. -/
theorem own_sum (h : TextOk F R P) : ∀ k, k ≤ nLines F R P → sumE F R P (ownE F R P) k + (restS F R P (brk F R P k)).cost = (restS F R P 0).cost ∧ (k : Int) + (restS F R P (brk F R P k)).lines = (restS F R P 0).lines
  | 0, _ => ⟨by simp [sumE, brk], by simp [brk]⟩
  | k + 1, hk => by
    have h1 := own_sum h k (by omega)
    have h2 := rest_brk h (k := k) (by omega)
    rw [sumE, own_prev (by omega), own_at (by omega), Int.toNat_natCast, Int.toNat_natCast]
    omega
theorem own_judge (hk : FontOk F) (h : TextOk F R P) : judgeS F R P (ownE F R P) = ((restS F R P 0).cost, 0) ∧ (restS F R P 0).lines = (nLines F R P : Int) := by
  have hl := lines_ok h
  have h1 := own_sum h (nLines F R P) (Nat.le_refl _)
  rw [hl.2.1, restS_end] at h1
  have e1 : firstN (badEnd P.length (ownE F R P)) (ownE F R P).length = (ownE F R P).length := by
    rw [own_len]
    refine firstN_none fun i hi => ?_
    unfold badEnd inB
    rw [own_at hi, own_prev (by omega)]
    have := brk_lt h hi
    simp; omega
  have e2 : prevE (ownE F R P) (ownE F R P).length = P.length := by rw [own_len, own_prev (Nat.le_refl _), hl.2.1]
  have e3 : firstN (tooWide F R P (ownE F R P)) (ownE F R P).length = (ownE F R P).length := by
    rw [own_len]
    refine firstN_none fun i hi => ?_
    unfold tooWide
    rw [own_at hi, own_prev (by omega), Int.toNat_natCast, Int.toNat_natCast]
    have := brk_fits h hi
    exact decide_eq_false (by omega)
  refine ⟨?_, by have := h1.2; simp at this; omega⟩
  unfold judgeS
  rw [if_neg (by rw [e1]; exact Nat.lt_irrefl _), if_neg (by rw [e2]; exact not_not_intro rfl), if_neg (by rw [e3]; exact Nat.lt_irrefl _), own_len]
  have := h1.1
  simp at this
  rw [this]
theorem own_step (h : TextOk F R P) {k : Nat} (hk : k < nLines F R P) : intD (ownE F R P) k = (linS F R P k).until_ ∧ sumE F R P (ownE F R P) (k + 1) = sumE F R P (ownE F R P) k + (linS F R P k).cost := by
  refine ⟨own_at hk, ?_⟩
  rw [sumE, own_prev (by omega), own_at hk, Int.toNat_natCast, Int.toNat_natCast]; rfl
theorem own_rng (hf : FontOk F) (hr : RulOk F R) (h : TextOk F R P) {k : Nat} (hk : k ≤ nLines F R P) : -360400000 ≤ sumE F R P (ownE F R P) k ∧ sumE F R P (ownE F R P) k ≤ 360400000 := by
  have h1 := (own_sum h k hk).1
  have h2 := rest_rng hf hr h (i := 0) (Nat.zero_le _)
  have h3 := rest_rng hf hr h (i := brk F R P k) (brk_le h k)
  omega
end
end Go.Proofs.YtahgbecfaihfpaaDoor
