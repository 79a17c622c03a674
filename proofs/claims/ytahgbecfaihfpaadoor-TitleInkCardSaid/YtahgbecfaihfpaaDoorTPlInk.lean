/-
  Which pixels are dark, by their places; how many (plain).
-/
import Derived.Test.YtahgbecfaihfpaaDoorTPages
import Derived.Test.YtahgbecfaihfpaaDoorTPlSpel
namespace Go.Proofs.YtahgbecfaihfpaaDoor.D
/-- How many numbers below another one are in a list. -/
def cntN (L : List Nat) : Nat → Nat
  | 0 => 0
  | n + 1 => cntN L n + (if n ∈ L then 1 else 0)
/-- How many of the first bits are set. -/
def cntB (r : Nat) : Nat → Nat
  | 0 => 0
  | n + 1 => cntB r n + (if r.testBit n = true then 1 else 0)
def inkR (g : Gl) : Nat → Nat
  | 0 => 0
  | y + 1 => inkR g y + cntB (intD g.rows y).toNat 12
def inkG (g : Gl) : Nat := inkR g g.rows.length
def inkL (F : Font) (l : List Nat) : Nat → Nat
  | 0 => 0
  | m + 1 => inkL F l m + inkG (glN F l m)
def inkP (F : Font) (P : List ByteArray) : Nat → Nat
  | 0 => 0
  | k + 1 => inkP F P k + inkL F (gL F (strD P k)) (gL F (strD P k)).length
/-- The dark pixels of the first pages. -/
def darkP (F : Font) (R : Rul) (P : List ByteArray) : Nat → Nat
  | 0 => 0
  | p + 1 => darkP F R P p + cntN (ptsK F R P p P.length) (pixN F R)
/-- A pixel of a glyph of a word. -/
structure PixIn (F : Font) (R : Rul) (P : List ByteArray) (i m y x : Nat) : Prop where
  hi : i < P.length
  hm : m < (gL F (strD P i)).length
  hy : y < (glN F (gL F (strD P i)) m).rows.length
  hx : x < (glN F (gL F (strD P i)) m).wide.toNat
end Go.Proofs.YtahgbecfaihfpaaDoor.D
namespace Go.Proofs.YtahgbecfaihfpaaDoor
open Go.RowKit D
set_option linter.unusedVariables false
theorem cnt_cons_le (x : Nat) (L : List Nat) : ∀ N, cntN (x :: L) N ≤ cntN L N + (if x < N then 1 else 0)
  | 0 => Nat.le_refl _
  | N + 1 => by
    have ih := cnt_cons_le x L N
    rw [cntN, cntN]
    by_cases hx : N = x
    · subst hx
      rw [if_neg (Nat.lt_irrefl _)] at ih
      rw [if_pos (List.mem_cons_self ..), if_pos (Nat.lt_succ_self _)]
      omega
    · have e : (N ∈ x :: L) = (N ∈ L) := by simp [hx]
      simp only [e]
      by_cases h1 : x < N
      · rw [if_pos h1] at ih; rw [if_pos (show x < N + 1 by omega)]; omega
      · rw [if_neg h1] at ih; rw [if_neg (show ¬ x < N + 1 by omega)]; omega
theorem cnt_cons_eq {x : Nat} {L : List Nat} (hx : x ∉ L) : ∀ N, cntN (x :: L) N = cntN L N + (if x < N then 1 else 0)
  | 0 => rfl
  | N + 1 => by
    have ih := cnt_cons_eq hx N
    rw [cntN, cntN]
    by_cases hN : N = x
    · subst hN
      rw [if_neg (Nat.lt_irrefl _)] at ih
      rw [if_pos (List.mem_cons_self ..), if_pos (Nat.lt_succ_self _), if_neg hx]
      omega
    · have e : (N ∈ x :: L) = (N ∈ L) := by simp [hN]
      simp only [e]
      by_cases h1 : x < N
      · rw [if_pos h1] at ih; rw [if_pos (show x < N + 1 by omega)]; omega
      · rw [if_neg h1] at ih; rw [if_neg (show ¬ x < N + 1 by omega)]; omega
theorem cnt_nil : ∀ N, cntN [] N = 0
  | 0 => rfl
  | N + 1 => by rw [cntN, cnt_nil N]; simp
theorem cnt_le (N : Nat) : ∀ L : List Nat, cntN L N ≤ L.length
  | [] => by rw [cnt_nil]; exact Nat.le_refl _
  | x :: L => by
    have h1 := cnt_le N L
    have h2 := cnt_cons_le x L N
    rw [List.length_cons]
    split at h2 <;> omega
theorem cnt_eq {N : Nat} : ∀ {L : List Nat}, L.Pairwise (· ≠ ·) → (∀ x ∈ L, x < N) → cntN L N = L.length
  | [], _, _ => by rw [cnt_nil]; rfl
  | x :: L, hp, hl => by
    rw [List.pairwise_cons] at hp
    rw [cnt_cons_eq (fun h => hp.1 x h rfl), if_pos (hl x (List.mem_cons_self ..)), cnt_eq hp.2 (fun y hy => hl y (List.mem_cons_of_mem _ hy)), List.length_cons]
theorem cntB_stop {r W : Nat} (h : r < 2 ^ W) : ∀ d, cntB r (W + d) = cntB r W
  | 0 => rfl
  | d + 1 => by
    have h1 : r.testBit (W + d) = false := Nat.testBit_lt_two_pow (Nat.lt_of_lt_of_le h (Nat.pow_le_pow_right (by omega) (by omega)))
    rw [← Nat.add_assoc, cntB, cntB_stop h d, h1]; simp
theorem flat_nodup {f : Nat → List Nat} : ∀ n, (∀ i, i < n → (f i).Pairwise (· ≠ ·)) → (∀ i i', i < i' → i' < n → ∀ x ∈ f i, ∀ y ∈ f i', x ≠ y) → ((List.range n).flatMap f).Pairwise (· ≠ ·)
  | 0, _, _ => by simp
  | n + 1, h1, h2 => by
    rw [List.range_succ, List.flatMap_append, List.pairwise_append]
    refine ⟨flat_nodup n (fun i hi => h1 i (by omega)) (fun i i' hi hi' => h2 i i' hi (by omega)), ?_, ?_⟩
    · simpa using h1 n (Nat.lt_succ_self _)
    · intro x hx y hy
      simp only [List.mem_flatMap, List.mem_range] at hx
      obtain ⟨i, hi, hx⟩ := hx
      simp only [List.flatMap_cons, List.flatMap_nil, List.append_nil] at hy
      exact h2 i n hi (Nat.lt_succ_self _) x hx y hy
theorem flat_len {f : Nat → List Nat} (g : Nat → Nat) (hg0 : g 0 = 0) : ∀ n, (∀ i, i < n → g (i + 1) = g i + (f i).length) → ((List.range n).flatMap f).length = g n
  | 0, _ => by rw [hg0]; rfl
  | n + 1, h => by
    rw [List.range_succ, List.flatMap_append, List.length_append, flat_len g hg0 n (fun i hi => h i (by omega)), h n (Nat.lt_succ_self _)]
    simp
section
variable {F : Font} {R : Rul} {P : List ByteArray}
theorem mem_ptsR {g : Gl} {p : Pl} {a : Int} {y c z : Nat} : z ∈ ptsR F R g p a y c ↔ ∃ x, x < c ∧ bitG g y x = true ∧ idxP F R p a y x = z := by
  unfold ptsR
  simp only [List.mem_flatMap, List.mem_range]
  constructor
  · rintro ⟨x, hx, hz⟩
    split at hz
    · rename_i hb; exact ⟨x, hx, hb, (List.mem_singleton.1 hz).symm⟩
    · simp at hz
  · rintro ⟨x, hx, hb, rfl⟩
    exact ⟨x, hx, by rw [if_pos hb]; simp⟩
theorem mem_ptsG {g : Gl} {p : Pl} {a : Int} {r z : Nat} : z ∈ ptsG F R g p a r ↔ ∃ y x, y < r ∧ x < g.wide.toNat ∧ bitG g y x = true ∧ idxP F R p a y x = z := by
  unfold ptsG
  simp only [List.mem_flatMap, List.mem_range, mem_ptsR]
  constructor
  · rintro ⟨y, hy, x, hx, hb, hz⟩; exact ⟨y, x, hy, hx, hb, hz⟩
  · rintro ⟨y, x, hy, hx, hb, hz⟩; exact ⟨y, hy, x, hx, hb, hz⟩
theorem mem_ptsW {l : List Nat} {p : Pl} {n z : Nat} : z ∈ ptsW F R l p n ↔ ∃ m y x, m < n ∧ y < (glN F l m).rows.length ∧ x < (glN F l m).wide.toNat ∧ bitG (glN F l m) y x = true ∧ idxP F R p (posS F l m) y x = z := by
  unfold ptsW
  simp only [List.mem_flatMap, List.mem_range, mem_ptsG]
  constructor
  · rintro ⟨m, hm, y, x, hy, hx, hb, hz⟩; exact ⟨m, y, x, hm, hy, hx, hb, hz⟩
  · rintro ⟨m, y, x, hm, hy, hx, hb, hz⟩; exact ⟨m, hm, y, x, hy, hx, hb, hz⟩
theorem mem_ptsK {pg k z : Nat} (hk : k ≤ P.length) : z ∈ ptsK F R P pg k ↔ ∃ i m y x, i < k ∧ PixIn F R P i m y x ∧ (plS F R P i).page = (pg : Int) ∧ bitG (glN F (gL F (strD P i)) m) y x = true ∧ idxP F R (plS F R P i) (posS F (gL F (strD P i)) m) y x = z := by
  unfold ptsK
  simp only [List.mem_flatMap, List.mem_range]
  constructor
  · rintro ⟨i, hi, hz⟩
    split at hz
    · rename_i hp
      obtain ⟨m, y, x, hm, hy, hx, hb, hz⟩ := mem_ptsW.1 hz
      exact ⟨i, m, y, x, hi, ⟨by omega, hm, hy, hx⟩, hp, hb, hz⟩
    · simp at hz
  · rintro ⟨i, m, y, x, hi, hq, hp, hb, hz⟩
    exact ⟨i, hi, by rw [if_pos hp]; exact mem_ptsW.2 ⟨m, y, x, hq.hm, hq.hy, hq.hx, hb, hz⟩⟩
theorem coord_uniq {r r' c c' M : Int} (h0 : 0 ≤ c) (h1 : c < M) (h2 : 0 ≤ c') (h3 : c' < M) (h : r * M + c = r' * M + c') : r = r' ∧ c = c' := by
  have e1 : (r * M + c) % M = c := by rw [Int.add_comm, Int.add_mul_emod_self_right]; exact Int.emod_eq_of_lt h0 h1
  have e2 : (r' * M + c') % M = c' := by rw [Int.add_comm, Int.add_mul_emod_self_right]; exact Int.emod_eq_of_lt h2 h3
  have hc : c = c' := by rw [← e1, ← e2, h]
  refine ⟨?_, hc⟩
  subst hc
  exact Int.eq_of_mul_eq_mul_right (by omega) (by omega : r * M = r' * M)
theorem glN_ok (hk : FontOk F) {i m : Nat} (hm : m < (gL F (strD P i)).length) : ((glN F (gL F (strD P i)) m).rows.length : Int) = F.high ∧ 1 ≤ (glN F (gL F (strD P i)) m).wide ∧ (glN F (gL F (strD P i)) m).wide ≤ 12 ∧ (gL F (strD P i)).getD m 0 < F.glyphs.length := by
  have h1 := getD_mem (gL_mem (F := F) (p := strD P i)) hm
  have h2 := glE_wide (hk.gl _ h1)
  exact ⟨h2.1.2.2.1, h2.2.1, h2.2.2, h1⟩
theorem glyph_wide {l : List Nat} {n : Nat} (hn : n < l.length) : posS F l n + wd F (l.getD n 0) ≤ widS F l l.length := by
  have key : ∀ m, n < m → posS F l n + wd F (l.getD n 0) ≤ widS F l m := by
    intro m
    induction m with
    | zero => intro h0; omega
    | succ m ih =>
      intro h0
      rw [widS]
      by_cases hm : n = m
      · subst hm; omega
      · have := ih (by omega); omega
  exact key _ hn
theorem plS_line (hr : RulOk F R) (i : Nat) : 0 ≤ (plS F R P i).line ∧ (plS F R P i).line < R.lines := by
  have h1 := (plS_page (P := P) hr i).2
  have h2 := hr.lines
  have h3 : lineOf F R P i % R.lines.toNat < R.lines.toNat := Nat.mod_lt _ (by omega)
  omega
/-- Where a pixel lies. -/
theorem pix_coord (hk : FontOk F) (hr : RulOk F R) (h : TextOk F R P) {i m y x : Nat} (hp : PixIn F R P i m y x) :
    0 ≤ posS F (gL F (strD P i)) m + x ∧ posS F (gL F (strD P i)) m + x < wW F (strD P i) ∧ 0 ≤ (plS F R P i).left ∧ (plS F R P i).left + (posS F (gL F (strD P i)) m + x) < R.measure ∧ (y : Int) < F.high ∧
      (idxP F R (plS F R P i) (posS F (gL F (strD P i)) m) y x : Int) = ((plS F R P i).line * (F.high + R.lead) + y) * R.measure + ((plS F R P i).left + (posS F (gL F (strD P i)) m + x)) ∧ idxP F R (plS F R P i) (posS F (gL F (strD P i)) m) y x < pixN F R := by
  have h1 := glyph_in hk hr h hp.hi hp.hm
  have h2 := glN_ok (P := P) hk hp.hm
  have h3 := posS_rng hk (gL_mem (F := F) (p := strD P i)) m hp.hm
  have h4 := glyph_wide (F := F) hp.hm
  have h5 : wd F ((gL F (strD P i)).getD m 0) = (glN F (gL F (strD P i)) m).wide := rfl
  have hx := hp.hx; have hy := hp.hy
  have h6 := idx_ok hk hr (p := plS F R P i) (plS_line hr i) (a := posS F (gL F (strD P i)) m) (y := y) (x := x) (by omega) (by omega) (by omega)
  unfold wW
  refine ⟨by omega, by omega, h1.1.1, by omega, by omega, ?_, h6.2.2.2.2.2⟩
  rw [h6.2.2.2.2.1]; omega
/-- Words of a line do not meet. -/
theorem left_mono (hk : FontOk F) (k d : Nat) : ∀ e, leftN F R P k d + (wW F (strD P (brk F R P k + d)) + F.space) ≤ leftN F R P k (d + 1 + e)
  | 0 => Int.le_refl _
  | e + 1 => by
    have ih := left_mono hk k d e
    have h1 := wW_pos hk (strD P (brk F R P k + (d + 1 + e)))
    have h2 := hk.space
    show _ ≤ leftN F R P k (d + 1 + e) + (wW F (strD P (brk F R P k + (d + 1 + e))) + F.space)
    omega
theorem word_apart (hk : FontOk F) (hr : RulOk F R) (h : TextOk F R P) {i j : Nat} (hi : i < P.length) (hj : j < P.length) (hij : i < j) (hl : lineOf F R P i = lineOf F R P j) : (plS F R P i).left + wW F (strD P i) < (plS F R P j).left := by
  have h1 := lineOf_ok h hi
  have h2 := lineOf_ok h hj
  obtain ⟨k, hk2⟩ : ∃ k, k = lineOf F R P i := ⟨_, rfl⟩
  rw [← hk2] at h1 hl
  rw [← hl] at h2
  have e1 : (plS F R P i).left = leftN F R P k (i - brk F R P k) := by unfold plS; rw [← hk2]; rfl
  have e2 : (plS F R P j).left = leftN F R P k (j - brk F R P k) := by unfold plS; rw [← hl]; rfl
  have h3 := left_mono (R := R) (P := P) hk k (i - brk F R P k) (j - i - 1)
  rw [show brk F R P k + (i - brk F R P k) = i by omega, show i - brk F R P k + 1 + (j - i - 1) = j - brk F R P k by omega] at h3
  have := hk.space
  rw [e1, e2]; omega
theorem line_uniq (hr : RulOk F R) {i j : Nat} (h1 : (plS F R P i).page = (plS F R P j).page) (h2 : (plS F R P i).line = (plS F R P j).line) : lineOf F R P i = lineOf F R P j := by
  have a := plS_page (P := P) hr i
  have b := plS_page (P := P) hr j
  rw [a.1, b.1] at h1
  rw [a.2, b.2] at h2
  unfold pageN at h1
  have e1 := Nat.div_add_mod (lineOf F R P i) R.lines.toNat
  have e2 := Nat.div_add_mod (lineOf F R P j) R.lines.toNat
  have h1' : lineOf F R P i / R.lines.toNat = lineOf F R P j / R.lines.toNat := by omega
  have h2' : lineOf F R P i % R.lines.toNat = lineOf F R P j % R.lines.toNat := by omega
  rw [← e1, ← e2, h1', h2']
/-- A pixel in the box of a word is one of its own. -/
theorem in_word (hk : FontOk F) (hr : RulOk F R) (h : TextOk F R P) {i m y x k y0 : Nat} {c0 : Int} (hp : PixIn F R P i m y x) (hkl : k < P.length) (hpg : (plS F R P i).page = (plS F R P k).page) (hy : (y0 : Int) < F.high) (h0 : 0 ≤ c0) (h1 : c0 < wW F (strD P k))
    (hM : (plS F R P k).left + c0 < R.measure) (hL : 0 ≤ (plS F R P k).left)
    (hi : (idxP F R (plS F R P i) (posS F (gL F (strD P i)) m) y x : Int) = ((plS F R P k).line * (F.high + R.lead) + y0) * R.measure + ((plS F R P k).left + c0)) : i = k ∧ y = y0 ∧ posS F (gL F (strD P i)) m + x = c0 := by
  have hc := pix_coord hk hr h hp
  have hh := hk.high; have hd := hr.lead
  rw [hc.2.2.2.2.2.1] at hi
  obtain ⟨e1, e2⟩ := coord_uniq (by omega) (by omega) (by omega) (by omega) hi
  obtain ⟨e3, e4⟩ := coord_uniq (M := F.high + R.lead) (by omega) (by omega) (by omega) (by omega) e1
  have hlo := line_uniq hr hpg e3
  have hik : i = k := by
    rcases Nat.lt_trichotomy i k with h2 | h2 | h2
    · have := word_apart hk hr h hp.hi hkl h2 hlo; omega
    · exact h2
    · have := word_apart hk hr h hkl hp.hi h2 hlo.symm; omega
  subst hik
  exact ⟨rfl, by omega, by omega⟩
/-- The dark pixels in the box of a word. -/
theorem dark_box (hk : FontOk F) (hr : RulOk F R) (h : TextOk F R P) {k y0 c0 pg j : Nat} (hkl : k < P.length) (hpg : (plS F R P k).page = (pg : Int)) (hy : (y0 : Int) < F.high) (h1 : (c0 : Int) < wW F (strD P k)) (hM : (plS F R P k).left + c0 < R.measure) (hL : 0 ≤ (plS F R P k).left)
    (hj : (j : Int) = ((plS F R P k).line * (F.high + R.lead) + y0) * R.measure + ((plS F R P k).left + c0)) :
    j ∈ ptsK F R P pg P.length ↔ ∃ m x, m < (gL F (strD P k)).length ∧ x < (glN F (gL F (strD P k)) m).wide.toNat ∧ bitG (glN F (gL F (strD P k)) m) y0 x = true ∧ posS F (gL F (strD P k)) m + x = c0 := by
  rw [mem_ptsK (Nat.le_refl _)]
  constructor
  · rintro ⟨i, m, y, x, -, hp, hpi, hb, hz⟩
    obtain ⟨rfl, rfl, hc⟩ := in_word hk hr h hp hkl (by rw [hpi, hpg]) hy (Int.natCast_nonneg c0) h1 hM hL (by rw [hz]; exact hj)
    exact ⟨m, x, hp.hm, hp.hx, hb, hc⟩
  · rintro ⟨m, x, hm, hx, hb, hc⟩
    have hg := glN_ok (P := P) hk hm
    have hp : PixIn F R P k m y0 x := ⟨hkl, hm, by omega, hx⟩
    have hq := pix_coord hk hr h hp
    refine ⟨k, m, y0, x, hkl, hp, hpg, hb, ?_⟩
    have h2 := hq.2.2.2.2.2.1
    rw [hc, ← hj] at h2
    omega
theorem pos_apart (hk : FontOk F) (hkn : ∀ i, i < F.kerns.length → 0 ≤ (knD F.kerns i).by_) {l : List Nat} (hm : ∀ x ∈ l, x < F.glyphs.length) (a : Nat) : ∀ e, a + 1 + e < l.length → posS F l a + wd F (l.getD a 0) ≤ posS F l (a + 1 + e)
  | 0, h => by
    have h1 : 0 ≤ kr F (l.getD a 0) (l.getD (a + 1) 0) := by
      unfold kr betw
      split
      · rename_i h2; exact hkn _ h2
      · exact Int.le_refl _
    show _ ≤ posS F l a + (wd F (l.getD a 0) + kr F (l.getD a 0) (l.getD (a + 1) 0))
    omega
  | e + 1, h => by
    have ih := pos_apart hk hkn hm a e (by omega)
    have h1 : 0 ≤ kr F (l.getD (a + 1 + e) 0) (l.getD (a + 1 + e + 1) 0) := by
      unfold kr betw
      split
      · rename_i h2; exact hkn _ h2
      · exact Int.le_refl _
    have h2 := wd_rng hk (getD_mem hm (show a + 1 + e < l.length by omega))
    show _ ≤ posS F l (a + 1 + e) + (wd F (l.getD (a + 1 + e) 0) + kr F (l.getD (a + 1 + e) 0) (l.getD (a + 1 + e + 1) 0))
    omega
/-- If no kern is below 0, no pixel is set twice. -/
theorem pix_uniq (hk : FontOk F) (hr : RulOk F R) (h : TextOk F R P) (hkn : ∀ i, i < F.kerns.length → 0 ≤ (knD F.kerns i).by_) {i m y x i' m' y' x' : Nat} (hp : PixIn F R P i m y x) (hq : PixIn F R P i' m' y' x') (hpg : (plS F R P i).page = (plS F R P i').page)
    (he : idxP F R (plS F R P i) (posS F (gL F (strD P i)) m) y x = idxP F R (plS F R P i') (posS F (gL F (strD P i')) m') y' x') : i = i' ∧ m = m' ∧ y = y' ∧ x = x' := by
  have hc := pix_coord hk hr h hq
  obtain ⟨rfl, rfl, h3⟩ := in_word hk hr h hp hq.hi hpg hc.2.2.2.2.1 hc.1 hc.2.1 hc.2.2.2.1 hc.2.2.1 (by rw [he]; exact hc.2.2.2.2.2.1)
  have hm := gL_mem (F := F) (p := strD P i)
  have hx := hp.hx; have hx' := hq.hx
  have g1 := glN_ok (P := P) hk hp.hm
  have g2 := glN_ok (P := P) hk hq.hm
  have w1 : wd F ((gL F (strD P i)).getD m 0) = (glN F (gL F (strD P i)) m).wide := rfl
  have w2 : wd F ((gL F (strD P i)).getD m' 0) = (glN F (gL F (strD P i)) m').wide := rfl
  rcases Nat.lt_trichotomy m m' with h4 | h4 | h4
  · have := pos_apart hk hkn hm m (m' - m - 1) (by have := hq.hm; omega)
    rw [show m + 1 + (m' - m - 1) = m' by omega] at this
    omega
  · subst h4; exact ⟨rfl, rfl, rfl, by omega⟩
  · have := pos_apart hk hkn hm m' (m - m' - 1) (by have := hp.hm; omega)
    rw [show m' + 1 + (m - m' - 1) = m by omega] at this
    omega
theorem ptsK_nodup (hk : FontOk F) (hr : RulOk F R) (h : TextOk F R P) (hkn : ∀ i, i < F.kerns.length → 0 ≤ (knD F.kerns i).by_) (pg : Nat) : (ptsK F R P pg P.length).Pairwise (· ≠ ·) := by
  unfold ptsK
  refine flat_nodup _ (fun i hi => ?_) (fun i i' hii hi' u hu v hv he => ?_)
  · split
    · unfold ptsW
      refine flat_nodup _ (fun m hm => ?_) (fun m m' hmm hm' u hu v hv he => ?_)
      · unfold ptsG
        refine flat_nodup _ (fun y hy => ?_) (fun y y' hyy hy' u hu v hv he => ?_)
        · unfold ptsR
          refine flat_nodup _ (fun x hx => ?_) (fun x x' hxx hx' u hu v hv he => ?_)
          · split <;> simp
          · split at hu
            · split at hv
              · simp only [List.mem_singleton] at hu hv
                have := pix_uniq hk hr h hkn (i := i) (m := m) (y := y) (x := x) (i' := i) (m' := m) (y' := y) (x' := x') ⟨hi, hm, hy, by omega⟩ ⟨hi, hm, hy, hx'⟩ rfl (by rw [← hu, ← hv, he])
                omega
              · simp at hv
            · simp at hu
        · obtain ⟨x, hx, -, hu⟩ := mem_ptsR.1 hu
          obtain ⟨x', hx', -, hv⟩ := mem_ptsR.1 hv
          have := pix_uniq hk hr h hkn (i := i) (m := m) (y := y) (x := x) (i' := i) (m' := m) (y' := y') (x' := x') ⟨hi, hm, by omega, hx⟩ ⟨hi, hm, hy', hx'⟩ rfl (by rw [hu, hv, he])
          omega
      · obtain ⟨y, x, hy, hx, -, hu⟩ := mem_ptsG.1 hu
        obtain ⟨y', x', hy', hx', -, hv⟩ := mem_ptsG.1 hv
        have := pix_uniq hk hr h hkn (i := i) (m := m) (y := y) (x := x) (i' := i) (m' := m') (y' := y') (x' := x') ⟨hi, by omega, hy, hx⟩ ⟨hi, hm', hy', hx'⟩ rfl (by rw [hu, hv, he])
        omega
    · simp
  · split at hu
    · rename_i hp
      split at hv
      · rename_i hp'
        obtain ⟨m, y, x, hm, hy, hx, -, hu⟩ := mem_ptsW.1 hu
        obtain ⟨m', y', x', hm', hy', hx', -, hv⟩ := mem_ptsW.1 hv
        have := pix_uniq hk hr h hkn (i := i) (m := m) (y := y) (x := x) (i' := i') (m' := m') (y' := y') (x' := x') ⟨by omega, hm, hy, hx⟩ ⟨hi', hm', hy', hx'⟩ (by rw [hp, hp']) (by rw [hu, hv, he])
        omega
      · simp at hv
    · simp at hu
theorem ptsK_lt (hk : FontOk F) (hr : RulOk F R) (h : TextOk F R P) {pg z : Nat} (hz : z ∈ ptsK F R P pg P.length) : z < pixN F R := by
  obtain ⟨i, m, y, x, -, hp, -, -, rfl⟩ := (mem_ptsK (Nat.le_refl _)).1 hz
  exact (pix_coord hk hr h hp).2.2.2.2.2.2
theorem ptsR_len (g : Gl) (p : Pl) (a : Int) (y : Nat) : ∀ c, c ≤ g.wide.toNat → (ptsR F R g p a y c).length + cntB (intD g.rows y).toNat (g.wide.toNat - c) = cntB (intD g.rows y).toNat g.wide.toNat
  | 0, _ => by simp [ptsR]
  | c + 1, h => by
    have ih := ptsR_len g p a y c (by omega)
    rw [ptsR_succ, List.length_append]
    obtain ⟨d, hd⟩ : ∃ d, g.wide.toNat - c = d + 1 := ⟨g.wide.toNat - c - 1, by omega⟩
    rw [hd, cntB] at ih
    rw [show g.wide.toNat - (c + 1) = d by omega]
    unfold bitG
    rw [show g.wide.toNat - 1 - c = d by omega]
    split <;> rename_i hb
    · rw [if_pos hb] at ih; simp only [List.length_cons, List.length_nil]; omega
    · rw [if_neg hb] at ih; simp only [List.length_nil]; omega
theorem row_lt (hk : FontOk F) {g : Nat} (hg : g < F.glyphs.length) {y : Nat} (hy : y < (glD F.glyphs g).rows.length) : (intD (glD F.glyphs g).rows y).toNat < 2 ^ (glD F.glyphs g).wide.toNat := by
  obtain ⟨⟨-, -, -, hb⟩, h1, h2⟩ := glE_wide (hk.gl g hg)
  have h3 : rowBad (glD F.glyphs g) y = false := by
    cases hq : rowBad (glD F.glyphs g) y with
    | false => rfl
    | true =>
      unfold rowsBad at hb
      simp only [decide_eq_false_iff_not] at hb
      have h4 := firstN_le (rowBad (glD F.glyphs g)) (glD F.glyphs g).rows.length
      have h5 := (firstN_spec (p := rowBad (glD F.glyphs g)) (n := (glD F.glyphs g).rows.length)).1 y (by omega)
      rw [hq] at h5; cases h5
  unfold rowBad at h3
  simp only [Bool.not_eq_false', inB, decide_eq_true_eq] at h3
  have h5 : ((2 : Int) ^ (glD F.glyphs g).wide.toNat) = ((2 ^ (glD F.glyphs g).wide.toNat : Nat) : Int) := by simp
  rw [h5] at h3
  omega
theorem ptsG_len (hk : FontOk F) {g : Nat} (hg : g < F.glyphs.length) (p : Pl) (a : Int) : (ptsG F R (glD F.glyphs g) p a (glD F.glyphs g).rows.length).length = inkG (glD F.glyphs g) := by
  unfold ptsG inkG
  refine flat_len (inkR (glD F.glyphs g)) rfl _ fun y hy => ?_
  rw [inkR]
  have h1 := ptsR_len (F := F) (R := R) (glD F.glyphs g) p a y _ (Nat.le_refl _)
  have h2 := (glE_wide (hk.gl g hg)).2
  have h3 := cntB_stop (row_lt hk hg hy) (12 - (glD F.glyphs g).wide.toNat)
  rw [show (glD F.glyphs g).wide.toNat + (12 - (glD F.glyphs g).wide.toNat) = 12 by omega] at h3
  rw [Nat.sub_self] at h1
  rw [h3]
  simp only [cntB] at h1
  omega
theorem ptsW_len (hk : FontOk F) {l : List Nat} (hm : ∀ x ∈ l, x < F.glyphs.length) (p : Pl) : (ptsW F R l p l.length).length = inkL F l l.length := by
  unfold ptsW
  refine flat_len (inkL F l) rfl _ fun m hml => ?_
  rw [inkL]
  have := ptsG_len (R := R) hk (getD_mem hm hml) p (posS F l m)
  unfold glN
  rw [this]
/-- The points of the first pages. -/
def D.lenP (F : Font) (R : Rul) (P : List ByteArray) (k : Nat) : Nat → Nat
  | 0 => 0
  | p + 1 => lenP F R P k p + (ptsK F R P p k).length
theorem lenP_zero : ∀ n, lenP F R P 0 n = 0
  | 0 => rfl
  | n + 1 => by rw [lenP, lenP_zero n]; rfl
theorem lenP_succ (hk : FontOk F) (hr : RulOk F R) (k : Nat) : ∀ n, lenP F R P (k + 1) n = lenP F R P k n + (if pageN F R P k < n then inkL F (gL F (strD P k)) (gL F (strD P k)).length else 0)
  | 0 => rfl
  | n + 1 => by
    rw [lenP, lenP, lenP_succ hk hr k n, ptsK_succ, List.length_append, (plS_page hr k).1]
    by_cases h : pageN F R P k = n
    · subst h
      rw [if_pos rfl, if_neg (Nat.lt_irrefl _), if_pos (Nat.lt_succ_self _), ptsW_len hk gL_mem]; omega
    · rw [if_neg (show ¬ ((pageN F R P k : Nat) : Int) = (n : Int) by omega)]
      by_cases h1 : pageN F R P k < n
      · rw [if_pos h1, if_pos (show pageN F R P k < n + 1 by omega)]; simp only [List.length_nil]; omega
      · rw [if_neg h1, if_neg (show ¬ pageN F R P k < n + 1 by omega)]; simp only [List.length_nil]; omega
theorem lenP_ink (hk : FontOk F) (hr : RulOk F R) {n : Nat} : ∀ k, (∀ i, i < k → pageN F R P i < n) → lenP F R P k n = inkP F P k
  | 0, _ => lenP_zero n
  | k + 1, h => by rw [lenP_succ hk hr k n, if_pos (h k (Nat.lt_succ_self _)), lenP_ink hk hr k (fun i hi => h i (by omega)), inkP]
theorem page_mono (h : TextOk F R P) {i : Nat} : ∀ d, i + d < P.length → pageN F R P i ≤ pageN F R P (i + d)
  | 0, _ => Nat.le_refl _
  | d + 1, hd => by
    have ih := page_mono h (i := i) d (by omega)
    refine Nat.le_trans ih ?_
    unfold pageN
    refine Nat.div_le_div_right ?_
    rcases lineOf_step h (i := i + d) (by omega) with h1 | h1
    · rw [← Nat.add_assoc, h1]; exact Nat.le_refl _
    · rw [← Nat.add_assoc, h1]; omega
theorem page_lt (h : TextOk F R P) {i : Nat} (hi : i < P.length) : pageN F R P i < npg F R P P.length := by
  obtain ⟨n, hn⟩ : ∃ n, P.length = n + 1 := ⟨P.length - 1, by omega⟩
  rw [hn]
  show _ < pageN F R P n + 1
  have := page_mono h (i := i) (n - i) (by omega)
  rw [show i + (n - i) = n by omega] at this
  omega
theorem dark_le : ∀ n, darkP F R P n ≤ lenP F R P P.length n
  | 0 => Nat.le_refl _
  | n + 1 => by
    have h1 := dark_le n
    have h2 := cnt_le (pixN F R) (ptsK F R P n P.length)
    rw [darkP, lenP]; omega
theorem dark_eq (hk : FontOk F) (hr : RulOk F R) (h : TextOk F R P) (hkn : ∀ i, i < F.kerns.length → 0 ≤ (knD F.kerns i).by_) : ∀ n, darkP F R P n = lenP F R P P.length n
  | 0 => rfl
  | n + 1 => by rw [darkP, lenP, dark_eq hk hr h hkn n, cnt_eq (ptsK_nodup hk hr h hkn n) (fun z hz => ptsK_lt hk hr h hz)]
/-- At most so many pixels are dark as the glyphs have dark columns; just as many if no kern is below 0. -/
theorem ink_ok (hk : FontOk F) (hr : RulOk F R) (h : TextOk F R P) : darkP F R P (npg F R P P.length) ≤ inkP F P P.length ∧ ((∀ i, i < F.kerns.length → 0 ≤ (knD F.kerns i).by_) → darkP F R P (npg F R P P.length) = inkP F P P.length) := by
  have h1 := lenP_ink (P := P) hk hr (n := npg F R P P.length) P.length (fun i hi => page_lt h hi)
  refine ⟨?_, fun hkn => ?_⟩
  · rw [← h1]; exact dark_le _
  · rw [← h1]; exact dark_eq hk hr h hkn _
end
end Go.Proofs.YtahgbecfaihfpaaDoor
