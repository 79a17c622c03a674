/-
  Pages, plain; and in memory.
  A bit of a number, as the code asks for it.
-/
import Derived.Test.YtahgbecfaihfpaaDoorTPlacesM
import Derived.Test.YtahgbecfaihfpaaDoorDRegX
import Derived.Laws.Bits128
namespace Go.Proofs.YtahgbecfaihfpaaDoor.D
def bitG (g : Gl) (y x : Nat) : Bool := (intD g.rows y).toNat.testBit (g.wide.toNat - 1 - x)
def idxP (F : Font) (R : Rul) (p : Pl) (a : Int) (y x : Nat) : Nat := ((p.line * (F.high + R.lead) + y) * R.measure + p.left + a + x).toNat
def ptsR (F : Font) (R : Rul) (g : Gl) (p : Pl) (a : Int) (y c : Nat) : List Nat := (List.range c).flatMap fun x => if bitG g y x then [idxP F R p a y x] else []
def ptsG (F : Font) (R : Rul) (g : Gl) (p : Pl) (a : Int) (r : Nat) : List Nat := (List.range r).flatMap fun y => ptsR F R g p a y g.wide.toNat
def glN (F : Font) (l : List Nat) (n : Nat) : Gl := glD F.glyphs (l.getD n 0)
def ptsW (F : Font) (R : Rul) (l : List Nat) (p : Pl) (n : Nat) : List Nat := (List.range n).flatMap fun m => ptsG F R (glN F l m) p (posS F l m) (glN F l m).rows.length
/-- What is dark on a page when the first k words are set. -/
def ptsK (F : Font) (R : Rul) (P : List ByteArray) (pg k : Nat) : List Nat := (List.range k).flatMap fun i => if (plS F R P i).page = (pg : Int) then ptsW F R (gL F (strD P i)) (plS F R P i) (gL F (strD P i)).length else []
def pageN (F : Font) (R : Rul) (P : List ByteArray) (i : Nat) : Nat := lineOf F R P i / R.lines.toNat
/-- How many pages there are when the first k words are set. -/
def npg (F : Font) (R : Rul) (P : List ByteArray) : Nat → Nat
  | 0 => 0
  | k + 1 => pageN F R P k + 1
def pixN (F : Font) (R : Rul) : Nat := (R.measure * rowsV F R).toNat
theorem ptsR_succ (F : Font) (R : Rul) (g : Gl) (p : Pl) (a : Int) (y c : Nat) : ptsR F R g p a y (c + 1) = ptsR F R g p a y c ++ (if bitG g y c then [idxP F R p a y c] else []) := by simp [ptsR, List.range_succ, List.flatMap_append]
theorem ptsG_succ (F : Font) (R : Rul) (g : Gl) (p : Pl) (a : Int) (r : Nat) : ptsG F R g p a (r + 1) = ptsG F R g p a r ++ ptsR F R g p a r g.wide.toNat := by simp [ptsG, List.range_succ, List.flatMap_append]
theorem ptsW_succ (F : Font) (R : Rul) (l : List Nat) (p : Pl) (n : Nat) : ptsW F R l p (n + 1) = ptsW F R l p n ++ ptsG F R (glN F l n) p (posS F l n) (glN F l n).rows.length := by simp [ptsW, List.range_succ, List.flatMap_append]
theorem ptsK_succ (F : Font) (R : Rul) (P : List ByteArray) (pg k : Nat) : ptsK F R P pg (k + 1) = ptsK F R P pg k ++ (if (plS F R P k).page = (pg : Int) then ptsW F R (gL F (strD P k)) (plS F R P k) (gL F (strD P k)).length else []) := by simp [ptsK, List.range_succ, List.flatMap_append]
end Go.Proofs.YtahgbecfaihfpaaDoor.D
namespace Go.Proofs.YtahgbecfaihfpaaDoor
open Go.RowKit D
set_option linter.unusedVariables false
theorem plS_page {F : Font} {R : Rul} {P : List ByteArray} (hr : RulOk F R) (i : Nat) : (plS F R P i).page = (pageN F R P i : Int) ∧ (plS F R P i).line = ((lineOf F R P i % R.lines.toNat : Nat) : Int) := by
  have h1 := hr.lines
  have h2 : (R.lines.toNat : Int) = R.lines := by omega
  unfold plS plN pageN
  refine ⟨?_, ?_⟩
  · show (lineOf F R P i : Int) / R.lines = _
    rw [Int.natCast_ediv, h2]
  · show (lineOf F R P i : Int) % R.lines = _
    rw [Int.natCast_emod, h2]
theorem lineOf_zero {F : Font} {R : Rul} {P : List ByteArray} (h : TextOk F R P) : lineOf F R P 0 = 0 := by
  have h1 := lineOf_ok h (i := 0) h.n1
  have h2 := lineOf_at h (k := 0) (d := 0) (by have := (lines_ok h).2.2.2; omega) (by have := brk_lt h (k := 0) (by have := (lines_ok h).2.2.2; omega); simp only [brk] at this ⊢; simpa using this.1)
  simpa [brk] using h2
theorem lineOf_step {F : Font} {R : Rul} {P : List ByteArray} (h : TextOk F R P) {i : Nat} (hi : i + 1 < P.length) : lineOf F R P (i + 1) = lineOf F R P i ∨ lineOf F R P (i + 1) = lineOf F R P i + 1 := by
  have h1 := lineOf_ok h (i := i) (by omega)
  have h2 := lineOf_ok h hi
  obtain ⟨k, hk⟩ : ∃ k, k = lineOf F R P i := ⟨_, rfl⟩
  rw [← hk] at h1
  rw [← hk]
  rcases Nat.lt_or_ge (i + 1) (brk F R P (k + 1)) with h3 | h3
  · left
    have := lineOf_at h (k := k) (d := i + 1 - brk F R P k) h1.1 (by omega)
    rwa [show brk F R P k + (i + 1 - brk F R P k) = i + 1 by omega] at this
  · right
    have h4 : brk F R P (k + 1) = i + 1 := by omega
    have h5 : k + 1 < nLines F R P := by
      rcases Nat.lt_or_ge (k + 1) (nLines F R P) with h6 | h6
      · exact h6
      · have h7 := (lines_ok h).2.1
        rw [show nLines F R P = k + 1 by omega] at h7
        omega
    have h6 := brk_lt h h5
    have := lineOf_at h (k := k + 1) (d := 0) h5 (by omega)
    rwa [h4, Nat.add_zero] at this
theorem div_step (a b : Nat) : (a + 1) / b = a / b ∨ (a + 1) / b = a / b + 1 := by
  rw [Nat.succ_div]
  split
  · right; rfl
  · left; rfl
/-- The page of the next word: the last one there is, or one more. -/
theorem page_next {F : Font} {R : Rul} {P : List ByteArray} (hr : RulOk F R) (h : TextOk F R P) {k : Nat} (hk : k < P.length) : pageN F R P k = npg F R P k ∨ (0 < npg F R P k ∧ pageN F R P k + 1 = npg F R P k) := by
  cases k with
  | zero => left; unfold pageN; rw [lineOf_zero h]; simp [npg]
  | succ k =>
    simp only [npg]
    rcases lineOf_step h (i := k) hk with h1 | h1
    · right; unfold pageN; rw [h1]; exact ⟨Nat.succ_pos _, rfl⟩
    · unfold pageN; rw [h1]
      rcases div_step (lineOf F R P k) R.lines.toNat with h2 | h2
      · right; rw [h2]; exact ⟨Nat.succ_pos _, rfl⟩
      · left; exact h2
theorem npg_succ {F : Font} {R : Rul} {P : List ByteArray} (hr : RulOk F R) (h : TextOk F R P) {k : Nat} (hk : k < P.length) : npg F R P (k + 1) = if pageN F R P k = npg F R P k then npg F R P k + 1 else npg F R P k := by
  rcases page_next hr h hk with h1 | h1
  · rw [if_pos h1, ← h1]; rfl
  · rw [if_neg (by omega), ← h1.2]; rfl
/-- The last page is empty as long as none of its words is set. -/
theorem ptsK_none {F : Font} {R : Rul} {P : List ByteArray} (hr : RulOk F R) (h : TextOk F R P) {p : Nat} : ∀ k, k ≤ P.length → npg F R P k ≤ p → ptsK F R P p k = []
  | 0, _, _ => rfl
  | k + 1, hk, hp => by
    simp only [npg] at hp
    have h1 : npg F R P k ≤ p := by rcases page_next hr h (k := k) (by omega) with h2 | h2 <;> omega
    rw [ptsK_succ, ptsK_none hr h k (by omega) h1, if_neg ?_]
    · rfl
    · rw [(plS_page hr k).1]; omega
theorem rows_pos {F : Font} {R : Rul} (hk : FontOk F) (hr : RulOk F R) : 1 ≤ rowsV F R ∧ rowsV F R ≤ 48 ∧ rowsV F R = R.lines * (F.high + R.lead) - R.lead := ⟨(rows_rng hk.high hr.lines hr.lead).2, hr.rows, rfl⟩
theorem pix_ok {F : Font} {R : Rul} (hk : FontOk F) (hr : RulOk F R) : (pixN F R : Int) = R.measure * rowsV F R ∧ pixN F R ≤ 2304 ∧ 1 ≤ pixN F R := by
  have h1 := rows_pos hk hr
  have h2 := hr.measure
  have h3 : R.measure * rowsV F R ≤ 48 * 48 := Int.mul_le_mul (by omega) (by omega) (by omega) (by omega)
  have h4 : 1 * 1 ≤ R.measure * rowsV F R := Int.mul_le_mul (by omega) (by omega) (by omega) (by omega)
  unfold pixN
  omega
/-- A pixel of a glyph lies on its page. -/
theorem idx_ok {F : Font} {R : Rul} (hk : FontOk F) (hr : RulOk F R) {p : Pl} (hl : 0 ≤ p.line ∧ p.line < R.lines) {a : Int} {y x : Nat} (hy : (y : Int) < F.high) (h0 : 0 ≤ p.left + a) (hx : p.left + a + x < R.measure) :
    0 ≤ p.line * (F.high + R.lead) ∧ p.line * (F.high + R.lead) ≤ 312 ∧ 0 ≤ (p.line * (F.high + R.lead) + y) * R.measure ∧ (p.line * (F.high + R.lead) + y) * R.measure ≤ 20000 ∧ (idxP F R p a y x : Int) = (p.line * (F.high + R.lead) + y) * R.measure + p.left + a + x ∧ idxP F R p a y x < pixN F R := by
  have hh := hk.high; have hd := hr.lead; have hn := hr.lines; have hm := hr.measure
  have hrw := rows_pos hk hr
  have hpx := pix_ok hk hr
  have a1 : 0 ≤ p.line * (F.high + R.lead) := Int.mul_nonneg hl.1 (by omega)
  have a2 : p.line * (F.high + R.lead) ≤ (R.lines - 1) * (F.high + R.lead) := Int.mul_le_mul_of_nonneg_right (by omega) (by omega)
  have a3 : (R.lines - 1) * (F.high + R.lead) = R.lines * (F.high + R.lead) - (F.high + R.lead) := by rw [Int.sub_mul, Int.one_mul]
  have a4 : p.line * (F.high + R.lead) + y ≤ rowsV F R - 1 := by omega
  have b1 : 0 ≤ (p.line * (F.high + R.lead) + y) * R.measure := Int.mul_nonneg (by omega) (by omega)
  have b2 : (p.line * (F.high + R.lead) + y) * R.measure ≤ (rowsV F R - 1) * R.measure := Int.mul_le_mul_of_nonneg_right a4 (by omega)
  have b3 : (rowsV F R - 1) * R.measure = R.measure * rowsV F R - R.measure := by rw [Int.sub_mul, Int.one_mul, Int.mul_comm]
  have hi : (idxP F R p a y x : Int) = (p.line * (F.high + R.lead) + y) * R.measure + p.left + a + x := by unfold idxP; omega
  refine ⟨a1, by omega, b1, by omega, hi, ?_⟩
  omega
/-- A glyph of a word lies in its line. -/
theorem glyph_in {F : Font} {R : Rul} {P : List ByteArray} (hk : FontOk F) (hr : RulOk F R) (h : TextOk F R P) {i : Nat} (hi : i < P.length) {n : Nat} (hn : n < (gL F (strD P i)).length) :
    (0 ≤ (plS F R P i).left ∧ 0 ≤ posS F (gL F (strD P i)) n) ∧ (plS F R P i).left + posS F (gL F (strD P i)) n + (glN F (gL F (strD P i)) n).wide ≤ R.measure := by
  have hlo := lineOf_ok h hi
  obtain ⟨k, hkk⟩ : ∃ k, k = lineOf F R P i := ⟨_, rfl⟩
  rw [← hkk] at hlo
  have hb := brk_lt h hlo.1
  have hlr := left_rng hk hr h hlo.1 (d := i - brk F R P k) (by omega)
  have hpl : (plS F R P i).left = leftN F R P k (i - brk F R P k) := by unfold plS; rw [← hkk]; rfl
  have hpos := posS_rng hk (gL_mem (F := F) (p := strD P i)) n hn
  have hw : posS F (gL F (strD P i)) n + (glN F (gL F (strD P i)) n).wide ≤ wW F (strD P i) := by
    unfold wW
    have key : ∀ m, n < m → posS F (gL F (strD P i)) n + (glN F (gL F (strD P i)) n).wide ≤ widS F (gL F (strD P i)) m := by
      intro m
      induction m with
      | zero => intro h0; omega
      | succ m ih =>
        intro h0
        rw [widS]
        by_cases hm : n = m
        · subst hm; unfold glN wd; omega
        · have := ih (by omega); omega
    exact key _ hn
  have hfit : leftN F R P k (i - brk F R P k) + wW F (strD P i) ≤ R.measure := by
    have h1 := leftN_eq (F := F) (R := R) (P := P) k (i - brk F R P k)
    have h2 := brk_fits h hlo.1
    have h3 : sumW F P (brk F R P k) (i - brk F R P k) + F.space + wW F (strD P i) ≤ wideL F P (brk F R P k) (brk F R P (k + 1)) := by
      have mono : ∀ d m, brk F R P k + (m + d) ≤ P.length → sumW F P (brk F R P k) m ≤ sumW F P (brk F R P k) (m + d) := by
        intro d
        induction d with
        | zero => intro m _; exact Int.le_refl _
        | succ d ih =>
          intro m hm
          have i1 := ih m (by omega)
          have i2 := (h.wide (brk F R P k + (m + d)) (by omega)).1
          have i3 := hk.space
          rw [← Nat.add_assoc, sumW]; omega
      have h4 := mono (brk F R P (k + 1) - brk F R P k - (i - brk F R P k + 1)) (i - brk F R P k + 1) (by omega)
      rw [show i - brk F R P k + 1 + (brk F R P (k + 1) - brk F R P k - (i - brk F R P k + 1)) = brk F R P (k + 1) - brk F R P k by omega, sumW, show brk F R P k + (i - brk F R P k) = i by omega] at h4
      unfold wideL; omega
    have h5 : leftN F R P k 0 * 2 ≤ R.measure - wideL F P (brk F R P k) (brk F R P (k + 1)) := by simp only [leftN]; omega
    have h6 := hlr.1
    omega
  rw [hpl]
  exact ⟨⟨hlr.2.2.1, by omega⟩, by omega⟩
end Go.Proofs.YtahgbecfaihfpaaDoor
namespace Go.Proofs.YtahgbecfaihfpaaDoor
open Go.RowKit D
theorem i64_and1 (n : Int) : bits .and .i64 n 1 = n % 2 := by
  have h1 : (BitVec.ofInt 64 1).toNat = 2 ^ 1 - 1 := by decide
  have key : (BitVec.ofInt 64 n &&& BitVec.ofInt 64 1).toNat = (n % ((2 ^ 64 : Nat) : Int)).toNat % 2 ^ 1 := by
    rw [BitVec.toNat_and, BitVec.toNat_ofInt, h1, Nat.and_two_pow_sub_one_eq_mod]
  show IntKind.i64.wrap ((BitVec.ofInt 64 n &&& BitVec.ofInt 64 1).toNat : Nat) = n % 2
  rw [key, IntKind.wrap_i64]
  omega
theorem bit_mod {r : Int} (h0 : 0 ≤ r) (n : Nat) : decide (r / 2 ^ n % 2 = 1) = r.toNat.testBit n := by
  obtain ⟨k, rfl⟩ := Int.eq_ofNat_of_zero_le h0
  rw [Nat.testBit_eq_decide_div_mod_eq, Int.toNat_natCast]
  have e : ((k : Int) / 2 ^ n % 2) = ((k / 2 ^ n % 2 : Nat) : Int) := by simp
  rw [e]
  by_cases h : k / 2 ^ n % 2 = 1
  · simp [h]
  · rw [decide_eq_false h, decide_eq_false (by omega)]
/-- As the code asks. -/
theorem bit_and {r : Int} (h0 : 0 ≤ r) (n : Nat) : (bits .and .i64 (r / 2 ^ n) 1 == 1) = r.toNat.testBit n := by
  rw [i64_and1, ← bit_mod h0 n]
  rfl
theorem row_rng {F : Font} (hk : FontOk F) {g : Nat} (hg : g < F.glyphs.length) {y : Nat} (hy : y < (glD F.glyphs g).rows.length) : 0 ≤ intD (glD F.glyphs g).rows y ∧ intD (glD F.glyphs g).rows y < 4096 := by
  obtain ⟨⟨-, -, -, hb⟩, h1, h2⟩ := glE_wide (hk.gl g hg)
  have h3 : rowBad (glD F.glyphs g) y = false := by
    cases hq : rowBad (glD F.glyphs g) y with
    | false => rfl
    | true =>
      unfold rowsBad at hb
      simp only [decide_eq_false_iff_not] at hb
      have h4 := firstN_le (rowBad (glD F.glyphs g)) (glD F.glyphs g).rows.length
      have h5 := (firstN_spec (p := rowBad (glD F.glyphs g)) (n := (glD F.glyphs g).rows.length)).1 y (by omega)
      rw [hq] at h5; cases h5
  unfold rowBad at h3
  simp only [Bool.not_eq_false', inB, decide_eq_true_eq] at h3
  have h5 := (shl_one (d := (glD F.glyphs g).wide) ⟨h1, h2⟩).2
  omega
end Go.Proofs.YtahgbecfaihfpaaDoor
