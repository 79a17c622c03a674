/-
  Where a font lies; what Check says of it, plain.
-/
import Derived.Test.YtahgbecfaihfpaaDoorTBase
import Derived.Test.YtahgbecfaihfpaaDoorDMem
namespace Go.Proofs.YtahgbecfaihfpaaDoor.D
def firstN (p : Nat → Bool) : Nat → Nat
  | 0 => 0
  | n + 1 => if firstN p n < n then firstN p n else if p n then n else n + 1
theorem firstN_le (p : Nat → Bool) : ∀ n, firstN p n ≤ n
  | 0 => Nat.le_refl _
  | n + 1 => by
    have := firstN_le p n
    rw [firstN]; split
    · omega
    · split <;> omega
theorem firstN_none {p : Nat → Bool} : ∀ {n : Nat}, (∀ i, i < n → p i = false) → firstN p n = n
  | 0, _ => rfl
  | n + 1, h => by
    have h1 := firstN_none (p := p) (n := n) (fun i hi => h i (by omega))
    rw [firstN, if_neg (by omega), if_neg (by rw [h n (by omega)]; simp)]
theorem firstN_at {p : Nat → Bool} {k : Nat} (h : ∀ i, i < k → p i = false) (hk : p k = true) : ∀ {n : Nat}, k < n → firstN p n = k
  | 0, h0 => absurd h0 (Nat.not_lt_zero k)
  | n + 1, h0 => by
    by_cases he : k = n
    · subst he
      have h1 := firstN_none (p := p) (n := k) h
      rw [firstN, if_neg (by omega), if_pos hk]
    · have h1 := firstN_at h hk (n := n) (by omega)
      rw [firstN, if_pos (by omega), h1]
theorem firstN_spec {p : Nat → Bool} : ∀ {n : Nat}, (∀ i, i < firstN p n → p i = false) ∧ (firstN p n < n → p (firstN p n) = true)
  | 0 => ⟨fun i hi => absurd hi (Nat.not_lt_zero i), fun h => absurd h (Nat.not_lt_zero _)⟩
  | n + 1 => by
    obtain ⟨h1, h2⟩ := firstN_spec (p := p) (n := n)
    have hl := firstN_le p n
    rw [firstN]
    split
    · rename_i h; exact ⟨h1, fun _ => h2 h⟩
    · rename_i h
      have he : firstN p n = n := by omega
      rw [he] at h1
      split
      · rename_i h3; exact ⟨h1, fun _ => h3⟩
      · rename_i h3
        refine ⟨fun i hi => ?_, fun h => absurd h (Nat.lt_irrefl _)⟩
        rcases Nat.lt_or_ge i n with h4 | h4
        · exact h1 i h4
        · obtain rfl : i = n := by omega
          simpa using h3
/-- A row is too wide. -/
def rowBad (g : Gl) (k : Nat) : Bool := !inB (intD g.rows k) 0 (2 ^ g.wide.toNat - 1)
def rowsBad (g : Gl) : Bool := decide (firstN (rowBad g) g.rows.length < g.rows.length)
def twice (l : List Gl) (i : Nat) : Bool := decide (firstN (fun k => sameS (glD l k).text (glD l i).text) i < i)
def glE (F : Font) (i : Nat) : Int :=
  if lettersS (glD F.glyphs i).text 3 = false then 6 else if twice F.glyphs i then 5 else if inB (glD F.glyphs i).wide 1 12 = false then 7
  else if ((glD F.glyphs i).rows.length : Int) ≠ F.high then 2 else if rowsBad (glD F.glyphs i) then 7 else 0
def twiceK (l : List Kn) (i : Nat) : Bool := decide (firstN (fun k => decide ((knD l k).left = (knD l i).left ∧ (knD l k).right = (knD l i).right)) i < i)
def knE (F : Font) (i : Nat) : Int :=
  if (inB (knD F.kerns i).left 0 (F.glyphs.length - 1) && inB (knD F.kerns i).right 0 (F.glyphs.length - 1)) = false then 4 else if twiceK F.kerns i then 5
  else if inB (knD F.kerns i).by_ (-12) 12 = false then 7 else if (glD F.glyphs (knD F.kerns i).left.toNat).wide + (knD F.kerns i).by_ < 1 then 2 else 0
def checkF (F : Font) : Int × Int × Int :=
  if (inB F.high 1 16 && inB F.space 1 20) = false then (1, 0, 7) else if (inB (F.glyphs.length : Int) 1 60 && decide (F.kerns.length ≤ 60)) = false then (1, 0, 3)
  else if firstN (fun i => glE F i != 0) F.glyphs.length < F.glyphs.length then (2, (firstN (fun i => glE F i != 0) F.glyphs.length : Nat), glE F (firstN (fun i => glE F i != 0) F.glyphs.length))
  else if firstN (fun i => knE F i != 0) F.kerns.length < F.kerns.length then (3, (firstN (fun i => knE F i != 0) F.kerns.length : Nat), knE F (firstN (fun i => knE F i != 0) F.kerns.length))
  else (0, 0, 0)
end Go.Proofs.YtahgbecfaihfpaaDoor.D
namespace Go.Proofs.YtahgbecfaihfpaaDoor
open Go.RowKit D
def glC (l : List Gl) (rs : Nat → Sl) (i : Nat) : Nat → Value
  | 0 => .string (glD l i).text
  | 1 => .int .i64 (glD l i).wide
  | _ => .slice (rs i).a (glD l i).rows.length (rs i).cap
def knC (l : List Kn) (i : Nat) : Nat → Value
  | 0 => .int .i64 (knD l i).left
  | 1 => .int .i64 (knD l i).right
  | _ => .int .i64 (knD l i).by_
structure FSl where
  g : Sl
  rs : Nat → Sl
  k : Sl
structure GlsAt (w : World) (l : List Gl) (g : Sl) (rs : Nat → Sl) : Prop where
  gl : RowS w g 3 l.length (glC l rs)
  rows : ∀ i, i < l.length → IntsS w (rs i) (glD l i).rows
  size : ∀ i, i < l.length → (glD l i).text.size ≤ maxLen
structure FontAt (w : World) (F : Font) (s : FSl) : Prop where
  gls : GlsAt w F.glyphs s.g s.rs
  kn : RowS w s.k 3 F.kerns.length (knC F.kerns)
theorem GlsAt.below {w w' : World} {l : List Gl} {g : Sl} {rs : Nat → Sl} (h : GlsAt w l g rs) (hb : Below w.heap.size w w') : GlsAt w' l g rs := ⟨h.gl.below hb, fun i hi => (h.rows i hi).below hb, h.size⟩
theorem FontAt.below {w w' : World} {F : Font} {s : FSl} (h : FontAt w F s) (hb : Below w.heap.size w w') : FontAt w' F s := ⟨h.gls.below hb, h.kn.below hb⟩
theorem gl_cells {w : World} {l : List Gl} {g : Sl} {rs : Nat → Sl} (h : RowS w g 3 l.length (glC l rs)) {i : Nat} (hi : i < l.length) :
    ∃ b off, g.a = some ⟨b, off, none⟩ ∧ w.cell? ⟨b, off + i * 3, none⟩ = some (.string (glD l i).text) ∧ w.cell? ⟨b, off + i * 3 + 1, none⟩ = some (.int .i64 (glD l i).wide) ∧ w.cell? ⟨b, off + i * 3 + 2, none⟩ = some (.slice (rs i).a (glD l i).rows.length (rs i).cap) := by
  obtain ⟨b, off, ha, h0⟩ := h.cell i 0 hi (by omega)
  obtain ⟨b1, off1, ha1, h1⟩ := h.cell i 1 hi (by omega)
  obtain ⟨b2, off2, ha2, h2⟩ := h.cell i 2 hi (by omega)
  rw [ha] at ha1 ha2
  obtain ⟨rfl, rfl⟩ : b = b1 ∧ off = off1 := by simpa using ha1
  obtain ⟨rfl, rfl⟩ : b = b2 ∧ off = off2 := by simpa using ha2
  exact ⟨b, off, ha, h0, h1, h2⟩
theorem kn_cells {w : World} {l : List Kn} {g : Sl} (h : RowS w g 3 l.length (knC l)) {i : Nat} (hi : i < l.length) :
    ∃ b off, g.a = some ⟨b, off, none⟩ ∧ w.cell? ⟨b, off + i * 3, none⟩ = some (.int .i64 (knD l i).left) ∧ w.cell? ⟨b, off + i * 3 + 1, none⟩ = some (.int .i64 (knD l i).right) ∧ w.cell? ⟨b, off + i * 3 + 2, none⟩ = some (.int .i64 (knD l i).by_) := by
  obtain ⟨b, off, ha, h0⟩ := h.cell i 0 hi (by omega)
  obtain ⟨b1, off1, ha1, h1⟩ := h.cell i 1 hi (by omega)
  obtain ⟨b2, off2, ha2, h2⟩ := h.cell i 2 hi (by omega)
  rw [ha] at ha1 ha2
  obtain ⟨rfl, rfl⟩ : b = b1 ∧ off = off1 := by simpa using ha1
  obtain ⟨rfl, rfl⟩ : b = b2 ∧ off = off2 := by simpa using ha2
  exact ⟨b, off, ha, h0, h1, h2⟩
theorem int_cell {w : World} {s : Sl} {l : List Int} (h : IntsS w s l) {i : Nat} (hi : i < l.length) : ∃ b off, s.a = some ⟨b, off, none⟩ ∧ w.cell? ⟨b, off + i, none⟩ = some (.int .i64 (intD l i)) := by
  obtain ⟨b, off, ha, h0⟩ := h.cell i 0 hi (by omega)
  rw [Nat.mul_one, Nat.add_zero] at h0
  exact ⟨b, off, ha, h0⟩
end Go.Proofs.YtahgbecfaihfpaaDoor
