/-
  Views of the slices of bench; reels and tasks in memory.
-/
import Derived.Test.YtapeakbngligaaaGreatDoorBKit
import Derived.Test.YtapeakbngligaaaGreatDoorBPlA
namespace Go.Proofs.YtapeakbngligaaaGreatDoor
open Go.RowKit D
set_option linter.unusedVariables false
set_option linter.unusedSimpArgs false
attribute [local go_sem high] run_minI run_maxI
theorem RowS.at {w : World} {s : Sl} {sz n : Nat} {c : Nat → Nat → Value} (h : RowS w s sz n c) (hz : 0 < sz) {i : Nat} (hi : i < n) : ∃ b off, s.a = some ⟨b, off, none⟩ ∧ ∀ j, j < sz → w.cell? ⟨b, off + i * sz + j, none⟩ = some (c i j) := by
  obtain ⟨b, off, ha, -⟩ := h.cell i 0 hi hz
  refine ⟨b, off, ha, fun j hj => ?_⟩
  obtain ⟨b', off', ha', h1⟩ := h.cell i j hi hj
  rw [ha] at ha'
  obtain ⟨rfl, rfl⟩ : b = b' ∧ off = off' := by simpa using ha'
  exact h1
def mkC (l : List D.Mark) (i j : Nat) : Value := match j with | 0 => .int .i64 (mkD l i).frame | 1 => .int .i64 (mkD l i).roll | _ => .int .i64 (mkD l i).number
def syC (l : List Sym) (i j : Nat) : Value := match j with | 0 => .int .i64 (syD l i).roll | _ => .int .i64 (syD l i).code
def lnC (l : List Len) (i j : Nat) : Value := match j with | 0 => .int .i64 (lnD l i).frames | 1 => .int .i64 (lnD l i).micro | _ => .int .i64 (lnD l i).err
def ntC (l : List Note) (i j : Nat) : Value := match j with | 0 => .string (ntD l i).by_ | 1 => .int .i64 (ntD l i).number | 2 => .int .i64 (ntD l i).rev | 3 => .int .i64 (ntD l i).kind | 4 => .int .i64 (ntD l i).from_ | 5 => .int .i64 (ntD l i).until_ | 6 => .int .i64 (ntD l i).mlo | _ => .int .i64 (ntD l i).mhi
def gpC (l : List Gap) (i j : Nat) : Value := match j with | 0 => .int .i64 (gpD l i).frame | 1 => .int .i64 (gpD l i).kind | 2 => .int .i64 (gpD l i).lo | _ => .int .i64 (gpD l i).hi
def pcC (l : List Piece) (i j : Nat) : Value := match j with | 0 => .int .i64 (pcD l i).from_ | 1 => .int .i64 (pcD l i).until_ | _ => .bool (pcD l i).leader
def spC (l : List Span) (i j : Nat) : Value := match j with | 0 => .int .i64 (spD l i).lo | _ => .int .i64 (spD l i).hi
def skD (l : List Strike) (i : Nat) : Strike := l.getD i default
def skC (l : List Strike) (i j : Nat) : Value := match j with | 0 => .string (skD l i).by_ | 1 => .int .i64 (skD l i).number | 2 => .string (skD l i).first | _ => .int .i64 (skD l i).firstN
abbrev MarksS (w : World) (s : Sl) (l : List D.Mark) : Prop := RowS w s 3 l.length (mkC l)
abbrev SymsS (w : World) (s : Sl) (l : List Sym) : Prop := RowS w s 2 l.length (syC l)
abbrev LensS (w : World) (s : Sl) (l : List Len) : Prop := RowS w s 3 l.length (lnC l)
abbrev NotesS (w : World) (s : Sl) (l : List Note) : Prop := RowS w s 8 l.length (ntC l)
abbrev GapsS (w : World) (s : Sl) (l : List Gap) : Prop := RowS w s 4 l.length (gpC l)
abbrev PiecesS (w : World) (s : Sl) (l : List Piece) : Prop := RowS w s 3 l.length (pcC l)
abbrev SpansS (w : World) (s : Sl) (l : List Span) : Prop := RowS w s 2 l.length (spC l)
abbrev StrikesS (w : World) (s : Sl) (l : List Strike) : Prop := RowS w s 4 l.length (skC l)
theorem mk_cells {w : World} {s : Sl} {l : List D.Mark} (h : MarksS w s l) {i : Nat} (hi : i < l.length) : ∃ b off, s.a = some ⟨b, off, none⟩ ∧ w.cell? ⟨b, off + i * 3, none⟩ = some (.int .i64 (mkD l i).frame) ∧ w.cell? ⟨b, off + i * 3 + 1, none⟩ = some (.int .i64 (mkD l i).roll) ∧ w.cell? ⟨b, off + i * 3 + 2, none⟩ = some (.int .i64 (mkD l i).number) := by
  obtain ⟨b, off, ha, h⟩ := h.at (by omega) hi
  exact ⟨b, off, ha, h 0 (by omega), h 1 (by omega), h 2 (by omega)⟩
theorem sy_cells {w : World} {s : Sl} {l : List Sym} (h : SymsS w s l) {i : Nat} (hi : i < l.length) : ∃ b off, s.a = some ⟨b, off, none⟩ ∧ w.cell? ⟨b, off + i * 2, none⟩ = some (.int .i64 (syD l i).roll) ∧ w.cell? ⟨b, off + i * 2 + 1, none⟩ = some (.int .i64 (syD l i).code) := by
  obtain ⟨b, off, ha, h⟩ := h.at (by omega) hi
  exact ⟨b, off, ha, h 0 (by omega), h 1 (by omega)⟩
theorem ln_cells {w : World} {s : Sl} {l : List Len} (h : LensS w s l) {i : Nat} (hi : i < l.length) : ∃ b off, s.a = some ⟨b, off, none⟩ ∧ w.cell? ⟨b, off + i * 3, none⟩ = some (.int .i64 (lnD l i).frames) ∧ w.cell? ⟨b, off + i * 3 + 1, none⟩ = some (.int .i64 (lnD l i).micro) ∧ w.cell? ⟨b, off + i * 3 + 2, none⟩ = some (.int .i64 (lnD l i).err) := by
  obtain ⟨b, off, ha, h⟩ := h.at (by omega) hi
  exact ⟨b, off, ha, h 0 (by omega), h 1 (by omega), h 2 (by omega)⟩
theorem nt_cells {w : World} {s : Sl} {l : List Note} (h : NotesS w s l) {i : Nat} (hi : i < l.length) : ∃ b off, s.a = some ⟨b, off, none⟩ ∧ w.cell? ⟨b, off + i * 8, none⟩ = some (.string (ntD l i).by_) ∧ w.cell? ⟨b, off + i * 8 + 1, none⟩ = some (.int .i64 (ntD l i).number) ∧ w.cell? ⟨b, off + i * 8 + 2, none⟩ = some (.int .i64 (ntD l i).rev) ∧ w.cell? ⟨b, off + i * 8 + 3, none⟩ = some (.int .i64 (ntD l i).kind) ∧ w.cell? ⟨b, off + i * 8 + 4, none⟩ = some (.int .i64 (ntD l i).from_) ∧ w.cell? ⟨b, off + i * 8 + 5, none⟩ = some (.int .i64 (ntD l i).until_) ∧ w.cell? ⟨b, off + i * 8 + 6, none⟩ = some (.int .i64 (ntD l i).mlo) ∧ w.cell? ⟨b, off + i * 8 + 7, none⟩ = some (.int .i64 (ntD l i).mhi) := by
  obtain ⟨b, off, ha, h⟩ := h.at (by omega) hi
  exact ⟨b, off, ha, h 0 (by omega), h 1 (by omega), h 2 (by omega), h 3 (by omega), h 4 (by omega), h 5 (by omega), h 6 (by omega), h 7 (by omega)⟩
theorem gp_cells {w : World} {s : Sl} {l : List Gap} (h : GapsS w s l) {i : Nat} (hi : i < l.length) : ∃ b off, s.a = some ⟨b, off, none⟩ ∧ w.cell? ⟨b, off + i * 4, none⟩ = some (.int .i64 (gpD l i).frame) ∧ w.cell? ⟨b, off + i * 4 + 1, none⟩ = some (.int .i64 (gpD l i).kind) ∧ w.cell? ⟨b, off + i * 4 + 2, none⟩ = some (.int .i64 (gpD l i).lo) ∧ w.cell? ⟨b, off + i * 4 + 3, none⟩ = some (.int .i64 (gpD l i).hi) := by
  obtain ⟨b, off, ha, h⟩ := h.at (by omega) hi
  exact ⟨b, off, ha, h 0 (by omega), h 1 (by omega), h 2 (by omega), h 3 (by omega)⟩
theorem pc_cells {w : World} {s : Sl} {l : List Piece} (h : PiecesS w s l) {i : Nat} (hi : i < l.length) : ∃ b off, s.a = some ⟨b, off, none⟩ ∧ w.cell? ⟨b, off + i * 3, none⟩ = some (.int .i64 (pcD l i).from_) ∧ w.cell? ⟨b, off + i * 3 + 1, none⟩ = some (.int .i64 (pcD l i).until_) ∧ w.cell? ⟨b, off + i * 3 + 2, none⟩ = some (.bool (pcD l i).leader) := by
  obtain ⟨b, off, ha, h⟩ := h.at (by omega) hi
  exact ⟨b, off, ha, h 0 (by omega), h 1 (by omega), h 2 (by omega)⟩
theorem sp_cells {w : World} {s : Sl} {l : List Span} (h : SpansS w s l) {i : Nat} (hi : i < l.length) : ∃ b off, s.a = some ⟨b, off, none⟩ ∧ w.cell? ⟨b, off + i * 2, none⟩ = some (.int .i64 (spD l i).lo) ∧ w.cell? ⟨b, off + i * 2 + 1, none⟩ = some (.int .i64 (spD l i).hi) := by
  obtain ⟨b, off, ha, h⟩ := h.at (by omega) hi
  exact ⟨b, off, ha, h 0 (by omega), h 1 (by omega)⟩
theorem sk_cells {w : World} {s : Sl} {l : List Strike} (h : StrikesS w s l) {i : Nat} (hi : i < l.length) : ∃ b off, s.a = some ⟨b, off, none⟩ ∧ w.cell? ⟨b, off + i * 4, none⟩ = some (.string (skD l i).by_) ∧ w.cell? ⟨b, off + i * 4 + 1, none⟩ = some (.int .i64 (skD l i).number) ∧ w.cell? ⟨b, off + i * 4 + 2, none⟩ = some (.string (skD l i).first) ∧ w.cell? ⟨b, off + i * 4 + 3, none⟩ = some (.int .i64 (skD l i).firstN) := by
  obtain ⟨b, off, ha, h⟩ := h.at (by omega) hi
  exact ⟨b, off, ha, h 0 (by omega), h 1 (by omega), h 2 (by omega), h 3 (by omega)⟩
theorem getD_app1 {α : Type} {l : List α} {x d : α} {j : Nat} (hj : j < l.length + 1) : (l ++ [x]).getD j d = if j = l.length then x else l.getD j d := by
  by_cases h : j = l.length
  · subst h; simp
  · rw [if_neg h, List.getD_eq_getElem?_getD, List.getD_eq_getElem?_getD, List.getElem?_append_left (by omega)]
theorem ntC_snoc {L : List Note} {x : Note} {p q : Nat} (hp : p < L.length + 1) (hq : q < 8) : upd (ntC L) L.length [.string x.by_, .int .i64 x.number, .int .i64 x.rev, .int .i64 x.kind, .int .i64 x.from_, .int .i64 x.until_, .int .i64 x.mlo, .int .i64 x.mhi] p q = ntC (L ++ [x]) p q := by
  have hj : ntD (L ++ [x]) p = if p = L.length then x else ntD L p := getD_app1 hp
  by_cases h : p = L.length
  · subst h
    rw [upd_at]
    rw [if_pos rfl] at hj
    rcases (by omega : q = 0 ∨ q = 1 ∨ q = 2 ∨ q = 3 ∨ q = 4 ∨ q = 5 ∨ q = 6 ∨ q = 7) with rfl | rfl | rfl | rfl | rfl | rfl | rfl | rfl <;> simp only [ntC, hj] <;> rfl
  · rw [upd_lt (by omega)]
    rw [if_neg h] at hj
    rcases (by omega : q = 0 ∨ q = 1 ∨ q = 2 ∨ q = 3 ∨ q = 4 ∨ q = 5 ∨ q = 6 ∨ q = 7) with rfl | rfl | rfl | rfl | rfl | rfl | rfl | rfl <;> simp only [ntC, hj]
theorem ntC_one (l : List Note) (i j : Nat) : (ntC l i j).oneCell' = true := by unfold ntC; split <;> rfl
theorem own_nt {w : World} {base : Nat} {e : TypeId} {v : Value} {L : List Note} {x : Note} (h : OwnR w base e 8 v (L.length + 1) (upd (ntC L) L.length [.string x.by_, .int .i64 x.number, .int .i64 x.rev, .int .i64 x.kind, .int .i64 x.from_, .int .i64 x.until_, .int .i64 x.mlo, .int .i64 x.mhi])) : OwnR w base e 8 v (L ++ [x]).length (ntC (L ++ [x])) := by
  rw [List.length_append, List.length_singleton]; exact OwnR.congr h fun i j hi hj => ntC_snoc hi hj
theorem gpC_snoc {L : List Gap} {x : Gap} {p q : Nat} (hp : p < L.length + 1) (hq : q < 4) : upd (gpC L) L.length [.int .i64 x.frame, .int .i64 x.kind, .int .i64 x.lo, .int .i64 x.hi] p q = gpC (L ++ [x]) p q := by
  have hj : gpD (L ++ [x]) p = if p = L.length then x else gpD L p := getD_app1 hp
  by_cases h : p = L.length
  · subst h
    rw [upd_at]
    rw [if_pos rfl] at hj
    rcases (by omega : q = 0 ∨ q = 1 ∨ q = 2 ∨ q = 3) with rfl | rfl | rfl | rfl <;> simp only [gpC, hj] <;> rfl
  · rw [upd_lt (by omega)]
    rw [if_neg h] at hj
    rcases (by omega : q = 0 ∨ q = 1 ∨ q = 2 ∨ q = 3) with rfl | rfl | rfl | rfl <;> simp only [gpC, hj]
theorem gpC_one (l : List Gap) (i j : Nat) : (gpC l i j).oneCell' = true := by unfold gpC; split <;> rfl
theorem own_gp {w : World} {base : Nat} {e : TypeId} {v : Value} {L : List Gap} {x : Gap} (h : OwnR w base e 4 v (L.length + 1) (upd (gpC L) L.length [.int .i64 x.frame, .int .i64 x.kind, .int .i64 x.lo, .int .i64 x.hi])) : OwnR w base e 4 v (L ++ [x]).length (gpC (L ++ [x])) := by
  rw [List.length_append, List.length_singleton]; exact OwnR.congr h fun i j hi hj => gpC_snoc hi hj
theorem pcC_snoc {L : List Piece} {x : Piece} {p q : Nat} (hp : p < L.length + 1) (hq : q < 3) : upd (pcC L) L.length [.int .i64 x.from_, .int .i64 x.until_, .bool x.leader] p q = pcC (L ++ [x]) p q := by
  have hj : pcD (L ++ [x]) p = if p = L.length then x else pcD L p := getD_app1 hp
  by_cases h : p = L.length
  · subst h
    rw [upd_at]
    rw [if_pos rfl] at hj
    rcases (by omega : q = 0 ∨ q = 1 ∨ q = 2) with rfl | rfl | rfl <;> simp only [pcC, hj] <;> rfl
  · rw [upd_lt (by omega)]
    rw [if_neg h] at hj
    rcases (by omega : q = 0 ∨ q = 1 ∨ q = 2) with rfl | rfl | rfl <;> simp only [pcC, hj]
theorem own_pc {w : World} {base : Nat} {e : TypeId} {v : Value} {L : List Piece} {x : Piece} (h : OwnR w base e 3 v (L.length + 1) (upd (pcC L) L.length [.int .i64 x.from_, .int .i64 x.until_, .bool x.leader])) : OwnR w base e 3 v (L ++ [x]).length (pcC (L ++ [x])) := by
  rw [List.length_append, List.length_singleton]; exact OwnR.congr h fun i j hi hj => pcC_snoc hi hj
theorem spC_snoc {L : List Span} {x : Span} {p q : Nat} (hp : p < L.length + 1) (hq : q < 2) : upd (spC L) L.length [.int .i64 x.lo, .int .i64 x.hi] p q = spC (L ++ [x]) p q := by
  have hj : spD (L ++ [x]) p = if p = L.length then x else spD L p := getD_app1 hp
  by_cases h : p = L.length
  · subst h
    rw [upd_at]
    rw [if_pos rfl] at hj
    rcases (by omega : q = 0 ∨ q = 1) with rfl | rfl <;> simp only [spC, hj] <;> rfl
  · rw [upd_lt (by omega)]
    rw [if_neg h] at hj
    rcases (by omega : q = 0 ∨ q = 1) with rfl | rfl <;> simp only [spC, hj]
theorem own_sp {w : World} {base : Nat} {e : TypeId} {v : Value} {L : List Span} {x : Span} (h : OwnR w base e 2 v (L.length + 1) (upd (spC L) L.length [.int .i64 x.lo, .int .i64 x.hi])) : OwnR w base e 2 v (L ++ [x]).length (spC (L ++ [x])) := by
  rw [List.length_append, List.length_singleton]; exact OwnR.congr h fun i j hi hj => spC_snoc hi hj
theorem skC_snoc {L : List Strike} {x : Strike} {p q : Nat} (hp : p < L.length + 1) (hq : q < 4) : upd (skC L) L.length [.string x.by_, .int .i64 x.number, .string x.first, .int .i64 x.firstN] p q = skC (L ++ [x]) p q := by
  have hj : skD (L ++ [x]) p = if p = L.length then x else skD L p := getD_app1 hp
  by_cases h : p = L.length
  · subst h
    rw [upd_at]
    rw [if_pos rfl] at hj
    rcases (by omega : q = 0 ∨ q = 1 ∨ q = 2 ∨ q = 3) with rfl | rfl | rfl | rfl <;> simp only [skC, hj] <;> rfl
  · rw [upd_lt (by omega)]
    rw [if_neg h] at hj
    rcases (by omega : q = 0 ∨ q = 1 ∨ q = 2 ∨ q = 3) with rfl | rfl | rfl | rfl <;> simp only [skC, hj]
theorem skC_one (l : List Strike) (i j : Nat) : (skC l i j).oneCell' = true := by unfold skC; split <;> rfl
theorem own_sk {w : World} {base : Nat} {e : TypeId} {v : Value} {L : List Strike} {x : Strike} (h : OwnR w base e 4 v (L.length + 1) (upd (skC L) L.length [.string x.by_, .int .i64 x.number, .string x.first, .int .i64 x.firstN])) : OwnR w base e 4 v (L ++ [x]).length (skC (L ++ [x])) := by
  rw [List.length_append, List.length_singleton]; exact OwnR.congr h fun i j hi hj => skC_snoc hi hj
structure RSl where
  m : Sl
  s : Sl
  l : Sl
structure TSl where
  r : RSl
  n : Sl
structure ReelAt (w : World) (R : Reel) (r : RSl) : Prop where
  mks : MarksS w r.m R.marks
  sy : SymsS w r.s R.syms
  ln : LensS w r.l R.lens
  size : R.name.size ≤ maxLen
structure TaskAt (w : World) (T : Task) (t : TSl) : Prop where
  reel : ReelAt w T.reel t.r
  nt : NotesS w t.n T.notes
  sizes : ∀ x ∈ T.notes, x.by_.size ≤ maxLen
theorem ReelAt.below {w w' : World} {R : Reel} {r : RSl} (h : ReelAt w R r) (hb : Below w.heap.size w w') : ReelAt w' R r := ⟨h.mks.below hb, h.sy.below hb, h.ln.below hb, h.size⟩
theorem TaskAt.below {w w' : World} {T : Task} {t : TSl} (h : TaskAt w T t) (hb : Below w.heap.size w w') : TaskAt w' T t := ⟨h.reel.below hb, h.nt.below hb, h.sizes⟩
theorem elNote : Elem Tryz.prog 29 58 (.agg #[.string ByteArray.empty, .int .i64 0, .int .i64 0, .int .i64 0, .int .i64 0, .int .i64 0, .int .i64 0, .int .i64 0]) 8 72 := ⟨by kernel_rfl, by kernel_rfl, rfl, by omega, by omega⟩
theorem elGap : Elem Tryz.prog 44 49 (.agg #[.int .i64 0, .int .i64 0, .int .i64 0, .int .i64 0]) 4 32 := ⟨by kernel_rfl, by kernel_rfl, rfl, by omega, by omega⟩
theorem elSpan : Elem Tryz.prog 73 23 (.agg #[.int .i64 0, .int .i64 0]) 2 16 := ⟨by kernel_rfl, by kernel_rfl, rfl, by omega, by omega⟩
theorem elStrike : Elem Tryz.prog 45 63 (.agg #[.string ByteArray.empty, .int .i64 0, .string ByteArray.empty, .int .i64 0]) 4 48 := ⟨by kernel_rfl, by kernel_rfl, rfl, by omega, by omega⟩
theorem elBool : Elem Tryz.prog 120 4 (.bool false) 1 1 := ⟨by kernel_rfl, by kernel_rfl, rfl, by omega, by omega⟩
end Go.Proofs.YtapeakbngligaaaGreatDoor
