/-
  Where a site lies.
-/
import Derived.Test.YtfpaihjcbpaneaaGreatDoorVBase
import Derived.Test.YtfpaihjcbpaneaaGreatDoorVPlA
import Derived.Test.YtfpaihjcbpaneaaGreatDoorDMem
namespace Go.Proofs.YtfpaihjcbpaneaaGreatDoor
open Go.RowKit D
def rmC (l : List Rm) (i : Nat) : Nat → Value
  | 0 => .string (rmD l i).name
  | 1 => .int .i64 (rmD l i).tlo
  | 2 => .int .i64 (rmD l i).thi
  | 3 => .int .i64 (rmD l i).dlo
  | 4 => .int .i64 (rmD l i).dhi
  | 5 => .bool (rmD l i).people
  | 6 => .bool (rmD l i).allows
  | 7 => .int .i64 (rmD l i).most
  | 8 => .int .i64 (rmD l i).x
  | _ => .int .i64 (rmD l i).y
def cnC (l : List Cn) (i : Nat) : Nat → Value
  | 0 => .string (cnD l i).name
  | 1 => .int .i64 (cnD l i).base
  | 2 => .int .i64 (cnD l i).frames
  | _ => .int .i64 (cnD l i).room
def stC (l : List Stp) (i : Nat) : Nat → Value
  | 0 => .int .i64 (stD l i).over
  | _ => .int .i64 (stD l i).metres
def mvC (l : List Mv) (i : Nat) : Nat → Value
  | 0 => .int .i64 (mvD l i).hour
  | 1 => .int .i64 (mvD l i).can
  | _ => .int .i64 (mvD l i).to_
def syC (l : List Sty) (i : Nat) : Nat → Value
  | 0 => .int .i64 (syD l i).room
  | _ => .int .i64 (syD l i).hours
def nrC (l : List Nr) (i : Nat) : Nat → Value
  | 0 => .int .i64 (nrD l i).a
  | _ => .int .i64 (nrD l i).b
def dyC (l : List Day) (i : Nat) : Nat → Value
  | 0 => .int .i64 (dyD l i).tlo
  | 1 => .int .i64 (dyD l i).thi
  | 2 => .int .i64 (dyD l i).dlo
  | _ => .int .i64 (dyD l i).dhi
structure SSl where
  r : Sl
  c : Sl
  p : Sl
abbrev RoomsS (w : World) (s : Sl) (l : List Rm) : Prop := RowS w s 10 l.length (rmC l)
abbrev CansS (w : World) (s : Sl) (l : List Cn) : Prop := RowS w s 4 l.length (cnC l)
abbrev StepsS (w : World) (s : Sl) (l : List Stp) : Prop := RowS w s 2 l.length (stC l)
abbrev MovesS (w : World) (s : Sl) (l : List Mv) : Prop := RowS w s 3 l.length (mvC l)
structure SiteAt (w : World) (S : Site) (s : SSl) : Prop where
  rm : RoomsS w s.r S.rooms
  cn : CansS w s.c S.cans
  st : StepsS w s.p S.steps
  rsize : ∀ i, i < S.rooms.length → (rmD S.rooms i).name.size ≤ maxLen
  csize : ∀ i, i < S.cans.length → (cnD S.cans i).name.size ≤ maxLen
theorem SiteAt.below {w w' : World} {S : Site} {s : SSl} (h : SiteAt w S s) (hb : Below w.heap.size w w') : SiteAt w' S s := ⟨h.rm.below hb, h.cn.below hb, h.st.below hb, h.rsize, h.csize⟩
theorem st_cells {w : World} {l : List Stp} {g : Sl} (h : StepsS w g l) {i : Nat} (hi : i < l.length) :
    ∃ b off, g.a = some ⟨b, off, none⟩ ∧ w.cell? ⟨b, off + i * 2, none⟩ = some (.int .i64 (stD l i).over) ∧ w.cell? ⟨b, off + i * 2 + 1, none⟩ = some (.int .i64 (stD l i).metres) := by
  obtain ⟨b, off, ha, h0⟩ := h.cell i 0 hi (by omega)
  obtain ⟨b1, off1, ha1, h1⟩ := h.cell i 1 hi (by omega)
  rw [ha] at ha1
  obtain ⟨rfl, rfl⟩ : b = b1 ∧ off = off1 := by simpa using ha1
  exact ⟨b, off, ha, h0, h1⟩
theorem mv_cells {w : World} {l : List Mv} {g : Sl} (h : MovesS w g l) {i : Nat} (hi : i < l.length) :
    ∃ b off, g.a = some ⟨b, off, none⟩ ∧ w.cell? ⟨b, off + i * 3, none⟩ = some (.int .i64 (mvD l i).hour) ∧ w.cell? ⟨b, off + i * 3 + 1, none⟩ = some (.int .i64 (mvD l i).can) ∧ w.cell? ⟨b, off + i * 3 + 2, none⟩ = some (.int .i64 (mvD l i).to_) := by
  obtain ⟨b, off, ha, h0⟩ := h.cell i 0 hi (by omega)
  obtain ⟨b1, off1, ha1, h1⟩ := h.cell i 1 hi (by omega)
  obtain ⟨b2, off2, ha2, h2⟩ := h.cell i 2 hi (by omega)
  rw [ha] at ha1 ha2
  obtain ⟨rfl, rfl⟩ : b = b1 ∧ off = off1 := by simpa using ha1
  obtain ⟨rfl, rfl⟩ : b = b2 ∧ off = off2 := by simpa using ha2
  exact ⟨b, off, ha, h0, h1, h2⟩
theorem cn_cells {w : World} {l : List Cn} {g : Sl} (h : CansS w g l) {i : Nat} (hi : i < l.length) :
    ∃ b off, g.a = some ⟨b, off, none⟩ ∧ w.cell? ⟨b, off + i * 4, none⟩ = some (.string (cnD l i).name) ∧ w.cell? ⟨b, off + i * 4 + 1, none⟩ = some (.int .i64 (cnD l i).base) ∧ w.cell? ⟨b, off + i * 4 + 2, none⟩ = some (.int .i64 (cnD l i).frames) ∧ w.cell? ⟨b, off + i * 4 + 3, none⟩ = some (.int .i64 (cnD l i).room) := by
  obtain ⟨b, off, ha, hc⟩ := h.row (by omega) (by omega)
  exact ⟨b, off, ha, hc.2 i 0 hi (by omega), hc.2 i 1 hi (by omega), hc.2 i 2 hi (by omega), hc.2 i 3 hi (by omega)⟩
structure RmCells (w : World) (l : List Rm) (b off i : Nat) : Prop where
  c0 : w.cell? ⟨b, off + i * 10, none⟩ = some (.string (rmD l i).name)
  c1 : w.cell? ⟨b, off + i * 10 + 1, none⟩ = some (.int .i64 (rmD l i).tlo)
  c2 : w.cell? ⟨b, off + i * 10 + 2, none⟩ = some (.int .i64 (rmD l i).thi)
  c3 : w.cell? ⟨b, off + i * 10 + 3, none⟩ = some (.int .i64 (rmD l i).dlo)
  c4 : w.cell? ⟨b, off + i * 10 + 4, none⟩ = some (.int .i64 (rmD l i).dhi)
  c5 : w.cell? ⟨b, off + i * 10 + 5, none⟩ = some (.bool (rmD l i).people)
  c6 : w.cell? ⟨b, off + i * 10 + 6, none⟩ = some (.bool (rmD l i).allows)
  c7 : w.cell? ⟨b, off + i * 10 + 7, none⟩ = some (.int .i64 (rmD l i).most)
  c8 : w.cell? ⟨b, off + i * 10 + 8, none⟩ = some (.int .i64 (rmD l i).x)
  c9 : w.cell? ⟨b, off + i * 10 + 9, none⟩ = some (.int .i64 (rmD l i).y)
theorem rm_cells {w : World} {l : List Rm} {g : Sl} (h : RoomsS w g l) {i : Nat} (hi : i < l.length) : ∃ b off, g.a = some ⟨b, off, none⟩ ∧ RmCells w l b off i := by
  obtain ⟨b, off, ha, hc⟩ := h.row (by omega) (by omega)
  have c := fun j (hj : j < 10) => hc.2 i j hi hj
  exact ⟨b, off, ha, c 0 (by omega), c 1 (by omega), c 2 (by omega), c 3 (by omega), c 4 (by omega), c 5 (by omega), c 6 (by omega), c 7 (by omega), c 8 (by omega), c 9 (by omega)⟩
end Go.Proofs.YtfpaihjcbpaneaaGreatDoor
