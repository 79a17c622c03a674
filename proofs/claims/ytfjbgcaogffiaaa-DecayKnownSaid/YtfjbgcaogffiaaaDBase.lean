/-
  What the walks of the decay seat share: laws on min and max, views of slices in memory.
-/
import Derived.Test.YtfjbgcaogffiaaaProg
import Derived.WalkKit
import Derived.WalkLawsBesides
import Derived.WalkSpells
import Derived.BigRegion
import Derived.Deep.QuietTactic
import Derived.BigQuiet
import Derived.Lib.Hide
import Derived.Deep.DeepFit
import Derived.Deep.RegionHeld3
import Derived.Deep.RegionHeld2
import Derived.Deep.DrawnRows

import Derived.Test.YtfjbgcaogffiaaaDPlainA
namespace Go.Proofs.Ytfjbgcaogffiaaa
open Go.RowKit D
set_option linter.unusedVariables false
theorem run_minI {P : Program} {w : World} (ts : Array TypeId) (t : TypeId) (k k' : IntKind) (x y : Int) : (Builtin.min_ ts t #[.int k x, .int k' y]).run P w = .ok (.int k (min x y)) w := by
  rw [run_min_int2]; congr 2; split <;> omega
theorem run_maxI {P : Program} {w : World} (ts : Array TypeId) (t : TypeId) (k k' : IntKind) (x y : Int) : (Builtin.max_ ts t #[.int k x, .int k' y]).run P w = .ok (.int k (max x y)) w := by
  rw [run_max_int2]; congr 2; split <;> omega
theorem ret_bool {a b : Bool} (h : a = b) : Ending.returned (.bool a) = .returned (.bool b) := by rw [h]
theorem ret_int {k : IntKind} {a b : Int} (h : a = b) : Ending.returned (.int k a) = .returned (.int k b) := by rw [h]
/-- A slice's header, its length apart. -/
structure Sl where
  a : Option Addr
  cap : Nat
/-- The cells of a slice of n elements of sz cells each. -/
structure RowS (w : World) (s : Sl) (sz n : Nat) (c : Nat → Nat → Value) : Prop where
  le : n ≤ s.cap
  max : s.cap ≤ 9223372036854775807
  cell : ∀ i j, i < n → j < sz → ∃ b off, s.a = some ⟨b, off, none⟩ ∧ w.cell? ⟨b, off + i * sz + j, none⟩ = some (c i j)
theorem cell_lt {w : World} {a : Addr} {v : Value} (h : w.cell? a = some v) : a.block < w.heap.size := by
  unfold World.cell? at h
  split at h
  · rename_i hb; exact (Array.getElem?_eq_some_iff.1 hb).1
  · cases h
theorem RowS.kept {w w' : World} {s : Sl} {sz n B : Nat} {c : Nat → Nat → Value} (h : RowS w s sz n c) (hs : ∀ b off, s.a = some ⟨b, off, none⟩ → 0 < n → 0 < sz → b < B) (hb : Below B w w') : RowS w' s sz n c :=
  ⟨h.le, h.max, fun i j hi hj => by
    obtain ⟨b, off, ha, hc⟩ := h.cell i j hi hj
    exact ⟨b, off, ha, (hb.cell (p := ⟨b, off + i * sz + j, none⟩) (hs b off ha (by omega) (by omega))).trans hc⟩⟩
theorem RowS.block {w : World} {s : Sl} {sz n : Nat} {c : Nat → Nat → Value} (h : RowS w s sz n c) {b off : Nat} (ha : s.a = some ⟨b, off, none⟩) (hn : 0 < n) (hz : 0 < sz) : b < w.heap.size := by
  obtain ⟨b', off', ha', hc⟩ := h.cell 0 0 hn hz
  rw [ha] at ha'
  obtain ⟨rfl, rfl⟩ : b = b' ∧ off = off' := by simpa using ha'
  exact cell_lt hc
theorem RowS.below {w w' : World} {s : Sl} {sz n : Nat} {c : Nat → Nat → Value} (h : RowS w s sz n c) (hb : Below w.heap.size w w') : RowS w' s sz n c :=
  h.kept (fun b off ha hn hz => h.block ha hn hz) hb
theorem RowS.drewN {w : World} {s : Sl} {sz n : Nat} {c : Nat → Nat → Value} (h : RowS w s sz n c) (q : Nat) : RowS (w.drewN q) s sz n c := ⟨h.le, h.max, h.cell⟩
def ptC (l : List Pt) (i : Nat) : Nat → Value
  | 0 => .int .i64 (ptD l i).at_
  | _ => .int .i64 (ptD l i).fac
def dayC (l : List Day) (i : Nat) : Nat → Value
  | 0 => .int .i64 (dayD l i).tlo
  | 1 => .int .i64 (dayD l i).thi
  | 2 => .int .i64 (dayD l i).dlo
  | _ => .int .i64 (dayD l i).dhi
def testC (l : List Test) (i : Nat) : Nat → Value
  | 0 => .int .i64 (testD l i).day
  | 1 => .int .i64 (testD l i).grade
  | _ => .int .i64 (testD l i).err
def spanC (l : List Span) (i : Nat) : Nat → Value
  | 0 => .int .i64 (spanD l i).lo
  | _ => .int .i64 (spanD l i).hi
def strikeC (l : List Strike) (i : Nat) : Nat → Value
  | 0 => .int .i64 (strikeD l i).test
  | _ => .int .i64 (strikeD l i).by_
def intC (l : List Int) (i : Nat) (_ : Nat) : Value := .int .i64 (intD l i)
abbrev PtsS (w : World) (s : Sl) (l : List Pt) : Prop := RowS w s 2 l.length (ptC l)
abbrev DaysS (w : World) (s : Sl) (l : List Day) : Prop := RowS w s 4 l.length (dayC l)
abbrev TestsS (w : World) (s : Sl) (l : List Test) : Prop := RowS w s 3 l.length (testC l)
abbrev SpansS (w : World) (s : Sl) (l : List Span) : Prop := RowS w s 2 l.length (spanC l)
abbrev StrikesS (w : World) (s : Sl) (l : List Strike) : Prop := RowS w s 2 l.length (strikeC l)
abbrev IntsS (w : World) (s : Sl) (l : List Int) : Prop := RowS w s 1 l.length (intC l)
theorem pts_at {w : World} {a : Option Addr} {cap : Nat} {l : List Pt} (h : PtsS w ⟨a, cap⟩ l) {i : Nat} (hi : i < l.length) :
    ∃ b off, a = some ⟨b, off, none⟩ ∧ w.cell? ⟨b, off + i * 2, none⟩ = some (.int .i64 (ptD l i).at_) ∧ w.cell? ⟨b, off + i * 2 + 1, none⟩ = some (.int .i64 (ptD l i).fac) := by
  obtain ⟨b, off, ha, h0⟩ := h.cell i 0 hi (by omega)
  obtain ⟨b', off', ha', h1⟩ := h.cell i 1 hi (by omega)
  simp only at ha ha'; rw [ha] at ha'
  obtain ⟨rfl, rfl⟩ : b = b' ∧ off = off' := by simpa using ha'
  exact ⟨b, off, ha, h0, h1⟩
theorem days_at {w : World} {a : Option Addr} {cap : Nat} {l : List Day} (h : DaysS w ⟨a, cap⟩ l) {i : Nat} (hi : i < l.length) :
    ∃ b off, a = some ⟨b, off, none⟩ ∧ w.cell? ⟨b, off + i * 4, none⟩ = some (.int .i64 (dayD l i).tlo) ∧ w.cell? ⟨b, off + i * 4 + 1, none⟩ = some (.int .i64 (dayD l i).thi) ∧ w.cell? ⟨b, off + i * 4 + 2, none⟩ = some (.int .i64 (dayD l i).dlo) ∧ w.cell? ⟨b, off + i * 4 + 3, none⟩ = some (.int .i64 (dayD l i).dhi) := by
  obtain ⟨b, off, ha, h0⟩ := h.cell i 0 hi (by omega)
  obtain ⟨b1, off1, ha1, h1⟩ := h.cell i 1 hi (by omega)
  obtain ⟨b2, off2, ha2, h2⟩ := h.cell i 2 hi (by omega)
  obtain ⟨b3, off3, ha3, h3⟩ := h.cell i 3 hi (by omega)
  simp only at ha ha1 ha2 ha3; rw [ha] at ha1 ha2 ha3
  obtain ⟨rfl, rfl⟩ : b = b1 ∧ off = off1 := by simpa using ha1
  obtain ⟨rfl, rfl⟩ : b = b2 ∧ off = off2 := by simpa using ha2
  obtain ⟨rfl, rfl⟩ : b = b3 ∧ off = off3 := by simpa using ha3
  exact ⟨b, off, ha, h0, h1, h2, h3⟩
theorem tests_at {w : World} {a : Option Addr} {cap : Nat} {l : List Test} (h : TestsS w ⟨a, cap⟩ l) {i : Nat} (hi : i < l.length) :
    ∃ b off, a = some ⟨b, off, none⟩ ∧ w.cell? ⟨b, off + i * 3, none⟩ = some (.int .i64 (testD l i).day) ∧ w.cell? ⟨b, off + i * 3 + 1, none⟩ = some (.int .i64 (testD l i).grade) ∧ w.cell? ⟨b, off + i * 3 + 2, none⟩ = some (.int .i64 (testD l i).err) := by
  obtain ⟨b, off, ha, h0⟩ := h.cell i 0 hi (by omega)
  obtain ⟨b1, off1, ha1, h1⟩ := h.cell i 1 hi (by omega)
  obtain ⟨b2, off2, ha2, h2⟩ := h.cell i 2 hi (by omega)
  simp only at ha ha1 ha2; rw [ha] at ha1 ha2
  obtain ⟨rfl, rfl⟩ : b = b1 ∧ off = off1 := by simpa using ha1
  obtain ⟨rfl, rfl⟩ : b = b2 ∧ off = off2 := by simpa using ha2
  exact ⟨b, off, ha, h0, h1, h2⟩
theorem spans_at {w : World} {a : Option Addr} {cap : Nat} {l : List Span} (h : SpansS w ⟨a, cap⟩ l) {i : Nat} (hi : i < l.length) :
    ∃ b off, a = some ⟨b, off, none⟩ ∧ w.cell? ⟨b, off + i * 2, none⟩ = some (.int .i64 (spanD l i).lo) ∧ w.cell? ⟨b, off + i * 2 + 1, none⟩ = some (.int .i64 (spanD l i).hi) := by
  obtain ⟨b, off, ha, h0⟩ := h.cell i 0 hi (by omega)
  obtain ⟨b', off', ha', h1⟩ := h.cell i 1 hi (by omega)
  simp only at ha ha'; rw [ha] at ha'
  obtain ⟨rfl, rfl⟩ : b = b' ∧ off = off' := by simpa using ha'
  exact ⟨b, off, ha, h0, h1⟩
theorem strikes_at {w : World} {a : Option Addr} {cap : Nat} {l : List Strike} (h : StrikesS w ⟨a, cap⟩ l) {i : Nat} (hi : i < l.length) :
    ∃ b off, a = some ⟨b, off, none⟩ ∧ w.cell? ⟨b, off + i * 2, none⟩ = some (.int .i64 (strikeD l i).test) ∧ w.cell? ⟨b, off + i * 2 + 1, none⟩ = some (.int .i64 (strikeD l i).by_) := by
  obtain ⟨b, off, ha, h0⟩ := h.cell i 0 hi (by omega)
  obtain ⟨b', off', ha', h1⟩ := h.cell i 1 hi (by omega)
  simp only at ha ha'; rw [ha] at ha'
  obtain ⟨rfl, rfl⟩ : b = b' ∧ off = off' := by simpa using ha'
  exact ⟨b, off, ha, h0, h1⟩
theorem ints_at' {w : World} {a : Option Addr} {cap : Nat} {l : List Int} (h : IntsS w ⟨a, cap⟩ l) {i : Nat} (hi : i < l.length) :
    ∃ b off, a = some ⟨b, off, none⟩ ∧ w.cell? ⟨b, off + i, none⟩ = some (.int .i64 (intD l i)) := by
  obtain ⟨b, off, ha, h0⟩ := h.cell i 0 hi (by omega)
  rw [Nat.mul_one, Nat.add_zero] at h0
  exact ⟨b, off, ha, h0⟩
/-- Where the slices of a rule and of a task lie. -/
structure RuleAt (w : World) (R : Rule) (h v : Sl) : Prop where
  heat : PtsS w h R.heat
  wet : PtsS w v R.wet
theorem RuleAt.below {w w' : World} {R : Rule} {h v : Sl} (x : RuleAt w R h v) (hb : Below w.heap.size w w') : RuleAt w' R h v := ⟨x.heat.below hb, x.wet.below hb⟩
structure TSl where
  h : Sl
  w : Sl
  d : Sl
  t : Sl
structure TaskAt (w : World) (T : Task) (s : TSl) : Prop where
  rule : RuleAt w T.rule s.h s.w
  days : DaysS w s.d T.days
  tests : TestsS w s.t T.tests
theorem TaskAt.below {w w' : World} {T : Task} {s : TSl} (x : TaskAt w T s) (hb : Below w.heap.size w w') : TaskAt w' T s := ⟨x.rule.below hb, x.days.below hb, x.tests.below hb⟩
theorem below_drewN {B : Nat} {a w : World} (h : Below B a w) (n : Nat) : Below B a (w.drewN n) := ⟨h.os, h.tape, h.output, h.size, h.block⟩
theorem below_alloc (w : World) (o : Obj) : Below w.heap.size w (w.alloc o) := (Below.refl _ _).alloc (Nat.le_refl _) o
theorem bcell {w W w1 : World} (hb : Below W.heap.size W w1) : (∀ b o, b < W.heap.size → w1.cell? ⟨b, o, none⟩ = W.cell? ⟨b, o, none⟩) ∧ (∀ b o, b < W.heap.size → w1.frozen? ⟨b, o, none⟩ = W.frozen? ⟨b, o, none⟩) :=
  ⟨fun b o h => hb.cell (p := ⟨b, o, none⟩) h, fun b o h => hb.frozen (p := ⟨b, o, none⟩) h⟩
/-- A call that panics, met where a tactic wants one way on: the way on is left under 'False'. -/
theorem calls_panics {P : Program} {f : FuncId} {args : Array Value} {w : World} {R R' : Ending → World → Prop} (h : Calls P f args w R') (hr : ∀ e w', R' e w' → R e w') (hx : False → R (.returned undef) w) : Calls P f args w R := h.mono hr
theorem below_trans {w w1 w2 : World} (h : Below w.heap.size w w1) (k : Below w1.heap.size w1 w2) : Below w.heap.size w w2 := h.trans (k.mono h.size)
theorem in_any (n lo hi : Int) (w : World) : Calls Try.prog 54 #[.int .i64 n, .int .i64 lo, .int .i64 hi] w fun e w' => e = .returned (.bool (inB n lo hi)) ∧ w = w' := by
  by_cases h1 : lo ≤ n
  · go_enter Try.func54, Try.ntmps54
    go_wp2
    go_ret
    exact ⟨ret_bool (by simp [inB]; omega), rfl⟩
  · go_enter Try.func54, Try.ntmps54
    go_wp2
    go_ret
    exact ⟨ret_bool (by simp [inB]; omega), rfl⟩
end Go.Proofs.Ytfjbgcaogffiaaa
