/-
  Plain data of the title chapter.
  What the walks of the title seat share: laws on min and max, views of slices in memory.
  title.out, ref.in, title.odd, ref.letters.
-/
import Derived.Test.YtahgbecfaihfpaaDoorProg
import Derived.WalkKit
import Derived.WalkLawsBesides
import Derived.WalkSpells
import Derived.BigRegion
import Derived.Deep.QuietTactic
import Derived.BigQuiet
import Derived.Lib.Hide
import Derived.Deep.DeepFit
import Derived.Deep.RegionHeld3
import Derived.Deep.RegionHeld2
import Derived.Deep.DrawnRows
import Derived.Lib.OthersKept
namespace Go.Proofs.YtahgbecfaihfpaaDoor.D
def inB (n lo hi : Int) : Bool := decide (lo ≤ n ∧ n ≤ hi)
def intD (l : List Int) (i : Nat) : Int := l.getD i 0
structure Gl where
  text : ByteArray
  wide : Int
  rows : List Int
instance : Inhabited Gl := ⟨⟨ByteArray.empty, 0, []⟩⟩
structure Kn where
  left : Int
  right : Int
  by_ : Int
  deriving DecidableEq, Inhabited
structure Font where
  high : Int
  space : Int
  glyphs : List Gl
  kerns : List Kn
structure Rul where
  measure : Int
  lines : Int
  lead : Int
  short : Int
  extra : Int
  ink : Int
def glD (l : List Gl) (i : Nat) : Gl := l.getD i default
def knD (l : List Kn) (i : Nat) : Kn := l.getD i default
end Go.Proofs.YtahgbecfaihfpaaDoor.D

namespace Go.Proofs.YtahgbecfaihfpaaDoor
open Go.RowKit D
set_option linter.unusedVariables false
theorem run_minI {P : Program} {w : World} (ts : Array TypeId) (t : TypeId) (k k' : IntKind) (x y : Int) : (Builtin.min_ ts t #[.int k x, .int k' y]).run P w = .ok (.int k (min x y)) w := by
  rw [run_min_int2]; congr 2; split <;> omega
theorem run_maxI {P : Program} {w : World} (ts : Array TypeId) (t : TypeId) (k k' : IntKind) (x y : Int) : (Builtin.max_ ts t #[.int k x, .int k' y]).run P w = .ok (.int k (max x y)) w := by
  rw [run_max_int2]; congr 2; split <;> omega
theorem ret_bool {a b : Bool} (h : a = b) : Ending.returned (.bool a) = .returned (.bool b) := by rw [h]
theorem ret_int {k : IntKind} {a b : Int} (h : a = b) : Ending.returned (.int k a) = .returned (.int k b) := by rw [h]
/-- A slice's header, its length apart. -/
structure Sl where
  a : Option Addr
  cap : Nat
/-- The cells of a slice of n elements of sz cells each. -/
structure RowS (w : World) (s : Sl) (sz n : Nat) (c : Nat → Nat → Value) : Prop where
  le : n ≤ s.cap
  max : s.cap ≤ 9223372036854775807
  cell : ∀ i j, i < n → j < sz → ∃ b off, s.a = some ⟨b, off, none⟩ ∧ w.cell? ⟨b, off + i * sz + j, none⟩ = some (c i j)
theorem cell_lt {w : World} {a : Addr} {v : Value} (h : w.cell? a = some v) : a.block < w.heap.size := by
  unfold World.cell? at h
  split at h
  · rename_i hb; exact (Array.getElem?_eq_some_iff.1 hb).1
  · cases h
theorem RowS.kept {w w' : World} {s : Sl} {sz n B : Nat} {c : Nat → Nat → Value} (h : RowS w s sz n c) (hs : ∀ b off, s.a = some ⟨b, off, none⟩ → 0 < n → 0 < sz → b < B) (hb : Below B w w') : RowS w' s sz n c :=
  ⟨h.le, h.max, fun i j hi hj => by
    obtain ⟨b, off, ha, hc⟩ := h.cell i j hi hj
    exact ⟨b, off, ha, (hb.cell (p := ⟨b, off + i * sz + j, none⟩) (hs b off ha (by omega) (by omega))).trans hc⟩⟩
theorem RowS.block {w : World} {s : Sl} {sz n : Nat} {c : Nat → Nat → Value} (h : RowS w s sz n c) {b off : Nat} (ha : s.a = some ⟨b, off, none⟩) (hn : 0 < n) (hz : 0 < sz) : b < w.heap.size := by
  obtain ⟨b', off', ha', hc⟩ := h.cell 0 0 hn hz
  rw [ha] at ha'
  obtain ⟨rfl, rfl⟩ : b = b' ∧ off = off' := by simpa using ha'
  exact cell_lt hc
theorem RowS.below {w w' : World} {s : Sl} {sz n : Nat} {c : Nat → Nat → Value} (h : RowS w s sz n c) (hb : Below w.heap.size w w') : RowS w' s sz n c :=
  h.kept (fun b off ha hn hz => h.block ha hn hz) hb
theorem RowS.drewN {w : World} {s : Sl} {sz n : Nat} {c : Nat → Nat → Value} (h : RowS w s sz n c) (q : Nat) : RowS (w.drewN q) s sz n c := ⟨h.le, h.max, h.cell⟩
def intC (l : List Int) (i : Nat) (_ : Nat) : Value := .int .i64 (intD l i)
abbrev IntsS (w : World) (s : Sl) (l : List Int) : Prop := RowS w s 1 l.length (intC l)
theorem below_drewN {B : Nat} {a w : World} (h : Below B a w) (n : Nat) : Below B a (w.drewN n) := ⟨h.os, h.tape, h.output, h.size, h.block⟩
theorem below_alloc (w : World) (o : Obj) : Below w.heap.size w (w.alloc o) := (Below.refl _ _).alloc (Nat.le_refl _) o
theorem bcell {w W w1 : World} (hb : Below W.heap.size W w1) : (∀ b o, b < W.heap.size → w1.cell? ⟨b, o, none⟩ = W.cell? ⟨b, o, none⟩) ∧ (∀ b o, b < W.heap.size → w1.frozen? ⟨b, o, none⟩ = W.frozen? ⟨b, o, none⟩) :=
  ⟨fun b o h => hb.cell (p := ⟨b, o, none⟩) h, fun b o h => hb.frozen (p := ⟨b, o, none⟩) h⟩
/-- A call that panics, met where a tactic wants one way on: the way on is left under 'False'. -/
theorem calls_panics {P : Program} {f : FuncId} {args : Array Value} {w : World} {R R' : Ending → World → Prop} (h : Calls P f args w R') (hr : ∀ e w', R' e w' → R e w') (hx : False → R (.returned undef) w) : Calls P f args w R := h.mono hr
theorem below_trans {w w1 w2 : World} (h : Below w.heap.size w w1) (k : Below w1.heap.size w1 w2) : Below w.heap.size w w2 := h.trans (k.mono h.size)
end Go.Proofs.YtahgbecfaihfpaaDoor
namespace Go.Proofs.YtahgbecfaihfpaaDoor.D
def outB (n lo hi : Int) : Bool := decide (n < lo ∨ hi < n)
theorem outB_in (n lo hi : Int) : outB n lo hi = !inB n lo hi := by
  unfold outB inB
  by_cases h : lo ≤ n ∧ n ≤ hi
  · rw [decide_eq_true h, decide_eq_false (by omega)]; rfl
  · rw [decide_eq_false h, decide_eq_true (by omega)]; rfl
def okC (c : UInt8) : Bool := inB (c.toNat : Int) 33 126
/-- All bytes are from 33 to 126. -/
def okS (s : ByteArray) : Bool := s.data.toList.all okC
def oddS (s : ByteArray) : Bool := !okS s || decide (s.size = 0)
def lettersS (s : ByteArray) (most : Int) : Bool := okS s && inB (s.size : Int) 1 most
theorem okS_at {s : ByteArray} {k : Nat} (h : k < s.size) (ho : okC s[k] = false) : okS s = false := by
  unfold okS
  rw [List.all_eq_false]
  refine ⟨s[k], ?_, by rw [ho]; simp⟩
  have : s[k] = s.data.toList[k]'(by simpa using h) := rfl
  rw [this]
  exact List.getElem_mem _
theorem okS_all {s : ByteArray} (h : ∀ i (hi : i < s.size), okC s[i] = true) : okS s = true := by
  unfold okS
  rw [List.all_eq_true]
  intro x hx
  obtain ⟨i, hi, rfl⟩ := List.getElem_of_mem hx
  exact h i (by simpa using hi)
theorem size_empty (s : ByteArray) : decide (s.size = 0) = s.toList.isEmpty := by
  rw [ByteArray.toList_eq]
  have e : s.size = s.data.toList.length := by simp
  rw [e]
  cases s.data.toList <;> simp
def sameS (a b : ByteArray) : Bool := a.data.toList == b.data.toList
theorem beq_list (a b : ByteArray) : (a.toList == b.toList) = sameS a b := by
  rw [ByteArray.toList_eq, ByteArray.toList_eq]; rfl
theorem sameS_iff {a b : ByteArray} : sameS a b = true ↔ a = b := by
  unfold sameS
  rw [beq_iff_eq]
  constructor
  · intro h
    have : a.data = b.data := Array.ext' h
    cases a; cases b; simp_all
  · rintro rfl; rfl
theorem dec_ok {s : ByteArray} {k : Nat} (h : k < s.size) (ho : okC s[k] = true) : Utf8.decode s k = ((s[k]).toNat, 1) :=
  decode_ascii s k h (by have := of_decide_eq_true ho; omega)
theorem dec_bad {s : ByteArray} {k : Nat} (h : k < s.size) (ho : okC s[k] = false) : outB ((Utf8.decode s k).1 : Int) 33 126 = true ∧ (Utf8.decode s k).1 ≤ 2097151 := by
  have e : s.get! (k + 0) = s[k]'h := by
    show s.get! k = _
    simp [ByteArray.get!, getElem!_pos, h]
    rfl
  have hb := of_decide_eq_false ho
  suffices h : ((Utf8.decode s k).1 < 33 ∨ 126 < (Utf8.decode s k).1) ∧ (Utf8.decode s k).1 ≤ 2097151 from ⟨decide_eq_true (by omega), h.2⟩
  unfold Utf8.decode
  simp only [e]
  split
  · simp only; omega
  · refine ⟨.inr ?_, ?_⟩
    · repeat' split
      all_goals first
        | (simp only [Utf8.runeError]; omega)
        | (rename_i h1; simp only [ge_iff_le, Bool.and_eq_true, decide_eq_true_eq] at h1; simp only; omega)
    · repeat' split
      all_goals (simp only [Utf8.runeError]; omega)
end Go.Proofs.YtahgbecfaihfpaaDoor.D
namespace Go.Proofs.YtahgbecfaihfpaaDoor
open Go.RowKit D
set_option linter.unusedVariables false
set_option linter.unusedSimpArgs false
attribute [local go_sem high] run_minI run_maxI
theorem out_any (n lo hi : Int) (w : World) : Calls Tryd.prog 55 #[.int .i64 n, .int .i64 lo, .int .i64 hi] w fun e w' => e = .returned (.bool (outB n lo hi)) ∧ w = w' := by
  by_cases h1 : n < lo
  · go_enter Tryd.func55, Tryd.ntmps55
    go_wp2
    go_ret
    exact ⟨ret_bool (by simp [outB]; omega), rfl⟩
  · go_enter Tryd.func55, Tryd.ntmps55
    go_wp2
    go_ret
    exact ⟨ret_bool (by simp [outB]; omega), rfl⟩
theorem in_any (n lo hi : Int) (w : World) : Calls Tryd.prog 59 #[.int .i64 n, .int .i64 lo, .int .i64 hi] w fun e w' => e = .returned (.bool (inB n lo hi)) ∧ w = w' := by
  by_cases h1 : lo ≤ n
  · go_enter Tryd.func59, Tryd.ntmps59
    go_wp2
    go_ret
    exact ⟨ret_bool (by simp [inB]; omega), rfl⟩
  · go_enter Tryd.func59, Tryd.ntmps59
    go_wp2
    go_ret
    exact ⟨ret_bool (by simp [inB]; omega), rfl⟩
set_option maxRecDepth 100000 in
set_option maxHeartbeats 2000000 in
theorem odd_any (s : ByteArray) (w : World) : Calls Tryd.prog 48 #[.string s] w fun e w' => e = .returned (.bool (oddS s)) ∧ Below w.heap.size w w' := by
  go_enter Tryd.func48, Tryd.ntmps48
  go_wp2_with (fail)
  go_loopw [4] (fun _ wr => ∃ k : Nat, k ≤ s.size ∧ wr = w.iter s k ∧ ∀ i (hi : i < s.size), i < k → okC s[i] = true) (fun _ wr => s.size - wr.iterPos w.heap.size)
  case atStart => exact ⟨0, Nat.zero_le _, rfl, fun i _ h => absurd h (Nat.not_lt_zero i)⟩
  case round =>
    obtain ⟨k, hk, rfl, hok⟩ := hrel
    have hz : (w.iter s k).iterPos w.heap.size = k := by simp [World.iterPos, World.iter_heap]
    have HZ := Lib.hid hz
    clear hz
    have hBk : Below w.heap.size w (w.iter s k) := (Below.refl _ _).alloc (Nat.le_refl _) _
    have HOK := Lib.hid hok
    clear hok
    by_cases hlt : k < s.size
    · cases hc : okC s[k]
      case false =>
        obtain ⟨hd1, hd2⟩ := dec_bad hlt hc
        have hodd : oddS s = true := by unfold oddS; rw [okS_at hlt hc]; rfl
        have hn := fun ty => Go.Lib.run_next_any_at (P := Tryd.prog) (w.iter s k) w.heap.size s k ty (w.iter_heap s k) hlt
        have hB2 := Go.Lib.below_iterAt hBk (Nat.le_refl w.heap.size) s (k + (Utf8.decode s k).2)
        obtain ⟨c, hcd⟩ : ∃ c, c = (Utf8.decode s k).1 := ⟨_, rfl⟩
        rw [← hcd] at hn hd1 hd2
        obtain ⟨w2, hw2⟩ : ∃ w2, w2 = (w.iter s k).iterAt w.heap.size s (k + (Utf8.decode s k).2) := ⟨_, rfl⟩
        rw [← hw2] at hn hB2
        have hwr : IntKind.i64.wrap (c : Int) = (c : Int) := IntWalk.i64_in _ (by omega)
        have HO := Lib.hid hodd
        clear hcd hw2 hc hodd HZ HOK
        go_wp2_with (go_at_call 55; (with_reducible refine (out_any _ _ _ _).mono ?_); rintro e w' ⟨rfl, rfl⟩)
        go_ret
        exact ⟨ret_bool HO.out.symm, hB2⟩
      case true =>
        have hr := of_decide_eq_true hc
        have hn := fun ty => run_next_ascii (P := Tryd.prog) w s k ty hlt (by omega)
        have hB2 : Below w.heap.size w (w.iter s (k + 1)) := (Below.refl _ _).alloc (Nat.le_refl _) _
        have ho : outB ((s[k]).toNat : Int) 33 126 = false := by rw [outB_in]; unfold okC at hc; rw [hc]; rfl
        obtain ⟨c, hcd⟩ : ∃ c, c = (s[k]).toNat := ⟨_, rfl⟩
        rw [← hcd] at hn ho hr
        have hwr : IntKind.i64.wrap (c : Int) = (c : Int) := IntWalk.i64_in _ (by omega)
        have HC := Lib.hid hc
        clear hcd hc
        go_wp2_with (go_at_call 55; (with_reducible refine (out_any _ _ _ _).mono ?_); rintro e w' ⟨rfl, rfl⟩)
        go_roundw
        case rel =>
          refine ⟨k + 1, by omega, rfl, fun i hi h => ?_⟩
          rcases Nat.lt_or_ge i k with h' | h'
          · exact HOK.out i hi h'
          · obtain rfl : i = k := by omega
            exact HC.out
        case measure =>
          have e : (w.iter s (k + 1)).iterPos w.heap.size = k + 1 := by simp [World.iterPos, World.iter_heap]
          rw [e, HZ.out]; omega
    · obtain rfl : k = s.size := by omega
      have hn := fun ty => run_next_end (P := Tryd.prog) w s s.size ty hlt
      have hall : okS s = true := okS_all fun i hi => HOK.out i hi hi
      obtain ⟨w2, hw2⟩ : ∃ w2, w2 = w.iter s s.size := ⟨_, rfl⟩
      rw [← hw2] at hn hBk ⊢
      have HO := Lib.hid hall
      clear hw2 hall HZ HOK hlt
      go_wp2_with (fail)
      go_ret
      exact ⟨ret_bool (by unfold oddS; rw [HO.out, size_empty]; rfl), hBk⟩
set_option maxRecDepth 100000 in
set_option maxHeartbeats 2000000 in
theorem letters_any (s : ByteArray) (m : Int) (w : World) (hs : s.size ≤ maxLen) : Calls Tryd.prog 50 #[.string s, .int .i64 m] w fun e w' => e = .returned (.bool (lettersS s m)) ∧ w = w' := by
  unfold maxLen at hs
  go_enter Tryd.func50, Tryd.ntmps50
  go_wp2_with (fail)
  go_loop [5] (fun i => ∃ k : Nat, k ≤ s.size ∧ i = .int .i64 k ∧ ∀ i (hi : i < s.size), i < k → okC s[i] = true) (fun i => s.size - (intOf i).toNat)
  case atStart => exact ⟨0, Nat.zero_le _, rfl, fun i _ h => absurd h (Nat.not_lt_zero i)⟩
  case round =>
    obtain ⟨k, hk, rfl, hok⟩ := hrel
    have HOK := Lib.hid hok
    clear hok
    by_cases hlt : k < s.size
    · obtain ⟨v, hv⟩ : ∃ v, v = okC s[k] := ⟨_, rfl⟩
      have hi : inB ((s[k]).toNat : Int) 33 126 = v := hv.symm
      have HV := Lib.hid hv
      clear hv
      have hx : (s[k]).toNat < 256 := UInt8.toNat_lt _
      have hwr : IntKind.i64.wrap ((s[k]).toNat : Int) = ((s[k]).toNat : Int) := IntWalk.i64_in _ (by omega)
      cases v
      case false =>
        have hl : lettersS s m = false := by unfold lettersS; rw [okS_at hlt HV.out.symm]; rfl
        have HL := Lib.hid hl
        clear hl
        go_wp2_with (go_at_call 59; (with_reducible refine (in_any _ _ _ _).mono ?_); rintro e w' ⟨rfl, rfl⟩)
        go_ret
        exact ⟨ret_bool HL.out.symm, rfl⟩
      case true =>
        go_wp2_with (go_at_call 59; (with_reducible refine (in_any _ _ _ _).mono ?_); rintro e w' ⟨rfl, rfl⟩)
        go_round
        case rel =>
          refine ⟨k + 1, by omega, by go_num, fun i hi h => ?_⟩
          rcases Nat.lt_or_ge i k with h' | h'
          · exact HOK.out i hi h'
          · obtain rfl : i = k := by omega
            exact HV.out.symm
        case measure => simp [intOf]; omega
    · have hl : lettersS s m = inB (s.size : Int) 1 m := by unfold lettersS; rw [okS_all fun i hi => HOK.out i hi (by omega)]; rfl
      have HL := Lib.hid hl
      clear hl
      go_wp2_with (go_at_call 59; (with_reducible refine (in_any _ _ _ _).mono ?_); rintro e w' ⟨rfl, rfl⟩)
      go_ret
      exact ⟨ret_bool HL.out.symm, rfl⟩
end Go.Proofs.YtahgbecfaihfpaaDoor
