/-
  slices.IndexFunc, slices.ContainsFunc over integers and over strings; strings.Split at a minus sign, strings.Trim at letters and digits.
-/
import Derived.Test.YtfpaihjcbpaneaaGreatDoorVBase
import Derived.Test.YtfpaihjcbpaneaaGreatDoorVPlA
import Derived.Test.YtfpaihjcbpaneaaGreatDoorDMem
import Derived.Ground.NamesProg
import Derived.Shelf.Lay
import Derived.Shelf.Strings.Split
import Derived.Shelf.Strings.SlTrimAscii
namespace Go.Proofs
open Go.RowKit Go.Shelf
shelf_lay Lays.n146 Nm 146 at Tryz as Tryz.laysSplit
shelf_lay Lays.n160 Nm 160 at Tryz as Tryz.laysTrim
namespace YtfpaihjcbpaneaaGreatDoor
namespace D
def strD (l : List ByteArray) (i : Nat) : ByteArray := l.getD i ByteArray.empty
def baL (l : List UInt8) : ByteArray := ⟨l.toArray⟩
def partsS (t : ByteArray) : List ByteArray := (cutD t.data.toList).map baL
theorem cutD_len : ∀ l, (cutD l).length = l.count 45 + 1
  | [] => rfl
  | c :: l => by
    have ih := cutD_len l
    unfold cutD
    by_cases h : c = 45
    · rw [if_pos h, h]; simp [ih]
    · rw [if_neg h, List.count_cons, if_neg (by simpa using h)]
      cases hc : cutD l with
      | nil => exact absurd hc (cutD_ne l)
      | cons p ps => rw [hc] at ih; simpa using ih
theorem index45 (c : UInt8) (l : List UInt8) : Lib.index (c :: l) [45] = if c = 45 then 0 else if Lib.index l [45] = -1 then -1 else Lib.index l [45] + 1 := by
  rw [Lib.index]
  by_cases h : c = 45
  · subst h; simp [List.isPrefixOf]
  · rw [if_neg h]
    have : ([45] : List UInt8).isPrefixOf (c :: l) = false := by simp [List.isPrefixOf]; exact fun e => h e.symm
    rw [this]; simp
theorem splitK_cons {c : UInt8} (hc : c ≠ 45) (l : List UInt8) : ∀ k, Lib.splitK [45] 0 k (c :: l) = match Lib.splitK [45] 0 k l with
    | [] => [[c]]
    | p :: ps => (c :: p) :: ps
  | 0 => rfl
  | k + 1 => by
    unfold Lib.splitK
    rw [index45, if_neg hc]
    by_cases h : Lib.index l [45] = -1
    · rw [if_pos h, h]; rfl
    · have hge := Lib.index_ge l [45]
      rw [if_neg h]
      obtain ⟨i, hi⟩ : ∃ i : Nat, Lib.index l [45] = (i : Int) := ⟨(Lib.index l [45]).toNat, by omega⟩
      rw [hi]
      have e1 : ¬ ((i : Int) + 1 == -1) = true := by rw [beq_iff_eq]; omega
      have e2 : ¬ ((i : Int) == -1) = true := by rw [beq_iff_eq]; omega
      rw [if_neg e1, if_neg e2]
      have e3 : ((i : Int) + 1).toNat = i + 1 := by omega
      rw [e3]
      simp
theorem splitK_cut : ∀ (l : List UInt8) (k : Nat), l.count 45 ≤ k → Lib.splitK [45] 0 k l = cutD l
  | [], k, _ => by cases k <;> rfl
  | c :: l, k, h => by
    by_cases hc : c = 45
    · subst hc
      rw [List.count_cons_self] at h
      obtain ⟨k, rfl⟩ : ∃ j, k = j + 1 := ⟨k - 1, by omega⟩
      have ih := splitK_cut l k (by omega)
      unfold Lib.splitK cutD
      rw [index45]
      simp [ih]
    · have ih := splitK_cut l k (by rw [List.count_cons, if_neg (by simpa using hc)] at h; exact h)
      rw [splitK_cons hc, ih]
      conv => rhs; unfold cutD
      rw [if_neg hc]
      cases cutD l <;> rfl
theorem countFrom45 : ∀ (l : List UInt8) (f : Nat), l.length < f → Lib.countFrom [45] f l = l.count 45
  | [], f, h => by
    obtain ⟨f, rfl⟩ : ∃ j, f = j + 1 := ⟨f - 1, by omega⟩
    rfl
  | c :: l, f, h => by
    obtain ⟨f, rfl⟩ : ∃ j, f = j + 1 := ⟨f - 1, by omega⟩
    simp at h
    by_cases hc : c = 45
    · subst hc
      have ih := countFrom45 l f (by omega)
      unfold Lib.countFrom
      rw [index45]
      simp [ih]; omega
    · have ih := countFrom45 l (f + 1) (by omega)
      rw [List.count_cons, if_neg (by simpa using hc), Nat.add_zero, ← ih]
      unfold Lib.countFrom
      rw [index45, if_neg hc]
      by_cases h : Lib.index l [45] = -1
      · rw [if_pos h, h]; rfl
      · have hge := Lib.index_ge l [45]
        rw [if_neg h]
        obtain ⟨i, hi⟩ : ∃ i : Nat, Lib.index l [45] = (i : Int) := ⟨(Lib.index l [45]).toNat, by omega⟩
        rw [hi]
        have e1 : ¬ ((i : Int) + 1 == -1) = true := by rw [beq_iff_eq]; omega
        have e2 : ¬ ((i : Int) == -1) = true := by rw [beq_iff_eq]; omega
        rw [if_neg e1, if_neg e2]
        have e3 : ((i : Int) + 1).toNat = i + 1 := by omega
        rw [e3]
        simp
theorem baL_data (t : ByteArray) : baL t.data.toList = t := by
  unfold baL; simp
theorem data_baL (l : List UInt8) : (baL l).data.toList = l := by simp [baL]
theorem splitB_parts (t : ByteArray) (k : Nat) (h : t.data.toList.count 45 ≤ k) : Lib.splitB ⟨#[45]⟩ 0 k t = partsS t := by
  have h1 := Lib.splitB_data ⟨#[45]⟩ 0 k t
  rw [splitK_cut _ _ h] at h1
  unfold partsS
  rw [← h1, List.map_map]
  conv => lhs; rw [← List.map_id (Lib.splitB ⟨#[45]⟩ 0 k t)]
  exact List.map_congr_left fun x _ => (baL_data x).symm
theorem countB_parts (t : ByteArray) : Lib.countB t ⟨#[45]⟩ = t.data.toList.count 45 := countFrom45 _ _ (Nat.lt_succ_self _)
theorem parts_len (t : ByteArray) : (partsS t).length = t.data.toList.count 45 + 1 := by unfold partsS; rw [List.length_map, cutD_len]
end D
open D
theorem hiSplit : (Tryz.prog.info? (Tryz.laysSplit_ren.t 9)).map (fun i => (i.zero, i.size, i.bytes)) = some (some (.string ByteArray.empty), 1, 16) := by kernel_rfl
/-- The cell of the longest length of bytealg. -/
def MaxAt (w : World) : Prop := ∃ m, w.cell? ⟨(Tryz.laysSplit_ren.g 1), 0, none⟩ = some (.int .i64 m)
theorem MaxAt.below {w w' : World} (h : MaxAt w) (hb : Below w.heap.size w w') : MaxAt w' := by
  obtain ⟨m, hm⟩ := h
  exact ⟨m, by rw [(bcell (w := w) (W := w) hb).1 _ _ (cell_lt hm)]; exact hm⟩
theorem split_any (s : ByteArray) {w : World} (hs : s.size < 4294967281) (hm : MaxAt w) :
    Calls Tryz.prog 101 #[.string s, .string ⟨#[45]⟩] w fun e w' => e = .returned (.slice (some ⟨w.heap.size, 0, none⟩) (partsS s).length (partsS s).length) ∧ w' = w.alloc (.cells ((partsS s).map Value.string).toArray 9) := by
  obtain ⟨m, hm⟩ := hm
  have h := Any.strings_Split Tryz.laysSplit hiSplit s ⟨#[45]⟩ m w hs hm (by decide)
  rw [countB_parts, splitB_parts _ _ (Nat.le_refl _), ← parts_len] at h
  exact h
theorem trim_any (s : ByteArray) (w : World) (hs : s.size ≤ 9223372036854775807) : Calls Tryz.prog 103 #[.string s, .string ⟨#[97, 98, 99, 100, 101, 102, 103, 104, 105, 106, 107, 108, 109, 110, 111, 112, 113, 114, 115, 116, 117, 118, 119, 120, 121, 122, 48, 49, 50, 51, 52, 53, 54, 55, 56, 57]⟩] w fun e w' => e = .returned (.string (baL (Lib.trimS s.data.toList alphabet))) ∧ Below w.heap.size w w' := by
  have h := Any.strings_Trim_laid Tryz.laysTrim (by kernel_rfl) s ⟨#[97, 98, 99, 100, 101, 102, 103, 104, 105, 106, 107, 108, 109, 110, 111, 112, 113, 114, 115, 116, 117, 118, 119, 120, 121, 122, 48, 49, 50, 51, 52, 53, 54, 55, 56, 57]⟩ w hs (by decide) (ascii_of_all (by decide))
  exact h
end YtfpaihjcbpaneaaGreatDoor
end Go.Proofs
namespace Go.Proofs.YtfpaihjcbpaneaaGreatDoor
open Go.RowKit D
set_option linter.unusedVariables false
set_option linter.unusedSimpArgs false
attribute [local go_sem high] run_minI run_maxI
theorem int_cell {w : World} {s : Sl} {l : List Int} (h : IntsS w s l) {i : Nat} (hi : i < l.length) : ∃ b off, s.a = some ⟨b, off, none⟩ ∧ w.cell? ⟨b, off + i, none⟩ = some (.int .i64 (intD l i)) := by
  obtain ⟨b, off, ha, h0⟩ := h.cell i 0 hi (by omega)
  rw [Nat.mul_one, Nat.add_zero] at h0
  exact ⟨b, off, ha, h0⟩
def strC (l : List ByteArray) (i : Nat) (_ : Nat) : Value := .string (strD l i)
abbrev StrsS (w : World) (s : Sl) (l : List ByteArray) : Prop := RowS w s 1 l.length (strC l)
theorem str_cell {w : World} {s : Sl} {l : List ByteArray} (h : StrsS w s l) {i : Nat} (hi : i < l.length) : ∃ b off, s.a = some ⟨b, off, none⟩ ∧ w.cell? ⟨b, off + i, none⟩ = some (.string (strD l i)) := by
  obtain ⟨b, off, ha, h0⟩ := h.cell i 0 hi (by omega)
  rw [Nat.mul_one, Nat.add_zero] at h0
  exact ⟨b, off, ha, h0⟩
set_option maxRecDepth 100000 in
set_option maxHeartbeats 2000000 in
theorem idxI_any {g : Nat} {lb : Array Value} {p : Nat → Bool} {s : Sl} {l : List Int} {w : World} (hs : IntsS w s l) (eg : ∀ args w, (callFunc g args).run Tryz.prog w = .ok (.enter g args) w)
    (hp : ∀ (i : Nat) (W : World), i < l.length → Below w.heap.size w W → Calls Tryz.prog g (#[.int .i64 (intD l i)] ++ lb) W fun e w' => e = .returned (.bool (p i)) ∧ Below W.heap.size W w') :
    Calls Tryz.prog 82 #[.slice s.a l.length s.cap, .func (.func g) #[] lb] w fun e w' => e = .returned (.int .i64 (idxF p l.length)) ∧ Below w.heap.size w w' := by
  have HP := Lib.hid hp; clear hp
  have hc := hs.le
  have hm := hs.max
  obtain ⟨sa, sc⟩ := s
  dsimp only at hc hm
  have HS := Lib.hid hs; clear hs
  obtain ⟨n, hn'⟩ : ∃ n, n = l.length := ⟨_, rfl⟩
  rw [← hn'] at hc ⊢
  have HN := Lib.hid hn'; clear hn'
  go_enter Tryz.func82, Tryz.ntmps82
  go_wp2_with (fail)
  go_loopw [8] (fun i wr => ∃ k : Nat, k ≤ n ∧ i = .int .i64 k ∧ (∀ j, j < k → p j = false) ∧ Below w.heap.size w wr) (fun i _ => n - (intOf i).toNat)
  case atStart => exact ⟨0, Nat.zero_le _, rfl, fun j h => absurd h (by omega), Below.refl _ _⟩
  case round =>
    obtain ⟨k, hk, rfl, hb, hB⟩ := hrel
    have HB := Lib.hid hb; clear hb
    by_cases hlt : k < n
    · obtain ⟨b, off, ha, c0⟩ := int_cell (HS.out.below hB) (i := k) (by have := HN.out; omega)
      dsimp only at ha
      subst ha
      have hpk := HP.out k wr (by have := HN.out; omega) hB
      obtain ⟨x, hx⟩ : ∃ x, x = intD l k := ⟨_, rfl⟩
      rw [← hx] at c0 hpk
      have HPK := Lib.hid hpk
      have h0 : (0 : Int) ≤ (k : Int) := by omega
      have h1 : (k : Int) < (n : Int) := by omega
      clear hpk hx
      go_wp2_with (fail)
      refine HPK.out.mono ?_
      rintro e w1 ⟨rfl, hb1⟩
      have B1 : Below w.heap.size w w1 := hB.trans (hb1.mono hB.size)
      clear hb1 c0
      have hp' : p k = true ∨ p k = false := by cases p k <;> simp
      rcases hp' with h | h
      · rw [h]
        have HM : Hid (idxF p n = (k : Int)) := Lib.hid (by unfold idxF; rw [firstN_at HB.out h hlt, if_pos hlt])
        clear h
        go_wp2_with (fail)
        go_ret
        rw [HM.out]
        exact ⟨rfl, B1⟩
      · rw [h]
        have HM := Lib.hid h; clear h
        go_wp2_with (fail)
        go_roundw
        case rel =>
          refine ⟨k + 1, by omega, by go_num, fun j hj => ?_, B1⟩
          rcases Nat.lt_or_ge j k with h' | h'
          · exact HB.out j h'
          · obtain rfl : j = k := by omega
            exact HM.out
        case measure => simp [intOf]; omega
    · obtain rfl : k = n := by omega
      have HM : Hid (idxF p k = -1) := Lib.hid (by unfold idxF; rw [firstN_none HB.out, if_neg (Nat.lt_irrefl _)])
      go_wp2_with (fail)
      go_ret
      rw [HM.out]
      exact ⟨rfl, hB⟩
set_option maxRecDepth 100000 in
set_option maxHeartbeats 2000000 in
theorem contI_any {g : Nat} {lb : Array Value} {p : Nat → Bool} {s : Sl} {l : List Int} {w : World} (hs : IntsS w s l) (eg : ∀ args w, (callFunc g args).run Tryz.prog w = .ok (.enter g args) w)
    (hp : ∀ (i : Nat) (W : World), i < l.length → Below w.heap.size w W → Calls Tryz.prog g (#[.int .i64 (intD l i)] ++ lb) W fun e w' => e = .returned (.bool (p i)) ∧ Below W.heap.size W w') :
    Calls Tryz.prog 56 #[.slice s.a l.length s.cap, .func (.func g) #[] lb] w fun e w' => e = .returned (.bool (anyF p l.length)) ∧ Below w.heap.size w w' := by
  have HC := Lib.hid (idxI_any hs eg hp)
  obtain ⟨x, hx⟩ : ∃ x, x = idxF p l.length := ⟨_, rfl⟩
  have hg : decide (0 ≤ x) = anyF p l.length := by
    rw [hx]; unfold idxF anyF
    split
    · rename_i h; rw [decide_eq_true h]; exact decide_eq_true (by omega)
    · rename_i h; rw [decide_eq_false h]; rfl
  obtain ⟨v, hv⟩ : ∃ v, v = anyF p l.length := ⟨_, rfl⟩
  rw [← hv] at hg ⊢
  rw [← hx] at HC
  clear hv hx hp hs
  go_enter Tryz.func56, Tryz.ntmps56
  go_wp2_with (fail)
  (with_reducible refine HC.out.mono ?_)
  rintro e w1 ⟨rfl, hb1⟩
  go_wp2_with (fail)
  go_ret
  exact ⟨rfl, hb1⟩
set_option maxRecDepth 100000 in
set_option maxHeartbeats 2000000 in
theorem idxS_any {g : Nat} {lb : Array Value} {p : Nat → Bool} {s : Sl} {l : List ByteArray} {w : World} (hs : StrsS w s l) (eg : ∀ args w, (callFunc g args).run Tryz.prog w = .ok (.enter g args) w)
    (hp : ∀ (i : Nat) (W : World), i < l.length → Below w.heap.size w W → Calls Tryz.prog g (#[.string (strD l i)] ++ lb) W fun e w' => e = .returned (.bool (p i)) ∧ Below W.heap.size W w') :
    Calls Tryz.prog 105 #[.slice s.a l.length s.cap, .func (.func g) #[] lb] w fun e w' => e = .returned (.int .i64 (idxF p l.length)) ∧ Below w.heap.size w w' := by
  have HP := Lib.hid hp; clear hp
  have hc := hs.le
  have hm := hs.max
  obtain ⟨sa, sc⟩ := s
  dsimp only at hc hm
  have HS := Lib.hid hs; clear hs
  obtain ⟨n, hn'⟩ : ∃ n, n = l.length := ⟨_, rfl⟩
  rw [← hn'] at hc ⊢
  have HN := Lib.hid hn'; clear hn'
  go_enter Tryz.func105, Tryz.ntmps105
  go_wp2_with (fail)
  go_loopw [8] (fun i wr => ∃ k : Nat, k ≤ n ∧ i = .int .i64 k ∧ (∀ j, j < k → p j = false) ∧ Below w.heap.size w wr) (fun i _ => n - (intOf i).toNat)
  case atStart => exact ⟨0, Nat.zero_le _, rfl, fun j h => absurd h (by omega), Below.refl _ _⟩
  case round =>
    obtain ⟨k, hk, rfl, hb, hB⟩ := hrel
    have HB := Lib.hid hb; clear hb
    by_cases hlt : k < n
    · obtain ⟨b, off, ha, c0⟩ := str_cell (HS.out.below hB) (i := k) (by have := HN.out; omega)
      dsimp only at ha
      subst ha
      have hpk := HP.out k wr (by have := HN.out; omega) hB
      obtain ⟨x, hx⟩ : ∃ x, x = strD l k := ⟨_, rfl⟩
      rw [← hx] at c0 hpk
      have HPK := Lib.hid hpk
      have h0 : (0 : Int) ≤ (k : Int) := by omega
      have h1 : (k : Int) < (n : Int) := by omega
      clear hpk hx
      go_wp2_with (fail)
      refine HPK.out.mono ?_
      rintro e w1 ⟨rfl, hb1⟩
      have B1 : Below w.heap.size w w1 := hB.trans (hb1.mono hB.size)
      clear hb1 c0
      have hp' : p k = true ∨ p k = false := by cases p k <;> simp
      rcases hp' with h | h
      · rw [h]
        have HM : Hid (idxF p n = (k : Int)) := Lib.hid (by unfold idxF; rw [firstN_at HB.out h hlt, if_pos hlt])
        clear h
        go_wp2_with (fail)
        go_ret
        rw [HM.out]
        exact ⟨rfl, B1⟩
      · rw [h]
        have HM := Lib.hid h; clear h
        go_wp2_with (fail)
        go_roundw
        case rel =>
          refine ⟨k + 1, by omega, by go_num, fun j hj => ?_, B1⟩
          rcases Nat.lt_or_ge j k with h' | h'
          · exact HB.out j h'
          · obtain rfl : j = k := by omega
            exact HM.out
        case measure => simp [intOf]; omega
    · obtain rfl : k = n := by omega
      have HM : Hid (idxF p k = -1) := Lib.hid (by unfold idxF; rw [firstN_none HB.out, if_neg (Nat.lt_irrefl _)])
      go_wp2_with (fail)
      go_ret
      rw [HM.out]
      exact ⟨rfl, hB⟩
set_option maxRecDepth 100000 in
set_option maxHeartbeats 2000000 in
theorem contS_any {g : Nat} {lb : Array Value} {p : Nat → Bool} {s : Sl} {l : List ByteArray} {w : World} (hs : StrsS w s l) (eg : ∀ args w, (callFunc g args).run Tryz.prog w = .ok (.enter g args) w)
    (hp : ∀ (i : Nat) (W : World), i < l.length → Below w.heap.size w W → Calls Tryz.prog g (#[.string (strD l i)] ++ lb) W fun e w' => e = .returned (.bool (p i)) ∧ Below W.heap.size W w') :
    Calls Tryz.prog 100 #[.slice s.a l.length s.cap, .func (.func g) #[] lb] w fun e w' => e = .returned (.bool (anyF p l.length)) ∧ Below w.heap.size w w' := by
  have HC := Lib.hid (idxS_any hs eg hp)
  obtain ⟨x, hx⟩ : ∃ x, x = idxF p l.length := ⟨_, rfl⟩
  have hg : decide (0 ≤ x) = anyF p l.length := by
    rw [hx]; unfold idxF anyF
    split
    · rename_i h; rw [decide_eq_true h]; exact decide_eq_true (by omega)
    · rename_i h; rw [decide_eq_false h]; rfl
  obtain ⟨v, hv⟩ : ∃ v, v = anyF p l.length := ⟨_, rfl⟩
  rw [← hv] at hg ⊢
  rw [← hx] at HC
  clear hv hx hp hs
  go_enter Tryz.func100, Tryz.ntmps100
  go_wp2_with (fail)
  (with_reducible refine HC.out.mono ?_)
  rintro e w1 ⟨rfl, hb1⟩
  go_wp2_with (fail)
  go_ret
  exact ⟨rfl, hb1⟩
end Go.Proofs.YtfpaihjcbpaneaaGreatDoor
