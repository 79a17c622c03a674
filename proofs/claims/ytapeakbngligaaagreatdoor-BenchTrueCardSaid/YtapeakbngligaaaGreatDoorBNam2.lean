/-
  slices.IndexFunc, slices.ContainsFunc over integers and over strings; strings.Split at a minus sign, strings.Trim at letters and digits.
  film.out, film.Name, ref1.Name: out of the vault chapter.
-/
import Derived.Test.YtapeakbngligaaaGreatDoorBBase
import Derived.Test.YtapeakbngligaaaGreatDoorBNmA
import Derived.Test.YtapeakbngligaaaGreatDoorDMem
import Derived.Ground.NamesProg
import Derived.Shelf.Lay
import Derived.Shelf.Strings.Split
import Derived.Shelf.Strings.SlTrimAscii
import Derived.Test.YtapeakbngligaaaGreatDoorBKit
import Derived.WalkKit
import Derived.WalkLawsBesides
import Derived.MapKept
import Derived.Maps.Own
import Derived.Below
import Derived.Test.YtapeakbngligaaaGreatDoorProg
namespace Go.Proofs
open Go.RowKit Go.Shelf
shelf_lay Lays.n146 Nm 146 at Tryz as Tryz.laysSplit
shelf_lay Lays.n160 Nm 160 at Tryz as Tryz.laysTrim
namespace YtapeakbngligaaaGreatDoor
namespace D
def strD (l : List ByteArray) (i : Nat) : ByteArray := l.getD i ByteArray.empty
def baL (l : List UInt8) : ByteArray := ⟨l.toArray⟩
def partsS (t : ByteArray) : List ByteArray := (cutD t.data.toList).map baL
theorem cutD_len : ∀ l, (cutD l).length = l.count 45 + 1
  | [] => rfl
  | c :: l => by
    have ih := cutD_len l
    unfold cutD
    by_cases h : c = 45
    · rw [if_pos h, h]; simp [ih]
    · rw [if_neg h, List.count_cons, if_neg (by simpa using h)]
      cases hc : cutD l with
      | nil => exact absurd hc (cutD_ne l)
      | cons p ps => rw [hc] at ih; simpa using ih
theorem index45 (c : UInt8) (l : List UInt8) : Lib.index (c :: l) [45] = if c = 45 then 0 else if Lib.index l [45] = -1 then -1 else Lib.index l [45] + 1 := by
  rw [Lib.index]
  by_cases h : c = 45
  · subst h; simp [List.isPrefixOf]
  · rw [if_neg h]
    have : ([45] : List UInt8).isPrefixOf (c :: l) = false := by simp [List.isPrefixOf]; exact fun e => h e.symm
    rw [this]; simp
theorem splitK_cons {c : UInt8} (hc : c ≠ 45) (l : List UInt8) : ∀ k, Lib.splitK [45] 0 k (c :: l) = match Lib.splitK [45] 0 k l with
    | [] => [[c]]
    | p :: ps => (c :: p) :: ps
  | 0 => rfl
  | k + 1 => by
    unfold Lib.splitK
    rw [index45, if_neg hc]
    by_cases h : Lib.index l [45] = -1
    · rw [if_pos h, h]; rfl
    · have hge := Lib.index_ge l [45]
      rw [if_neg h]
      obtain ⟨i, hi⟩ : ∃ i : Nat, Lib.index l [45] = (i : Int) := ⟨(Lib.index l [45]).toNat, by omega⟩
      rw [hi]
      have e1 : ¬ ((i : Int) + 1 == -1) = true := by rw [beq_iff_eq]; omega
      have e2 : ¬ ((i : Int) == -1) = true := by rw [beq_iff_eq]; omega
      rw [if_neg e1, if_neg e2]
      have e3 : ((i : Int) + 1).toNat = i + 1 := by omega
      rw [e3]
      simp
theorem splitK_cut : ∀ (l : List UInt8) (k : Nat), l.count 45 ≤ k → Lib.splitK [45] 0 k l = cutD l
  | [], k, _ => by cases k <;> rfl
  | c :: l, k, h => by
    by_cases hc : c = 45
    · subst hc
      rw [List.count_cons_self] at h
      obtain ⟨k, rfl⟩ : ∃ j, k = j + 1 := ⟨k - 1, by omega⟩
      have ih := splitK_cut l k (by omega)
      unfold Lib.splitK cutD
      rw [index45]
      simp [ih]
    · have ih := splitK_cut l k (by rw [List.count_cons, if_neg (by simpa using hc)] at h; exact h)
      rw [splitK_cons hc, ih]
      conv => rhs; unfold cutD
      rw [if_neg hc]
      cases cutD l <;> rfl
theorem countFrom45 : ∀ (l : List UInt8) (f : Nat), l.length < f → Lib.countFrom [45] f l = l.count 45
  | [], f, h => by
    obtain ⟨f, rfl⟩ : ∃ j, f = j + 1 := ⟨f - 1, by omega⟩
    rfl
  | c :: l, f, h => by
    obtain ⟨f, rfl⟩ : ∃ j, f = j + 1 := ⟨f - 1, by omega⟩
    simp at h
    by_cases hc : c = 45
    · subst hc
      have ih := countFrom45 l f (by omega)
      unfold Lib.countFrom
      rw [index45]
      simp [ih]; omega
    · have ih := countFrom45 l (f + 1) (by omega)
      rw [List.count_cons, if_neg (by simpa using hc), Nat.add_zero, ← ih]
      unfold Lib.countFrom
      rw [index45, if_neg hc]
      by_cases h : Lib.index l [45] = -1
      · rw [if_pos h, h]; rfl
      · have hge := Lib.index_ge l [45]
        rw [if_neg h]
        obtain ⟨i, hi⟩ : ∃ i : Nat, Lib.index l [45] = (i : Int) := ⟨(Lib.index l [45]).toNat, by omega⟩
        rw [hi]
        have e1 : ¬ ((i : Int) + 1 == -1) = true := by rw [beq_iff_eq]; omega
        have e2 : ¬ ((i : Int) == -1) = true := by rw [beq_iff_eq]; omega
        rw [if_neg e1, if_neg e2]
        have e3 : ((i : Int) + 1).toNat = i + 1 := by omega
        rw [e3]
        simp
theorem baL_data (t : ByteArray) : baL t.data.toList = t := by
  unfold baL; simp
theorem data_baL (l : List UInt8) : (baL l).data.toList = l := by simp [baL]
theorem splitB_parts (t : ByteArray) (k : Nat) (h : t.data.toList.count 45 ≤ k) : Lib.splitB ⟨#[45]⟩ 0 k t = partsS t := by
  have h1 := Lib.splitB_data ⟨#[45]⟩ 0 k t
  rw [splitK_cut _ _ h] at h1
  unfold partsS
  rw [← h1, List.map_map]
  conv => lhs; rw [← List.map_id (Lib.splitB ⟨#[45]⟩ 0 k t)]
  exact List.map_congr_left fun x _ => (baL_data x).symm
theorem countB_parts (t : ByteArray) : Lib.countB t ⟨#[45]⟩ = t.data.toList.count 45 := countFrom45 _ _ (Nat.lt_succ_self _)
theorem parts_len (t : ByteArray) : (partsS t).length = t.data.toList.count 45 + 1 := by unfold partsS; rw [List.length_map, cutD_len]
end D
open D
theorem hiSplit : (Tryz.prog.info? (Tryz.laysSplit_ren.t 9)).map (fun i => (i.zero, i.size, i.bytes)) = some (some (.string ByteArray.empty), 1, 16) := by kernel_rfl
/-- The cell of the longest length of bytealg. -/
def MaxAt (w : World) : Prop := ∃ m, w.cell? ⟨(Tryz.laysSplit_ren.g 1), 0, none⟩ = some (.int .i64 m)
theorem MaxAt.below {w w' : World} (h : MaxAt w) (hb : Below w.heap.size w w') : MaxAt w' := by
  obtain ⟨m, hm⟩ := h
  exact ⟨m, by rw [(bcell (w := w) (W := w) hb).1 _ _ (cell_lt hm)]; exact hm⟩
theorem split_any (s : ByteArray) {w : World} (hs : s.size < 4294967281) (hm : MaxAt w) :
    Calls Tryz.prog 81 #[.string s, .string ⟨#[45]⟩] w fun e w' => e = .returned (.slice (some ⟨w.heap.size, 0, none⟩) (partsS s).length (partsS s).length) ∧ w' = w.alloc (.cells ((partsS s).map Value.string).toArray 9) := by
  obtain ⟨m, hm⟩ := hm
  have h := Any.strings_Split Tryz.laysSplit hiSplit s ⟨#[45]⟩ m w hs hm (by decide)
  rw [countB_parts, splitB_parts _ _ (Nat.le_refl _), ← parts_len] at h
  exact h
theorem trim_any (s : ByteArray) (w : World) (hs : s.size ≤ 9223372036854775807) : Calls Tryz.prog 83 #[.string s, .string ⟨#[97, 98, 99, 100, 101, 102, 103, 104, 105, 106, 107, 108, 109, 110, 111, 112, 113, 114, 115, 116, 117, 118, 119, 120, 121, 122, 48, 49, 50, 51, 52, 53, 54, 55, 56, 57]⟩] w fun e w' => e = .returned (.string (baL (Lib.trimS s.data.toList alphabet))) ∧ Below w.heap.size w w' := by
  have h := Any.strings_Trim_laid Tryz.laysTrim (by kernel_rfl) s ⟨#[97, 98, 99, 100, 101, 102, 103, 104, 105, 106, 107, 108, 109, 110, 111, 112, 113, 114, 115, 116, 117, 118, 119, 120, 121, 122, 48, 49, 50, 51, 52, 53, 54, 55, 56, 57]⟩ w hs (by decide) (ascii_of_all (by decide))
  exact h
end YtapeakbngligaaaGreatDoor
end Go.Proofs
namespace Go.Proofs.YtapeakbngligaaaGreatDoor
open Go.RowKit D
set_option linter.unusedVariables false
set_option linter.unusedSimpArgs false
attribute [local go_sem high] run_minI run_maxI
def strC (l : List ByteArray) (i : Nat) (_ : Nat) : Value := .string (strD l i)
abbrev StrsS (w : World) (s : Sl) (l : List ByteArray) : Prop := RowS w s 1 l.length (strC l)
theorem str_cell {w : World} {s : Sl} {l : List ByteArray} (h : StrsS w s l) {i : Nat} (hi : i < l.length) : ∃ b off, s.a = some ⟨b, off, none⟩ ∧ w.cell? ⟨b, off + i, none⟩ = some (.string (strD l i)) := by
  obtain ⟨b, off, ha, h0⟩ := h.cell i 0 hi (by omega)
  rw [Nat.mul_one, Nat.add_zero] at h0
  exact ⟨b, off, ha, h0⟩
set_option maxRecDepth 100000 in
set_option maxHeartbeats 2000000 in
theorem idxS_any {g : Nat} {lb : Array Value} {p : Nat → Bool} {s : Sl} {l : List ByteArray} {w : World} (hs : StrsS w s l) (eg : ∀ args w, (callFunc g args).run Tryz.prog w = .ok (.enter g args) w)
    (hp : ∀ (i : Nat) (W : World), i < l.length → Below w.heap.size w W → Calls Tryz.prog g (#[.string (strD l i)] ++ lb) W fun e w' => e = .returned (.bool (p i)) ∧ Below W.heap.size W w') :
    Calls Tryz.prog 95 #[.slice s.a l.length s.cap, .func (.func g) #[] lb] w fun e w' => e = .returned (.int .i64 (idxF p l.length)) ∧ Below w.heap.size w w' := by
  have HP := Lib.hid hp; clear hp
  have hc := hs.le
  have hm := hs.max
  obtain ⟨sa, sc⟩ := s
  dsimp only at hc hm
  have HS := Lib.hid hs; clear hs
  obtain ⟨n, hn'⟩ : ∃ n, n = l.length := ⟨_, rfl⟩
  rw [← hn'] at hc ⊢
  have HN := Lib.hid hn'; clear hn'
  go_enter Tryz.func95, Tryz.ntmps95
  go_wp2_with (fail)
  go_loopw [8] (fun i wr => ∃ k : Nat, k ≤ n ∧ i = .int .i64 k ∧ (∀ j, j < k → p j = false) ∧ Below w.heap.size w wr) (fun i _ => n - (intOf i).toNat)
  case atStart => exact ⟨0, Nat.zero_le _, rfl, fun j h => absurd h (by omega), Below.refl _ _⟩
  case round =>
    obtain ⟨k, hk, rfl, hb, hB⟩ := hrel
    have HB := Lib.hid hb; clear hb
    by_cases hlt : k < n
    · obtain ⟨b, off, ha, c0⟩ := str_cell (HS.out.below hB) (i := k) (by have := HN.out; omega)
      dsimp only at ha
      subst ha
      have hpk := HP.out k wr (by have := HN.out; omega) hB
      obtain ⟨x, hx⟩ : ∃ x, x = strD l k := ⟨_, rfl⟩
      rw [← hx] at c0 hpk
      have HPK := Lib.hid hpk
      have h0 : (0 : Int) ≤ (k : Int) := by omega
      have h1 : (k : Int) < (n : Int) := by omega
      clear hpk hx
      go_wp2_with (fail)
      refine HPK.out.mono ?_
      rintro e w1 ⟨rfl, hb1⟩
      have B1 : Below w.heap.size w w1 := hB.trans (hb1.mono hB.size)
      clear hb1 c0
      have hp' : p k = true ∨ p k = false := by cases p k <;> simp
      rcases hp' with h | h
      · rw [h]
        have HM : Hid (idxF p n = (k : Int)) := Lib.hid (by unfold idxF; rw [firstN_at HB.out h hlt, if_pos hlt])
        clear h
        go_wp2_with (fail)
        go_ret
        rw [HM.out]
        exact ⟨rfl, B1⟩
      · rw [h]
        have HM := Lib.hid h; clear h
        go_wp2_with (fail)
        go_roundw
        case rel =>
          refine ⟨k + 1, by omega, by go_num, fun j hj => ?_, B1⟩
          rcases Nat.lt_or_ge j k with h' | h'
          · exact HB.out j h'
          · obtain rfl : j = k := by omega
            exact HM.out
        case measure => simp [intOf]; omega
    · obtain rfl : k = n := by omega
      have HM : Hid (idxF p k = -1) := Lib.hid (by unfold idxF; rw [firstN_none HB.out, if_neg (Nat.lt_irrefl _)])
      go_wp2_with (fail)
      go_ret
      rw [HM.out]
      exact ⟨rfl, hB⟩
set_option maxRecDepth 100000 in
set_option maxHeartbeats 2000000 in
theorem contS_any {g : Nat} {lb : Array Value} {p : Nat → Bool} {s : Sl} {l : List ByteArray} {w : World} (hs : StrsS w s l) (eg : ∀ args w, (callFunc g args).run Tryz.prog w = .ok (.enter g args) w)
    (hp : ∀ (i : Nat) (W : World), i < l.length → Below w.heap.size w W → Calls Tryz.prog g (#[.string (strD l i)] ++ lb) W fun e w' => e = .returned (.bool (p i)) ∧ Below W.heap.size W w') :
    Calls Tryz.prog 80 #[.slice s.a l.length s.cap, .func (.func g) #[] lb] w fun e w' => e = .returned (.bool (anyF p l.length)) ∧ Below w.heap.size w w' := by
  have HC := Lib.hid (idxS_any hs eg hp)
  obtain ⟨x, hx⟩ : ∃ x, x = idxF p l.length := ⟨_, rfl⟩
  have hg : decide (0 ≤ x) = anyF p l.length := by
    rw [hx]; unfold idxF anyF
    split
    · rename_i h; rw [decide_eq_true h]; exact decide_eq_true (by omega)
    · rename_i h; rw [decide_eq_false h]; rfl
  obtain ⟨v, hv⟩ : ∃ v, v = anyF p l.length := ⟨_, rfl⟩
  rw [← hv] at hg ⊢
  rw [← hx] at HC
  clear hv hx hp hs
  go_enter Tryz.func80, Tryz.ntmps80
  go_wp2_with (fail)
  (with_reducible refine HC.out.mono ?_)
  rintro e w1 ⟨rfl, hb1⟩
  go_wp2_with (fail)
  go_ret
  exact ⟨rfl, hb1⟩
end Go.Proofs.YtapeakbngligaaaGreatDoor
namespace Go.Proofs.YtapeakbngligaaaGreatDoor.D
theorem badP_empty {l : List UInt8} (h : l.isEmpty = true) : badP l = true := by unfold badP goodP; rw [h]; rfl
theorem badP_trim {l : List UInt8} (h : l.isEmpty = false) : badP l = !(Lib.trimS l alphabet).isEmpty := by unfold badP goodP; rw [h, trim_al]; rfl
theorem baL_empty (l : List UInt8) : (baL l).toList.isEmpty = l.isEmpty := by
  rw [ByteArray.toList_eq]; simp [baL]
theorem getD_byte {s : ByteArray} {k : Nat} (h : k < s.size) : s.data.toList.getD k 0 = s[k] := by
  rw [List.getD_eq_getElem?_getD]
  have : s.data.toList[k]? = some s[k] := by rw [List.getElem?_eq_getElem (by simpa using h)]; rfl
  rw [this]; rfl
end Go.Proofs.YtapeakbngligaaaGreatDoor.D
namespace Go.Proofs.YtapeakbngligaaaGreatDoor
open Go.RowKit D
set_option linter.unusedVariables false
set_option linter.unusedSimpArgs false
attribute [local go_sem high] run_minI run_maxI
attribute [local go_sem] upon2 cls_cell cls_frozen forall_const exists_eq_left'
attribute [local go_sem] FirstUpon
theorem fout_any (n lo hi : Int) (w : World) : Calls Tryz.prog 79 #[.int .i64 n, .int .i64 lo, .int .i64 hi] w fun e w' => e = .returned (.bool (outB n lo hi)) ∧ w = w' := by
  by_cases h1 : n < lo
  · go_enter Tryz.func79, Tryz.ntmps79
    go_wp2
    go_ret
    exact ⟨ret_bool (by simp [outB]; omega), rfl⟩
  · go_enter Tryz.func79, Tryz.ntmps79
    go_wp2
    go_ret
    exact ⟨ret_bool (by simp [outB]; omega), rfl⟩
theorem in1_any (n lo hi : Int) (w : World) : Calls Tryz.prog 37 #[.int .i64 n, .int .i64 lo, .int .i64 hi] w fun e w' => e = .returned (.bool (inB n lo hi)) ∧ w = w' := by
  by_cases h1 : lo ≤ n
  · go_enter Tryz.func37, Tryz.ntmps37
    go_wp2
    go_ret
    exact ⟨ret_bool (by simp [inB]; omega), rfl⟩
  · go_enter Tryz.func37, Tryz.ntmps37
    go_wp2
    go_ret
    exact ⟨ret_bool (by simp [inB]; omega), rfl⟩
theorem letter_any (c : UInt8) (w : World) : Calls Tryz.prog 59 #[.int .u8 (c.toNat : Int)] w fun e w' => e = .returned (.bool (lowB c)) ∧ w = w' := by
  obtain ⟨n, hn⟩ : ∃ n, n = c.toNat := ⟨_, rfl⟩
  obtain ⟨v, hv⟩ : ∃ v, v = lowB c := ⟨_, rfl⟩
  have hv' : v = decide ((97 : Int) ≤ (n : Int) ∧ (n : Int) ≤ 122) := by rw [hv, hn]; rfl
  rw [← hn, ← hv]
  have HV := Lib.hid hv'
  clear hv hn hv'
  by_cases h1 : 97 ≤ n
  · go_enter Tryz.func59, Tryz.ntmps59
    go_wp2
    go_ret
    exact ⟨ret_bool (by rw [HV.out]; simp; omega), rfl⟩
  · go_enter Tryz.func59, Tryz.ntmps59
    go_wp2
    go_ret
    exact ⟨ret_bool (by rw [HV.out]; simp; omega), rfl⟩
set_option maxRecDepth 100000 in
set_option maxHeartbeats 2000000 in
theorem part_any (p : ByteArray) (w : World) (hp : p.size ≤ 24) : Calls Tryz.prog 82 #[.string p] w fun e w' => e = .returned (.bool (badP p.data.toList)) ∧ Below w.heap.size w w' := by
  obtain ⟨v, hv⟩ : ∃ v, v = badP p.data.toList := ⟨_, rfl⟩
  rw [← hv]
  have he : p.toList.isEmpty = p.data.toList.isEmpty := by rw [ByteArray.toList_eq]
  cases h : p.data.toList.isEmpty
  case true =>
    rw [h] at he
    have hn : p.toList = [] := List.isEmpty_iff.1 he
    obtain rfl : v = true := by rw [hv, badP_empty h]
    clear hv h
    go_enter Tryz.func82, Tryz.ntmps82
    go_wp2_with (fail)
    go_ret
    exact ⟨rfl, Below.refl _ _⟩
  case false =>
    rw [h] at he
    have HT := Lib.hid (trim_any p w (by omega))
    obtain ⟨t, ht⟩ : ∃ t, t = baL (Lib.trimS p.data.toList alphabet) := ⟨_, rfl⟩
    rw [← ht] at HT
    have h2 : t.toList.isEmpty = !v := by rw [ht, baL_empty, hv, badP_trim h, Bool.not_not]
    have hn : ¬ p.toList = [] := fun h0 => by rw [h0] at he; cases he
    clear hv h ht
    go_enter Tryz.func82, Tryz.ntmps82
    go_wp2_with (fail)
    (with_reducible refine HT.out.mono ?_)
    rintro e w1 ⟨rfl, hb1⟩
    cases v
    case true =>
      have h3 : t.toList.isEmpty = false := h2
      have h4 : ¬ t.toList = [] := fun h0 => by rw [h0] at h3; cases h3
      go_wp2_with (fail)
      go_ret
      exact ⟨rfl, hb1⟩
    case false =>
      have h3 : t.toList.isEmpty = true := h2
      have h4 : t.toList = [] := List.isEmpty_iff.1 h3
      go_wp2_with (fail)
      go_ret
      exact ⟨rfl, hb1⟩
theorem parts_strs {w : World} {b : Nat} {l : List ByteArray} {t : TypeId} (h : w.heap[b]? = some (.cells (l.map Value.string).toArray t (0, 0))) (hl : l.length ≤ 1001) : StrsS w ⟨some ⟨b, 0, none⟩, l.length⟩ l :=
  ⟨Nat.le_refl _, by show l.length ≤ _; omega, fun i j hi hj => ⟨b, 0, rfl, by
    rw [Nat.zero_add, Nat.mul_one, show j = 0 from by omega, Nat.add_zero, cell_blk h]
    simp [strC, strD, List.getD_eq_getElem?_getD, hi]⟩⟩
theorem cut_sizes : ∀ (l : List UInt8) (p : List UInt8), p ∈ cutD l → p.length ≤ l.length
  | [], p, h => by simp [cutD] at h; simp [h]
  | c :: l, p, h => by
    rw [cutD] at h
    split at h
    · rcases List.mem_cons.1 h with rfl | h
      · simp
      · have := cut_sizes l p h; simp; omega
    · cases hc : cutD l with
      | nil => exact absurd hc (cutD_ne l)
      | cons q t =>
        rw [hc] at h
        rcases List.mem_cons.1 h with rfl | h
        · have := cut_sizes l q (by rw [hc]; exact List.mem_cons_self); simp; omega
        · have := cut_sizes l p (by rw [hc]; exact List.mem_cons_of_mem _ h); simp; omega
theorem any_parts (s : ByteArray) : anyF (fun i => badP (strD (partsS s) i).data.toList) (partsS s).length = (cutD s.data.toList).any badP := by
  have key : ∀ L : List (List UInt8), anyF (fun i => badP (strD (L.map baL) i).data.toList) (L.map baL).length = L.any badP := fun L => by
    cases h : L.any badP
    · cases h2 : anyF (fun i => badP (strD (L.map baL) i).data.toList) (L.map baL).length
      · rfl
      · have h3 := of_decide_eq_true h2
        have h4 := (firstN_spec (p := fun i => badP (strD (L.map baL) i).data.toList) (n := (L.map baL).length)).2 h3
        generalize firstN (fun i => badP (strD (L.map baL) i).data.toList) (L.map baL).length = n at h3 h4
        rw [List.length_map] at h3
        have h5 := List.any_eq_false.1 h _ (List.getElem_mem h3)
        refine absurd ?_ h5
        have e : strD (L.map baL) n = baL L[n] := by unfold strD; rw [List.getD_eq_getElem?_getD, List.getElem?_map, List.getElem?_eq_getElem h3]; rfl
        rw [e, data_baL] at h4
        exact h4
    · obtain ⟨p, hp, hb⟩ := List.any_eq_true.1 h
      obtain ⟨i, hi, rfl⟩ := List.getElem_of_mem hp
      have hlt : firstN (fun i => badP (strD (L.map baL) i).data.toList) (L.map baL).length < (L.map baL).length := by
        have hl := firstN_le (fun i => badP (strD (L.map baL) i).data.toList) (L.map baL).length
        rcases Nat.lt_or_ge (firstN (fun i => badP (strD (L.map baL) i).data.toList) (L.map baL).length) (L.map baL).length with h1 | h1
        · exact h1
        · have := (firstN_spec (p := fun i => badP (strD (L.map baL) i).data.toList) (n := (L.map baL).length)).1 i (by simp only [List.length_map] at *; omega)
          simp only [strD, List.getD_eq_getElem?_getD, List.getElem?_map, List.getElem?_eq_getElem hi, Option.map_some, Option.getD_some, data_baL] at this
          rw [hb] at this; cases this
      exact decide_eq_true hlt
  exact key _
theorem part_size {s : ByteArray} {i : Nat} (hi : i < (partsS s).length) : (strD (partsS s) i).size ≤ s.size := by
  unfold strD
  rw [List.getD_eq_getElem?_getD, List.getElem?_eq_getElem hi]
  have hm := List.getElem_mem hi
  obtain ⟨p, hp, he⟩ := List.mem_map.1 hm
  have := cut_sizes _ p hp
  simp only [Option.getD_some]
  rw [← he]
  have e1 : (baL p).size = p.length := by simp [baL, ByteArray.size]
  have e2 : s.size = s.data.toList.length := by simp
  omega
set_option maxRecDepth 100000 in
set_option maxHeartbeats 2000000 in
theorem nameP_any {s : ByteArray} {w : World} (hs : s.size ≤ maxLen) (hm : MaxAt w) : Calls Tryz.prog 55 #[.string s] w fun e w' => e = .returned (.bool (okName s)) ∧ Below w.heap.size w w' := by
  unfold maxLen at hs
  obtain ⟨v1, hv1⟩ : ∃ v, v = outB (s.size : Int) 1 24 := ⟨_, rfl⟩
  have HO1 : Hid (∀ W, Calls Tryz.prog 79 #[.int .i64 (s.size : Int), .int .i64 1, .int .i64 24] W fun e w' => e = .returned (.bool v1) ∧ W = w') := Lib.hid fun W => by rw [hv1]; exact fout_any _ _ _ W
  have h1 : inB (s.size : Int) 1 24 = !v1 := by rw [hv1, outB_in, Bool.not_not]
  obtain ⟨E, hE⟩ : ∃ E, E = okName s := ⟨_, rfl⟩
  rw [← hE]
  unfold okName at hE
  rw [h1] at hE
  have HE := Lib.hid hE
  have HM := Lib.hid hm
  cases v1
  case true =>
    clear hE hv1 h1 hm
    go_enter Tryz.func55, Tryz.ntmps55
    go_wp2_with (fail)
    (with_reducible refine (HO1.out _).mono ?_)
    rintro e w' ⟨rfl, rfl⟩
    go_wp2_with (fail)
    go_ret
    exact ⟨ret_bool (by rw [HE.out]; rfl), Below.refl _ _⟩
  case false =>
    have hsz := inB_iff.1 h1
    have hpos : 0 < s.size := by omega
    obtain ⟨c, hc⟩ : ∃ c, c = s[0] := ⟨_, rfl⟩
    have h0 : s.data.toList.getD 0 0 = c := by rw [getD_byte hpos, hc]
    rw [h0] at hE
    obtain ⟨v2, hv2⟩ : ∃ v, v = outB (c.toNat : Int) 97 122 := ⟨_, rfl⟩
    have h2 : lowB c = !v2 := by rw [hv2, outB_in, Bool.not_not]; rfl
    rw [h2] at hE
    have HO2 : Hid (∀ W, Calls Tryz.prog 79 #[.int .i64 (c.toNat : Int), .int .i64 97, .int .i64 122] W fun e w' => e = .returned (.bool v2) ∧ W = w') := Lib.hid fun W => by rw [hv2]; exact fout_any _ _ _ W
    have hcs : s[0].toNat = c.toNat := by rw [hc]
    have hlt : c.toNat < 256 := UInt8.toNat_lt _
    have hwr : IntKind.i64.wrap (c.toNat : Int) = (c.toNat : Int) := IntWalk.i64_in _ (by omega)
    have HE2 := Lib.hid hE
    cases v2
    case true =>
      clear hE hv1 hv2 h1 h2 hm hc h0 hsz HE
      go_enter Tryz.func55, Tryz.ntmps55
      go_wp2_with (fail)
      (with_reducible refine (HO1.out _).mono ?_)
      rintro e w' ⟨rfl, rfl⟩
      go_wp2_with (fail)
      (with_reducible refine (HO2.out _).mono ?_)
      rintro e w' ⟨rfl, rfl⟩
      go_wp2_with (fail)
      go_ret
      exact ⟨ret_bool (by rw [HE2.out]; rfl), Below.refl _ _⟩
    case false =>
      have hne : s.data.toList ≠ [] := fun h => by
        have h9 : s.data.toList.length = s.size := by simp
        rw [h, List.length_nil] at h9; omega
      have hcut := name_cut hne (by rw [h0]; exact h2)
      have hall := any_parts s
      rw [← hcut] at hall
      have hl : s.data.toList.length = s.size := by simp
      rw [hl] at hall
      rw [← hall] at hE
      have hss : s.size < 4294967281 := by clear hwr; omega
      have HSP := Lib.hid (split_any s hss hm)
      have hpl : (partsS s).length ≤ 25 := by
        rw [parts_len]
        have := List.count_le_length (a := (45 : UInt8)) (l := s.data.toList)
        omega
      obtain ⟨v3, hv3⟩ : ∃ v, v = anyF (fun i => badP (strD (partsS s) i).data.toList) (partsS s).length := ⟨_, rfl⟩
      rw [← hv3] at hE
      have HC : Hid (∀ W, W = w.alloc (.cells ((partsS s).map Value.string).toArray 9) → Calls Tryz.prog 80 #[.slice (some ⟨w.heap.size, 0, none⟩) (partsS s).length (partsS s).length, .func (.func 82) #[] #[]] W fun e w' => e = .returned (.bool v3) ∧ Below W.heap.size W w') := Lib.hid fun W hW => by
        rw [hv3]
        exact contS_any (s := ⟨some ⟨w.heap.size, 0, none⟩, (partsS s).length⟩) (parts_strs (t := 9) (by rw [hW]; exact blk_new _ _) (by omega)) (fun _ _ => rfl) fun i W' hi _ => by
          have := part_size hi
          exact part_any _ _ (by omega)
      have HE3 := Lib.hid hE
      clear hE hv1 hv2 hv3 h1 h2 hm hc h0 hsz HE HE2 hne hcut hall hl hpl
      go_enter Tryz.func55, Tryz.ntmps55
      go_wp2_with (fail)
      (with_reducible refine (HO1.out _).mono ?_)
      rintro e w' ⟨rfl, rfl⟩
      go_wp2_with (fail)
      (with_reducible refine (HO2.out _).mono ?_)
      rintro e w' ⟨rfl, rfl⟩
      go_wp2_with (fail)
      (with_reducible refine HSP.out.mono ?_)
      rintro e w1 ⟨rfl, h1⟩
      have hB1 : Below w.heap.size w w1 := by rw [h1]; exact below_alloc _ _
      have HC1 := Lib.hid (HC.out _ h1)
      clear h1
      go_wp2_with (fail)
      (with_reducible refine HC1.out.mono ?_)
      rintro e w2 ⟨rfl, hb2⟩
      have hB2 := below_trans hB1 hb2
      go_wp2_with (fail)
      go_ret
      exact ⟨ret_bool (by rw [HE3.out]; rfl), hB2⟩
end Go.Proofs.YtapeakbngligaaaGreatDoor
namespace Go.Proofs.YtapeakbngligaaaGreatDoor.D
theorem ok_false {s : ByteArray} {k : Nat} (h : k < s.size) (hk : nmAt s.data.toList k = false) : okName s = false := by
  unfold okName
  have : anyF (fun i => !nmAt s.data.toList i) s.size = true := by
    cases hx : anyF (fun i => !nmAt s.data.toList i) s.size
    · have hl : s.data.toList.length = s.size := by simp
      rw [← hl] at hx
      have := any_nm.1 hx k (by omega)
      rw [hk] at this; cases this
    · rfl
  rw [this]; simp
theorem ok_true {s : ByteArray} (h1 : inB (s.size : Int) 1 24 = true) (h2 : lowB (s.data.toList.getD 0 0) = true) (h : ∀ k, k < s.size → nmAt s.data.toList k = true) : okName s = true := by
  unfold okName
  have hl : s.data.toList.length = s.size := by simp
  have := (any_nm (l := s.data.toList)).2 (fun k hk => h k (by omega))
  rw [hl] at this
  rw [h1, h2, this]; rfl
end Go.Proofs.YtapeakbngligaaaGreatDoor.D
namespace Go.Proofs.YtapeakbngligaaaGreatDoor
open Go.RowKit D
set_option linter.unusedVariables false
set_option linter.unusedSimpArgs false
attribute [local go_sem high] run_minI run_maxI
attribute [local go_sem] upon2 cls_cell cls_frozen forall_const exists_eq_left'
attribute [local go_sem] FirstUpon
set_option maxRecDepth 100000 in
set_option maxHeartbeats 2000000 in
theorem nameR_any {s : ByteArray} {w : World} (hs : s.size ≤ maxLen) : Calls Tryz.prog 38 #[.string s] w fun e w' => e = .returned (.bool (okName s)) ∧ w = w' := by
  unfold maxLen at hs
  obtain ⟨v1, hv1⟩ : ∃ v, v = inB (s.size : Int) 1 24 := ⟨_, rfl⟩
  have HO1 : Hid (∀ W, Calls Tryz.prog 37 #[.int .i64 (s.size : Int), .int .i64 1, .int .i64 24] W fun e w' => e = .returned (.bool v1) ∧ W = w') := Lib.hid fun W => by rw [hv1]; exact in1_any _ _ _ W
  obtain ⟨E, hE⟩ : ∃ E, E = okName s := ⟨_, rfl⟩
  rw [← hE]
  have HE := Lib.hid hE
  cases v1
  case false =>
    have hE2 : E = false := by rw [hE]; unfold okName; rw [← hv1]; rfl
    have HE2 := Lib.hid hE2
    clear hE hE2 hv1
    go_enter Tryz.func38, Tryz.ntmps38
    go_wp2_with (fail)
    (with_reducible refine (HO1.out _).mono ?_)
    rintro e w' ⟨rfl, rfl⟩
    go_wp2_with (fail)
    go_ret
    exact ⟨ret_bool HE2.out.symm, rfl⟩
  case true =>
    have hsz := inB_iff.1 hv1.symm
    have hpos : 0 < s.size := by omega
    have HLT := Lib.hid (letter_any s[0])
    obtain ⟨v2, hv2⟩ : ∃ v, v = lowB s[0] := ⟨_, rfl⟩
    rw [← hv2] at HLT
    have h0 : lowB (s.data.toList.getD 0 0) = v2 := by rw [getD_byte hpos, hv2]
    have H0 := Lib.hid h0; have H1 := Lib.hid hv1
    cases v2
    case false =>
      have hE2 : E = false := by rw [hE]; unfold okName; rw [h0]; simp
      have HE2 := Lib.hid hE2
      clear hE hE2 hv1 hv2 h0 hsz
      go_enter Tryz.func38, Tryz.ntmps38
      go_wp2_with (fail)
      (with_reducible refine (HO1.out _).mono ?_)
      rintro e w' ⟨rfl, rfl⟩
      go_wp2_with (fail)
      (with_reducible refine (HLT.out _).mono ?_)
      rintro e w' ⟨rfl, rfl⟩
      go_wp2_with (fail)
      go_ret
      exact ⟨ret_bool HE2.out.symm, rfl⟩
    case true =>
      have hsl : s.size ≤ 24 := by omega
      clear hE hv1 hv2 h0 hsz
      go_enter Tryz.func38, Tryz.ntmps38
      go_wp2_with (fail)
      (with_reducible refine (HO1.out _).mono ?_)
      rintro e w' ⟨rfl, rfl⟩
      go_wp2_with (fail)
      (with_reducible refine (HLT.out _).mono ?_)
      rintro e w' ⟨rfl, rfl⟩
      go_wp2_with (fail)
      go_loop [3] (fun i => ∃ k : Nat, k ≤ s.size ∧ i = .int .i64 k ∧ ∀ i, i < k → nmAt s.data.toList i = true) (fun i => s.size - (intOf i).toNat)
      case atStart => exact ⟨0, Nat.zero_le _, rfl, fun i h => absurd h (Nat.not_lt_zero i)⟩
      case round =>
        obtain ⟨k, hk, rfl, hok⟩ := hrel
        have HOK := Lib.hid hok
        clear hok
        by_cases hlt : k < s.size
        · have HLK := Lib.hid (letter_any s[k])
          obtain ⟨c, hc⟩ : ∃ c, c = s[k] := ⟨_, rfl⟩
          rw [← hc] at HLK
          have hcs : s[k].toNat = c.toNat := by rw [hc]
          have hck : s.data.toList.getD k 0 = c := by rw [getD_byte hlt, hc]
          obtain ⟨n, hn⟩ : ∃ n, n = c.toNat := ⟨_, rfl⟩
          rw [← hn] at hcs HLK
          have hn256 : n < 256 := by rw [hn]; exact UInt8.toNat_lt _
          obtain ⟨v, hv⟩ : ∃ v, v = lowB c := ⟨_, rfl⟩
          rw [← hv] at HLK
          obtain ⟨d, hd⟩ : ∃ d, d = digB c := ⟨_, rfl⟩
          have hd' : d = decide ((48 : Int) ≤ (n : Int) ∧ (n : Int) ≤ 57) := by rw [hd, hn]; rfl
          have w3 : IntKind.i64.wrap ((k : Int) + 1) = (k : Int) + 1 := IntWalk.i64_in _ (by omega)
          have hcase : (v = true ∨ (v = false ∧ d = true)) ∨ (v = false ∧ d = false) := by cases v <;> cases d <;> simp
          rcases hcase with hal | ⟨rfl, rfl⟩
          · have hat : nmAt s.data.toList k = true := by
              unfold nmAt; rw [hck, ← hv, ← hd]
              rcases hal with h | ⟨-, h⟩ <;> rw [h] <;> simp
            have HAT := Lib.hid hat
            clear hat hc hck hn hd
            rcases hal with rfl | ⟨rfl, rfl⟩
            · clear hd' hv
              go_wp2_with (fail)
              (with_reducible refine (HLK.out _).mono ?_)
              rintro e w' ⟨rfl, rfl⟩
              go_wp2_with (fail)
              go_round
              case rel =>
                refine ⟨k + 1, by omega, by go_num, fun i h => ?_⟩
                rcases Nat.lt_or_ge i k with h' | h'
                · exact HOK.out i h'
                · obtain rfl : i = k := by omega
                  exact HAT.out
              case measure => simp [intOf]; omega
            · have hd2 := of_decide_eq_true hd'.symm
              clear hd' hv
              go_wp2_with (fail)
              (with_reducible refine (HLK.out _).mono ?_)
              rintro e w' ⟨rfl, rfl⟩
              go_wp2_with (fail)
              go_round
              case rel =>
                refine ⟨k + 1, by omega, by go_num, fun i h => ?_⟩
                rcases Nat.lt_or_ge i k with h' | h'
                · exact HOK.out i h'
                · obtain rfl : i = k := by omega
                  exact HAT.out
              case measure => simp [intOf]; omega
          · have hd2 := of_decide_eq_false hd'.symm
            have hk0 : 0 < k := by
              rcases Nat.eq_zero_or_pos k with h | h
              · have h00 := H0.out
                subst h; rw [hck, ← hv] at h00; cases h00
              · exact h
            have hk1 : k - 1 < s.size := by omega
            obtain ⟨p, hp⟩ : ∃ p, p = s[k - 1].toNat := ⟨_, rfl⟩
            have hpk : s.data.toList.getD (k - 1) 0 = s[k - 1] := getD_byte hk1
            have hp256 : p < 256 := by rw [hp]; exact UInt8.toNat_lt _
            have hcs2 := hp.symm
            have hat : nmAt s.data.toList k = ((decide (n = 45) && !decide (p = 45)) && decide (k + 1 ≠ s.size)) := by
              unfold nmAt
              rw [hck, ← hv, ← hd, hpk]
              have hl : s.data.toList.length = s.size := by simp
              rw [hl]
              have e1 : (c == 45) = decide (n = 45) := by
                rw [hn, Bool.beq_eq_decide_eq]; congr 1
                exact propext ⟨fun h => by rw [h]; rfl, fun h => UInt8.toNat_inj.1 h⟩
              have e2 : (s[k - 1] != 45) = !decide (p = 45) := by
                rw [hp, bne, Bool.beq_eq_decide_eq]; congr 2
                exact propext ⟨fun h => by rw [h]; rfl, fun h => UInt8.toNat_inj.1 h⟩
              rw [e1, e2]; rfl
            obtain ⟨u, hu⟩ : ∃ u, u = nmAt s.data.toList k := ⟨_, rfl⟩
            rw [← hu] at hat
            have HU := Lib.hid hu
            have pw1 : IntKind.i64.wrap ((k : Int) - 1) = (k : Int) - 1 := IntWalk.i64_in _ (by omega)
            have pw2 : (1 : Int) ≤ (k : Int) := by omega
            have pw3 : ((k : Int) - 1).toNat = k - 1 := by omega
            have HH := Lib.hid hat
            have wl : IntKind.i64.wrap ((s.size : Int) - 1) = (s.size : Int) - 1 := IntWalk.i64_in _ (by omega)
            clear hc hck hn hd hv hd' hp hpk hu
            by_cases h45 : n = 45
            · have h45b : ((n : Int) != 45) = false := by simp; omega
              have H45 := Lib.hid h45
              have h48 : (n : Int) < 48 := by omega
              clear h45 hd2
              by_cases hp45 : p = 45
              · have hpb : ((p : Int) == 45) = true := by simp; omega
                have hE2 : E = false := by rw [HE.out]; exact ok_false hlt (by rw [← HU.out, HH.out]; simp [hp45])
                clear hp45
                have HE2 := Lib.hid hE2
                clear hE2 hat
                go_wp2_with (fail)
                (with_reducible refine (HLK.out _).mono ?_)
                rintro e w' ⟨rfl, rfl⟩
                go_wp2_with (fail)
                go_ret
                exact ⟨ret_bool HE2.out.symm, rfl⟩
              · have hpb : ((p : Int) == 45) = false := by simp; omega
                by_cases hl : k + 1 = s.size
                · have hE2 : E = false := by rw [HE.out]; exact ok_false hlt (by rw [← HU.out, HH.out]; simp [hl])
                  have HE2 := Lib.hid hE2
                  have hlb : ((k : Int) == (s.size : Int) - 1) = true := by simp; omega
                  have HL := Lib.hid hl
                  clear hE2 hat hp45 hl
                  go_wp2_with (fail)
                  (with_reducible refine (HLK.out _).mono ?_)
                  rintro e w' ⟨rfl, rfl⟩
                  go_wp2_with (fail)
                  go_ret
                  exact ⟨ret_bool HE2.out.symm, rfl⟩
                · have HAT : Hid (nmAt s.data.toList k = true) := Lib.hid (by rw [← HU.out, HH.out]; simp [hl, hp45, H45.out])
                  have hlb : ((k : Int) == (s.size : Int) - 1) = false := by simp; omega
                  clear hat hp45 hl
                  go_wp2_with (fail)
                  (with_reducible refine (HLK.out _).mono ?_)
                  rintro e w' ⟨rfl, rfl⟩
                  go_wp2_with (fail)
                  go_round
                  case rel =>
                    refine ⟨k + 1, by omega, by go_num, fun i h => ?_⟩
                    rcases Nat.lt_or_ge i k with h' | h'
                    · exact HOK.out i h'
                    · obtain rfl : i = k := by omega
                      exact HAT.out
                  case measure => simp [intOf]; omega
            · have hE2 : E = false := by rw [HE.out]; exact ok_false hlt (by rw [← HU.out, HH.out]; simp [h45])
              have HE2 := Lib.hid hE2
              have h45b : ((n : Int) != 45) = true := by simp; omega
              have hd3 : (n : Int) < 48 ∨ 57 < (n : Int) := by omega
              clear hE2 hat h45 hd2
              rcases hd3 with hd3 | hd3
              all_goals
                go_wp2_with (fail)
                (with_reducible refine (HLK.out _).mono ?_)
                rintro e w' ⟨rfl, rfl⟩
                go_wp2_with (fail)
                go_ret
                exact ⟨ret_bool HE2.out.symm, rfl⟩
        · obtain rfl : k = s.size := by omega
          have hE2 : E = true := by rw [HE.out]; exact ok_true H1.out.symm H0.out HOK.out
          have HE2 := Lib.hid hE2
          clear hE2
          go_wp2_with (fail)
          go_ret
          exact ⟨ret_bool HE2.out.symm, rfl⟩
end Go.Proofs.YtapeakbngligaaaGreatDoor
