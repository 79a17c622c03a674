/-
  Insertion of a note into a list in order, plain.
  Parts of slices.
  Parts of slices of notes.
  ref.stands.
  ref.before.
  ref.standing.
-/
import Derived.Test.YtojomdojblgegaaGreatDoorBPlA
import Derived.Test.YtojomdojblgegaaGreatDoorBView
import Derived.Test.YtojomdojblgegaaGreatDoorBBase
import Derived.Test.YtojomdojblgegaaGreatDoorBMrg
import Derived.Test.YtojomdojblgegaaGreatDoorBRA
import Derived.Test.YtojomdojblgegaaGreatDoorBOrS
import Derived.Test.YtojomdojblgegaaGreatDoorBReg
namespace Go.Proofs.YtojomdojblgegaaGreatDoor.D
theorem insN_at {x : Note} : ∀ {out : List Note} {m : Nat}, (∀ j, j < m → ordV (ntD out j) x < 0) → m ≤ out.length → (m = out.length ∨ ¬ ordV (ntD out m) x < 0) → insN x out = if m < out.length ∧ ntD out m = x then out else out.take m ++ x :: out.drop m
  | [], m, _, hm, _ => by
    obtain rfl : m = 0 := by simpa using hm
    rfl
  | y :: out, 0, _, _, h => by
    have h0 : ¬ ordV y x < 0 := by rcases h with h | h; · simp at h
                                   · exact h
    rw [insN, if_neg h0]
    by_cases he : y = x
    · rw [if_pos he, if_pos ⟨by simp, he⟩]
    · rw [if_neg he, if_neg (fun hh => he hh.2)]; rfl
  | y :: out, m + 1, hl, hm, h => by
    have h0 : ordV y x < 0 := hl 0 (by omega)
    rw [insN, if_pos h0, insN_at (out := out) (m := m) (fun j hj => hl (j + 1) (by omega)) (by simpa using hm) (by rcases h with h | h; · left; simpa using h
                                                                                                                   · right; exact h)]
    have e : ntD (y :: out) (m + 1) = ntD out m := rfl
    by_cases hc : m < out.length ∧ ntD out m = x
    · rw [if_pos hc, if_pos ⟨by simpa using hc.1, by rw [e]; exact hc.2⟩]
    · rw [if_neg hc, if_neg (fun hh => hc ⟨by simpa using hh.1, by rw [← e]; exact hh.2⟩)]; rfl
theorem standK_app {l : List Note} {x : Note} : ∀ {r out : List Note}, standK l (r ++ [x]) out = if standsB l x then insN x (standK l r out) else standK l r out
  | [], out => by
    show standK l [x] out = _
    rw [standK]; rfl
  | y :: r, out => by
    rw [List.cons_append, standK, standK_app, standK]
theorem standK_take {l : List Note} {k : Nat} (hk : k < l.length) : standK l (l.take (k + 1)) [] = if standsB l (ntD l k) then insN (ntD l k) (standK l (l.take k) []) else standK l (l.take k) [] := by
  rw [List.take_succ_eq_append_getElem hk, standK_app]
  have : l[k] = ntD l k := by unfold ntD; rw [List.getD_eq_getElem?_getD, List.getElem?_eq_getElem hk]; rfl
  rw [this]
theorem insN_len {x : Note} : ∀ {l : List Note}, (insN x l).length ≤ l.length + 1
  | [] => by simp [insN]
  | y :: l => by
    rw [insN]
    have := insN_len (x := x) (l := l)
    split
    · simpa using this
    · split <;> simp
theorem standK_len {l : List Note} : ∀ {k : Nat}, k ≤ l.length → (standK l (l.take k) []).length ≤ k
  | 0, _ => by simp [standK]
  | k + 1, h => by
    rw [standK_take (by omega)]
    have ih := standK_len (l := l) (k := k) (by omega)
    have := insN_len (x := ntD l k) (l := standK l (l.take k) [])
    split <;> omega
end Go.Proofs.YtojomdojblgegaaGreatDoor.D
namespace Go.Proofs.YtojomdojblgegaaGreatDoor
open Go.RowKit D
set_option linter.unusedVariables false
set_option linter.unusedSimpArgs false
attribute [local go_sem high] run_minI run_maxI
attribute [local go_sem] upon2 cls_cell cls_frozen forall_const exists_eq_left'
def takeA (a : Option Addr) (cap sz : Nat) : Option Addr := if cap = 0 then a else a.map (·.add (0 * sz))
def dropA (a : Option Addr) (cap m sz : Nat) : Option Addr := if cap = m then a else a.map (·.add (m * sz))
theorem addr_addA (b o k : Nat) : (⟨b, o, none⟩ : Addr).add k = ⟨b, o + k, none⟩ := by
  unfold Addr.add; split
  · rename_i h; rw [h]; rfl
  · rfl
theorem row_take {w : World} {s : Sl} {sz n m : Nat} {c : Nat → Nat → Value} (h : RowS w s sz n c) (hm : m ≤ n) : RowS w ⟨takeA s.a s.cap sz, s.cap⟩ sz m c := by
  have h1 := h.le; have h2 := h.max
  refine ⟨by simp only; omega, h2, fun i j hi hj => ?_⟩
  obtain ⟨b, off, ha, hc⟩ := h.cell i j (by omega) hj
  refine ⟨b, off, ?_, hc⟩
  unfold takeA
  rw [if_neg (by omega), ha, Option.map_some, addr_addA, Nat.zero_mul, Nat.add_zero]
theorem row_drop {w : World} {s : Sl} {sz n m : Nat} {c : Nat → Nat → Value} (h : RowS w s sz n c) (hm : m ≤ n) : RowS w ⟨dropA s.a s.cap m sz, s.cap - m⟩ sz (n - m) (fun i j => c (m + i) j) := by
  have h1 := h.le; have h2 := h.max
  refine ⟨by simp only; omega, by simp only; omega, fun i j hi hj => ?_⟩
  obtain ⟨b, off, ha, hc⟩ := h.cell (m + i) j (by omega) hj
  refine ⟨b, off + m * sz, ?_, ?_⟩
  · unfold dropA
    rw [if_neg (by omega), ha, Option.map_some, addr_addA]
  · rw [← hc]
    congr 2
    rw [Nat.add_mul]; omega
theorem rowS_congr {w : World} {s : Sl} {sz n : Nat} {c c' : Nat → Nat → Value} (h : RowS w s sz n c) (hc : ∀ i j, i < n → j < sz → c i j = c' i j) : RowS w s sz n c' :=
  ⟨h.le, h.max, fun i j hi hj => by
    obtain ⟨b, off, ha, h1⟩ := h.cell i j hi hj
    exact ⟨b, off, ha, by rw [h1, hc i j hi hj]⟩⟩
end Go.Proofs.YtojomdojblgegaaGreatDoor
namespace Go.Proofs.YtojomdojblgegaaGreatDoor
open Go.RowKit D
set_option linter.unusedVariables false
set_option linter.unusedSimpArgs false
attribute [local go_sem high] run_minI run_maxI
attribute [local go_sem] upon2 cls_cell cls_frozen forall_const exists_eq_left'
theorem run_notes_to (a : Option Addr) (len cap m : Nat) (hm : m ≤ cap) (w : World) : (Instr.slice 23 (.slice a len cap) none (some (.int .i64 (m : Int))) none).run Tryz.prog w = .ok (.slice (takeA a cap 8) m cap) w := by
  rw [run_slice_h w 23 a len cap (by kernel_rfl) .i64 (m : Int) (by omega) (by omega)]
  have h : (sizeOf (Tryz.prog.elem 23)).run Tryz.prog w = .ok 8 w := by kernel_rfl
  rw [h]; rfl
theorem run_notes_from (a : Option Addr) (len cap m : Nat) (hm : m ≤ len) (w : World) : (Instr.slice 23 (.slice a len cap) (some (.int .i64 (m : Int))) none none).run Tryz.prog w = .ok (.slice (dropA a cap m 8) (len - m) (cap - m)) w := by
  rw [run_slice_l w 23 a len cap (by kernel_rfl) .i64 (m : Int) (by omega) (by omega)]
  have h : (sizeOf (Tryz.prog.elem 23)).run Tryz.prog w = .ok 8 w := by kernel_rfl
  rw [h]; rfl
theorem ntC_take2 {l : List Note} {m i j : Nat} (hi : i < m) : ntC (l.take m) i j = ntC l i j := by
  have : ntD (l.take m) i = ntD l i := by unfold ntD; rw [List.getD_eq_getElem?_getD, List.getD_eq_getElem?_getD, List.getElem?_take_of_lt hi]
  unfold ntC; rw [this]
theorem ntC_drop2 {l : List Note} {m i j : Nat} : ntC (l.drop m) i j = ntC l (m + i) j := by
  have : ntD (l.drop m) i = ntD l (m + i) := by unfold ntD; rw [List.getD_eq_getElem?_getD, List.getD_eq_getElem?_getD, List.getElem?_drop]
  unfold ntC; rw [this]
theorem blk_grown {w w' : World} {row : Option Nat} (hg : w.grownBy w' row) {b : Nat} {o : Obj} (hb : w.heap[b]? = some o) (hne : some b ≠ row) : w'.heap[b]? = some o := by
  rw [hg.block b (blk_lt' hb) hne]; exact hb
theorem ins_len {O : List Note} {x : Note} {m : Nat} (hm : m ≤ O.length) : (O.take m ++ [x]).length = m + 1 := by rw [List.length_append, List.length_singleton, List.length_take]; omega
theorem ins_left {O : List Note} {x : Note} {m i j : Nat} (hm : m ≤ O.length) (hi : i < m + 1) : ntC (O.take m ++ x :: O.drop m) i j = ntC (O.take m ++ [x]) i j := by
  rw [show O.take m ++ x :: O.drop m = (O.take m ++ [x]) ++ O.drop m by simp]
  exact ntC_left (by rw [ins_len hm]; exact hi)
theorem ins_right {O : List Note} {x : Note} {m i j : Nat} (hm : m ≤ O.length) : ntC (O.take m ++ x :: O.drop m) (m + 1 + i) j = ntC O (m + i) j := by
  rw [show O.take m ++ x :: O.drop m = (O.take m ++ [x]) ++ O.drop m by simp, ← ins_len (x := x) hm, ntC_right, ntC_drop2]
end Go.Proofs.YtojomdojblgegaaGreatDoor
namespace Go.Proofs.YtojomdojblgegaaGreatDoor
open Go.RowKit D
set_option linter.unusedVariables false
set_option linter.unusedSimpArgs false
attribute [local go_sem high] run_minI run_maxI
attribute [local go_sem] upon2 cls_cell cls_frozen forall_const exists_eq_left'
attribute [local go_sem] FirstUpon atBlk_cell
def stdB (x y : Note) : Bool := !(decide (y.by_ = x.by_) && decide (y.number = x.number) && (decide (x.rev < y.rev) || (decide (y.rev = x.rev) && decide (y ≠ x))))
theorem standsB_all (l : List Note) (x : Note) : standsB l x = l.all (stdB x) := rfl
theorem nt_eq {x y : Note} : y = x ↔ (y.by_ = x.by_ ∧ y.number = x.number ∧ y.rev = x.rev ∧ y.kind = x.kind ∧ y.from_ = x.from_ ∧ y.until_ = x.until_ ∧ y.mlo = x.mlo ∧ y.mhi = x.mhi) := by
  cases x; cases y; simp
set_option maxRecDepth 100000 in
set_option maxHeartbeats 8000000 in
theorem standsR_any {l : List Note} {s : Sl} {x : Note} {w : World} (hl : NotesS w s l) : Calls Tryz.prog 71 #[.slice s.a l.length s.cap, .agg #[.string x.by_, .int .i64 x.number, .int .i64 x.rev, .int .i64 x.kind, .int .i64 x.from_, .int .i64 x.until_, .int .i64 x.mlo, .int .i64 x.mhi]] w fun e w' => e = .returned (.bool (standsB l x)) ∧ Below w.heap.size w w' := by
  have HL := Lib.hid hl
  have hle := hl.le; have hmx := hl.max
  obtain ⟨v, hv⟩ : ∃ v, v = standsB l x := ⟨_, rfl⟩
  rw [← hv]
  rw [standsB_all] at hv
  have HV := Lib.hid hv
  obtain ⟨sa, sc⟩ := s
  obtain ⟨n, hn⟩ : ∃ n, n = l.length := ⟨_, rfl⟩
  rw [← hn] at hle ⊢
  have HN := Lib.hid hn
  dsimp only at hle hmx
  clear hl hv hn
  go_enter Tryz.func71, Tryz.ntmps71
  go_upto_region 1 with (fail)
  refine wp_name ?_
  intro w3 hw3
  obtain ⟨n3, hn3⟩ : ∃ n, n = w.heap.size := ⟨_, rfl⟩
  have x3 : w3.heap[n3]? = some (Obj.cells #[.string x.by_, .int .i64 x.number, .int .i64 x.rev, .int .i64 x.kind, .int .i64 x.from_, .int .i64 x.until_, .int .i64 x.mlo, .int .i64 x.mhi] 59) := by rw [hw3, hn3]; exact blk_new _ _
  have hE3 : Ext2 w w3 := by rw [hw3]; exact below_alloc' _ _
  rw [← hn3]
  have HE3 := Lib.hid hE3; have X3 := Lib.hid x3
  clear hw3 hn3 hE3 x3
  go_wp2_with (fail)
  go_loopw [5] (fun i wr => ∃ k : Nat, i = .int .i64 k ∧ k ≤ n ∧ Ext2 w3 wr ∧ ∀ j, j < k → stdB x (ntD l j) = true) (fun i _ => n - (intOf i).toNat)
  case atStart => exact ⟨0, rfl, by omega, Below.refl _ _, fun j h => absurd h (by omega)⟩
  case round =>
    obtain ⟨k, rfl, hk, hE, hall⟩ := hrel
    have HE := Lib.hid hE; have HALL := Lib.hid hall
    clear hE hall
    by_cases hlt : k < n
    · go_light
      have hkl : k < l.length := by rw [← HN.out]; exact hlt
      obtain ⟨b, off, hla, c0, c1, c2, c3, c4, c5, c6, c7⟩ := nt_cells (RowS.below HL.out (ext_trans HE3.out HE.out)) hkl
      dsimp only at hla
      subst hla
      have hmem := nt_in hkl
      obtain ⟨y, hy⟩ : ∃ y, y = ntD l k := ⟨_, rfl⟩
      rw [← hy] at c0 c1 c2 c3 c4 c5 c6 c7 hmem
      have HNO : Hid (stdB x y = false → v = false) := Lib.hid fun h => by
        rw [HV.out]
        cases hc : l.all (stdB x) with
        | false => rfl
        | true => have := List.all_eq_true.1 hc y hmem; rw [h] at this; cases this
      have HYES : Hid (stdB x y = true → ∀ j, j < k + 1 → stdB x (ntD l j) = true) := Lib.hid fun h j hj => by
        rcases Nat.lt_or_ge j k with h' | h'
        · exact HALL.out j h'
        · obtain rfl : j = k := by omega
          rw [← hy]; exact h
      have h0 : (0 : Int) ≤ (k : Int) := by omega
      have h1 : (k : Int) < (n : Int) := by omega
      have w1' : IntKind.i64.wrap ((k : Int) + 1) = (k : Int) + 1 := IntWalk.i64_in _ (by omega)
      clear hy hmem hkl
      go_upto_region 5 with (fail)
      refine wp_name ?_
      intro w5 hw5
      obtain ⟨n5, hn5⟩ : ∃ n, n = wr.heap.size := ⟨_, rfl⟩
      have x5 : w5.heap[n5]? = some (Obj.cells #[.string y.by_, .int .i64 y.number, .int .i64 y.rev, .int .i64 y.kind, .int .i64 y.from_, .int .i64 y.until_, .int .i64 y.mlo, .int .i64 y.mhi] 59) := by rw [hw5, hn5]; exact blk_new _ _
      have hE5 : Ext2 wr w5 := by rw [hw5]; exact below_alloc' _ _
      have x3 := Ext2.blk (ext_trans HE.out hE5) X3.out
      have HE5 := Lib.hid (ext_trans HE.out hE5)
      rw [← hn5]
      clear hw5 hn5 hE5 c0 c1 c2 c3 c4 c5 c6 c7
      have q3c := cell_blk x3
      have q3f := frz_blk x3
      have q5c := cell_blk x5
      have q5f := frz_blk x5
      clear x3 x5
      by_cases hA : y.by_ = x.by_
      case neg =>
        have HY := Lib.hid (HYES.out (by unfold stdB; rw [decide_eq_false hA]; rfl))
        have hS : (y.by_.toList == x.by_.toList) = false := by simp [toL_iff, hA]
        clear hA
        go_wp2_with (fail)
        clear q3c q3f q5c q5f
        go_roundw
        case rel => exact ⟨k + 1, by go_num, by omega, HE5.out, HY.out⟩
        case measure => simp [intOf]; omega
      have hS : (y.by_.toList == x.by_.toList) = true := by simp [hA]
      by_cases hB : y.number = x.number
      case neg =>
        have HY := Lib.hid (HYES.out (by unfold stdB; rw [decide_eq_false hB, Bool.and_false]; rfl))
        have b1 : (y.number == x.number) = false := by simpa using hB
        clear hA hB
        go_wp2_with (fail)
        clear q3c q3f q5c q5f
        go_roundw
        case rel => exact ⟨k + 1, by go_num, by omega, HE5.out, HY.out⟩
        case measure => simp [intOf]; omega
      have b1 : (y.number == x.number) = true := by simpa using hB
      by_cases hC : x.rev < y.rev
      · obtain rfl := HNO.out (by unfold stdB; rw [decide_eq_true hA, decide_eq_true hB, decide_eq_true hC]; rfl)
        have b2 : decide (x.rev < y.rev) = true := decide_eq_true hC
        clear hA hB
        go_wp2_with (fail)
        go_ret
        exact ⟨rfl, ext_trans HE3.out HE5.out⟩
      have b2 : decide (x.rev < y.rev) = false := decide_eq_false hC
      by_cases hD : y.rev = x.rev
      case neg =>
        have HY := Lib.hid (HYES.out (by unfold stdB; rw [decide_eq_false hC, decide_eq_false hD, Bool.false_and, Bool.or_false, Bool.and_false]; rfl))
        have b3 : (y.rev == x.rev) = false := by simpa using hD
        clear hA hB hD
        go_wp2_with (fail)
        clear q3c q3f q5c q5f
        go_roundw
        case rel => exact ⟨k + 1, by go_num, by omega, HE5.out, HY.out⟩
        case measure => simp [intOf]; omega
      have b3 : (y.rev == x.rev) = true := by simpa using hD
      by_cases hQ : y = x
      · have HY := Lib.hid (HYES.out (by unfold stdB; rw [decide_eq_false hC, decide_eq_false (not_not_intro hQ), Bool.and_false, Bool.or_false, Bool.and_false]; rfl))
        have hE : ∀ W : World, (binOp .neq 59 (.agg #[.string y.by_, .int .i64 y.number, .int .i64 y.rev, .int .i64 y.kind, .int .i64 y.from_, .int .i64 y.until_, .int .i64 y.mlo, .int .i64 y.mhi]) (.agg #[.string x.by_, .int .i64 x.number, .int .i64 x.rev, .int .i64 x.kind, .int .i64 x.from_, .int .i64 x.until_, .int .i64 x.mlo, .int .i64 x.mhi])).run Tryz.prog W = .ok (.bool false) W := fun W => by rw [run_neq_sameNt, decide_eq_true (nt_eq.1 hQ)]; rfl
        clear hA hB hD hQ
        go_wp2_with (fail)
        clear q3c q3f q5c q5f hE
        go_roundw
        case rel => exact ⟨k + 1, by go_num, by omega, HE5.out, HY.out⟩
        case measure => simp [intOf]; omega
      · obtain rfl := HNO.out (by unfold stdB; rw [decide_eq_true hA, decide_eq_true hB, decide_eq_true hD, decide_eq_true hQ, Bool.true_and, Bool.true_and, Bool.or_true]; rfl)
        have hE : ∀ W : World, (binOp .neq 59 (.agg #[.string y.by_, .int .i64 y.number, .int .i64 y.rev, .int .i64 y.kind, .int .i64 y.from_, .int .i64 y.until_, .int .i64 y.mlo, .int .i64 y.mhi]) (.agg #[.string x.by_, .int .i64 x.number, .int .i64 x.rev, .int .i64 x.kind, .int .i64 x.from_, .int .i64 x.until_, .int .i64 x.mlo, .int .i64 x.mhi])).run Tryz.prog W = .ok (.bool true) W := fun W => by rw [run_neq_sameNt, decide_eq_false (fun h => hQ (nt_eq.2 h))]; rfl
        clear hA hB hD hQ
        go_wp2_with (fail)
        go_ret
        exact ⟨rfl, ext_trans HE3.out HE5.out⟩
    · obtain rfl : n = k := by omega
      have hnk : ¬ (n : Int) < (n : Int) := by omega
      obtain rfl : v = true := by
        rw [HV.out]
        refine List.all_eq_true.2 fun y hy => ?_
        obtain ⟨i, hi, rfl⟩ := nt_mem hy
        exact HALL.out i (by rw [HN.out]; exact hi)
      go_wp2_with (fail)
      go_ret
      exact ⟨rfl, ext_trans HE3.out HE.out⟩
end Go.Proofs.YtojomdojblgegaaGreatDoor
namespace Go.Proofs.YtojomdojblgegaaGreatDoor.D
theorem fst0_at : ∀ {l : List Int} {k : Nat}, (∀ j, j < k → intD l j = 0) → k < l.length → intD l k ≠ 0 → fst0 l = intD l k
  | [], k, _, h, _ => absurd h (by simp)
  | x :: l, 0, _, _, hk => by rw [fst0, if_pos (show x ≠ 0 from hk)]; rfl
  | x :: l, k + 1, h, hl, hk => by
    have h0 : x = 0 := h 0 (by omega)
    rw [fst0, if_neg (by simpa using h0)]
    exact fst0_at (l := l) (k := k) (fun j hj => h (j + 1) (by omega)) (by simpa using hl) hk
end Go.Proofs.YtojomdojblgegaaGreatDoor.D
namespace Go.Proofs.YtojomdojblgegaaGreatDoor
open Go.RowKit D
set_option linter.unusedVariables false
set_option linter.unusedSimpArgs false
attribute [local go_sem high] run_minI run_maxI
attribute [local go_sem] upon2 cls_cell cls_frozen forall_const exists_eq_left'
attribute [local go_sem] FirstUpon atBlk_cell
def bfP (a : Note) : List Int := [a.from_, a.until_, a.kind]
def bfQ (a : Note) : List Int := [a.number, a.rev, a.mlo, a.mhi]
theorem bfP_cell {w : World} {b : Nat} {a : Note} (h : w.heap[b]? = some (.cells #[.int .i64 a.from_, .int .i64 a.until_, .int .i64 a.kind] 3 (0, 0))) (k : Nat) (hk : k < 3) : w.cell? ⟨b, k, none⟩ = some (.int .i64 (intD (bfP a) k)) := by
  rw [cell_blk h]
  rcases (by omega : k = 0 ∨ k = 1 ∨ k = 2) with rfl | rfl | rfl <;> rfl
theorem bfQ_cell {w : World} {b : Nat} {a : Note} (h : w.heap[b]? = some (.cells #[.int .i64 a.number, .int .i64 a.rev, .int .i64 a.mlo, .int .i64 a.mhi] 3 (0, 0))) (k : Nat) (hk : k < 4) : w.cell? ⟨b, k, none⟩ = some (.int .i64 (intD (bfQ a) k)) := by
  rw [cell_blk h]
  rcases (by omega : k = 0 ∨ k = 1 ∨ k = 2 ∨ k = 3) with rfl | rfl | rfl | rfl <;> rfl
def bfO (a b : Note) : List Int := [a.from_ - b.from_, a.until_ - b.until_, a.kind - b.kind, cmpS a.by_ b.by_, a.number - b.number, a.rev - b.rev, a.mlo - b.mlo, a.mhi - b.mhi]
theorem ordP (a b : Note) (k : Nat) (hk : k < 3) : intD (bfO a b) k = intD (bfP a) k - intD (bfP b) k := by
  rcases (by omega : k = 0 ∨ k = 1 ∨ k = 2) with rfl | rfl | rfl <;> rfl
theorem ordQ (a b : Note) (k : Nat) (hk : k < 4) : intD (bfO a b) (k + 4) = intD (bfQ a) k - intD (bfQ b) k := by
  rcases (by omega : k = 0 ∨ k = 1 ∨ k = 2 ∨ k = 3) with rfl | rfl | rfl | rfl <;> rfl
/-- Where the first parts differ. -/
theorem ord_first {a b : Note} {k : Nat} (h : ∀ j, j < k → intD (bfP a) j = intD (bfP b) j) (hk : k < 3) (hn : intD (bfP a) k ≠ intD (bfP b) k) : decide (ordV a b < 0) = decide (intD (bfP a) k < intD (bfP b) k) := by
  have e : ordV a b = intD (bfO a b) k := fst0_at (l := bfO a b) (k := k) (fun j hj => by rw [ordP a b j (by omega), h j hj]; omega) (by show k < 8; omega) (by rw [ordP a b k hk]; omega)
  rw [e, ordP a b k hk]
  exact decide_eq_decide.2 ⟨fun h => by omega, fun h => by omega⟩
theorem ord_name {a b : Note} (h : ∀ j, j < 3 → intD (bfP a) j = intD (bfP b) j) (hn : a.by_ ≠ b.by_) : decide (ordV a b < 0) = ltB a.by_ b.by_ := by
  have hc : cmpS a.by_ b.by_ ≠ 0 := fun hz => hn (cmpS_zero.1 hz)
  have e : ordV a b = cmpS a.by_ b.by_ := fst0_at (l := bfO a b) (k := 3) (fun j hj => by rw [ordP a b j hj, h j hj]; omega) (by show 3 < 8; omega) hc
  rw [e]
  unfold cmpS at hc ⊢
  by_cases h1 : ltB a.by_ b.by_ = true
  · rw [if_pos h1, h1]; rfl
  · rw [if_neg h1] at hc ⊢
    by_cases h2 : ltB b.by_ a.by_ = true
    · rw [if_pos h2]; simp [h1]
    · rw [if_neg h2] at hc; exact absurd rfl hc
theorem ord_last {a b : Note} {k : Nat} (h : ∀ j, j < 3 → intD (bfP a) j = intD (bfP b) j) (hn : a.by_ = b.by_) (h2 : ∀ j, j < k → intD (bfQ a) j = intD (bfQ b) j) (hk : k < 4) (hd : intD (bfQ a) k ≠ intD (bfQ b) k) : decide (ordV a b < 0) = decide (intD (bfQ a) k < intD (bfQ b) k) := by
  have e : ordV a b = intD (bfO a b) (k + 4) := fst0_at (l := bfO a b) (k := k + 4) (fun j hj => by
    rcases Nat.lt_or_ge j 3 with h' | h'
    · rw [ordP a b j h', h j h']; omega
    · rcases Nat.lt_or_ge j 4 with h3 | h3
      · obtain rfl : j = 3 := by omega
        show cmpS a.by_ b.by_ = 0
        exact cmpS_zero.2 hn
      · obtain ⟨i, rfl⟩ : ∃ i, j = i + 4 := ⟨j - 4, by omega⟩
        rw [ordQ a b i (by omega), h2 i (by omega)]; omega) (by show k + 4 < 8; omega) (by rw [ordQ a b k hk]; omega)
  rw [e, ordQ a b k hk]
  exact decide_eq_decide.2 ⟨fun h => by omega, fun h => by omega⟩
theorem ord_none {a b : Note} (h : ∀ j, j < 3 → intD (bfP a) j = intD (bfP b) j) (hn : a.by_ = b.by_) (h2 : ∀ j, j < 4 → intD (bfQ a) j = intD (bfQ b) j) : decide (ordV a b < 0) = false := by
  have e : ordV a b = 0 := fst0_zero.2 fun x hx => by
    have hx' : x ∈ bfO a b := hx
    obtain ⟨j, hj, rfl⟩ := List.mem_iff_getElem.1 hx'
    have hj8 : j < 8 := hj
    have hg : (bfO a b)[j] = intD (bfO a b) j := by unfold intD; rw [List.getD_eq_getElem?_getD, List.getElem?_eq_getElem hj]; rfl
    refine hg.trans ?_
    rcases Nat.lt_or_ge j 3 with h' | h'
    · rw [ordP a b j h', h j h']; omega
    · rcases Nat.lt_or_ge j 4 with h3 | h3
      · obtain rfl : j = 3 := by omega
        exact cmpS_zero.2 hn
      · obtain ⟨i, rfl⟩ : ∃ i, j = i + 4 := ⟨j - 4, by omega⟩
        rw [ordQ a b i (by omega), h2 i (by omega)]; omega
  rw [e]; rfl
set_option maxRecDepth 100000 in
set_option maxHeartbeats 8000000 in
theorem beforeN_any {a b : Note} {w : World} : Calls Tryz.prog 72 #[.agg #[.string a.by_, .int .i64 a.number, .int .i64 a.rev, .int .i64 a.kind, .int .i64 a.from_, .int .i64 a.until_, .int .i64 a.mlo, .int .i64 a.mhi], .agg #[.string b.by_, .int .i64 b.number, .int .i64 b.rev, .int .i64 b.kind, .int .i64 b.from_, .int .i64 b.until_, .int .i64 b.mlo, .int .i64 b.mhi]] w fun e w' => e = .returned (.bool (decide (ordV a b < 0))) ∧ Below w.heap.size w w' := by
  obtain ⟨v, hv⟩ : ∃ v, v = decide (ordV a b < 0) := ⟨_, rfl⟩
  rw [← hv]
  have HV := Lib.hid hv
  clear hv
  go_enter Tryz.func72, Tryz.ntmps72
  go_upto_region 1 with (fail)
  refine wp_name ?_
  intro w3 hw3
  obtain ⟨n2, hn2⟩ : ∃ n, n = w.heap.size := ⟨_, rfl⟩
  obtain ⟨n3, hn3⟩ : ∃ n, n = n2 + 1 := ⟨_, rfl⟩
  have x2 : w3.heap[n2]? = some (Obj.cells #[.string a.by_, .int .i64 a.number, .int .i64 a.rev, .int .i64 a.kind, .int .i64 a.from_, .int .i64 a.until_, .int .i64 a.mlo, .int .i64 a.mhi] 59) := by rw [hw3, hn2]; exact blk_alloc (blk_new _ _) _
  have x3 : w3.heap[n3]? = some (Obj.cells #[.string b.by_, .int .i64 b.number, .int .i64 b.rev, .int .i64 b.kind, .int .i64 b.from_, .int .i64 b.until_, .int .i64 b.mlo, .int .i64 b.mhi] 59) := by rw [hw3, hn3, hn2]; exact blk_new' _ _ (by simp)
  have hE3 : Ext2 w w3 := by rw [hw3]; exact ext_trans (below_alloc' _ _) (below_alloc' _ _)
  rw [← hn2, ← hn3]
  have HE3 := Lib.hid hE3; have X2 := Lib.hid x2; have X3 := Lib.hid x3
  clear hw3 hn2 hn3 hE3
  have q2c := cell_blk x2
  have q2f := frz_blk x2
  have q3c := cell_blk x3
  have q3f := frz_blk x3
  clear x2 x3
  go_upto_region 2 with (fail)
  refine wp_name ?_
  intro wa hwa
  obtain ⟨n5, hn5⟩ : ∃ n, n = w3.heap.size := ⟨_, rfl⟩
  have x5 : wa.heap[n5]? = some (.cells #[.int .i64 a.from_, .int .i64 a.until_, .int .i64 a.kind] 3 (0, 0)) := by rw [hwa, hn5]; exact blk_new _ _
  have hEa : Ext2 w3 wa := by rw [hwa]; exact below_alloc' _ _
  rw [← hn5]
  have HEa := Lib.hid (ext_trans HE3.out hEa)
  have X2a := Lib.hid (Ext2.blk hEa X2.out); have X3a := Lib.hid (Ext2.blk hEa X3.out); have X5a := Lib.hid x5
  clear hwa hn5 hEa q2c q2f q3c q3f X2 X3 HE3 x5
  have x3 := X3a.out
  have q3c := cell_blk x3
  have q3f := frz_blk x3
  clear x3
  go_upto_region 3 with (fail)
  refine wp_name ?_
  intro w4 hw4
  obtain ⟨n6, hn6⟩ : ∃ n, n = wa.heap.size := ⟨_, rfl⟩
  have x6 : w4.heap[n6]? = some (.cells #[.int .i64 b.from_, .int .i64 b.until_, .int .i64 b.kind] 3 (0, 0)) := by rw [hw4, hn6]; exact blk_new _ _
  have hE4 : Ext2 wa w4 := by rw [hw4]; exact below_alloc' _ _
  rw [← hn6]
  have HE4 := Lib.hid (ext_trans HEa.out hE4); have X5 := Lib.hid (Ext2.blk hE4 X5a.out); have X6 := Lib.hid x6
  have X24 := Lib.hid (Ext2.blk hE4 X2a.out); have X34 := Lib.hid (Ext2.blk hE4 X3a.out)
  clear hw4 hn6 hE4 q3c q3f X2a X3a X5a HEa x6
  go_wp2_with (fail)
  go_loopw [7] (fun i wr => ∃ k : Nat, i = .int .i64 k ∧ k ≤ 3 ∧ Ext2 w4 wr ∧ ∀ j, j < k → intD (bfP a) j = intD (bfP b) j) (fun i _ => 3 - (intOf i).toNat)
  case atStart => exact ⟨0, rfl, by omega, Below.refl _ _, fun j h => absurd h (by omega)⟩
  case round =>
    obtain ⟨k, rfl, hk, hE, hall⟩ := hrel
    have HEr := Lib.hid hE; have HALL := Lib.hid hall
    have HE := Lib.hid (ext_trans HE4.out hE)
    clear hall
    by_cases hlt : k < 3
    · go_light
      have c0 := bfP_cell (hE.blk X5.out) k hlt
      have c1 := bfP_cell (hE.blk X6.out) k hlt
      have HF1 : Hid (intD (bfP a) k ≠ intD (bfP b) k → v = decide (intD (bfP a) k < intD (bfP b) k)) := Lib.hid fun h => by rw [HV.out]; exact ord_first HALL.out hlt h
      have HN1 : Hid (intD (bfP a) k = intD (bfP b) k → ∀ j, j < k + 1 → intD (bfP a) j = intD (bfP b) j) := Lib.hid fun h j hj => by
        rcases Nat.lt_or_ge j k with h' | h'
        · exact HALL.out j h'
        · obtain rfl : j = k := by omega
          exact h
      obtain ⟨p, hp⟩ : ∃ p, p = intD (bfP a) k := ⟨_, rfl⟩
      obtain ⟨q, hq⟩ : ∃ q, q = intD (bfP b) k := ⟨_, rfl⟩
      rw [← hp] at c0 HF1 HN1; rw [← hq] at c1 HF1 HN1
      have C0 := Lib.hid c0; have C1 := Lib.hid c1
      have g0 : (0 : Int) ≤ (k : Int) := by omega
      have g1 : (k : Int) < 3 := by omega
      have e0 : decide ((0 : Int) ≤ (k : Int)) = true := decide_eq_true g0
      have e1 : decide ((k : Int) < 3) = true := decide_eq_true g1
      have w1' : IntKind.i64.wrap ((k : Int) + 1) = (k : Int) + 1 := IntWalk.i64_in _ (by omega)
      clear hE hp hq hlt
      go_upto_region 6 with (fail)
      by_cases hpq : p = q
      · have b1 : (p != q) = false := by simp [hpq]
        have HN2 := Lib.hid (HN1.out hpq)
        clear hpq
        refine region_ev [] [0, 1, 2, 3, 4, 5, 6, 7, 8] [] [] (by kernel_rfl) (by kernel_rfl) (by intro c a d v w h; cases d <;> exact h) ?_
        simp only [picks, List.drop_succ_cons, List.drop_zero]
        repeat (refine wpQ0_step (fun K hK => ?_); go_simp; (refine hK _ ?_; clear hK K))
        refine wpQ0_nil ?_
        repeat ((with_reducible refine wpQ2_step (fun K hK => ?_)); go_simp; first | ((with_reducible refine hK _ ?_); clear hK K) | (apply Exists.intro; refine ⟨fun x => ?_, hK _ ?_⟩; (fail); clear hK K))
        refine wpQ2_nil ?_
        refine Events.none_ fun w7 hg7 => ?_
        simp only [picks, List.drop_succ_cons, List.drop_zero]
        have HE7 := Lib.hid (ext_trans HEr.out hg7)
        clear c0 c1 C0 C1 hg7
        go_wp2_with (fail)
        go_roundw
        case rel => exact ⟨k + 1, by go_num, by omega, HE7.out, HN2.out⟩
        case measure => simp [intOf]; omega
      · have b1 : (p != q) = true := by simpa using hpq
        have HF2 := Lib.hid (HF1.out hpq)
        clear hpq
        refine region_ev [] [0, 1, 2, 3, 4, 5, 6, 7, 8] [] [] (by kernel_rfl) (by kernel_rfl) (by intro c a d v w h; cases d <;> exact h) ?_
        simp only [picks, List.drop_succ_cons, List.drop_zero]
        repeat (refine wpQ0_step (fun K hK => ?_); go_simp; (refine hK _ ?_; clear hK K))
        refine wpQ0_nil ?_
        repeat ((with_reducible refine wpQ2_step (fun K hK => ?_)); go_simp; first | ((with_reducible refine hK _ ?_); clear hK K) | (apply Exists.intro; refine ⟨fun x => ?_, hK _ ?_⟩; (fail); clear hK K))
        refine wpQ2_nil ?_
        refine Events.none_ fun w7 hg7 => ?_
        simp only [picks, List.drop_succ_cons, List.drop_zero]
        have HE7 := Lib.hid (ext_trans HE.out hg7)
        have c0 := ext_cell' hg7 C0.out; have c1 := ext_cell' hg7 C1.out
        clear hg7
        go_upto_region 7 with (fail)
        refine region_ev [] [0, 1, 2, 3, 4, 5, 6, 7, 8, 9] [] [] (by kernel_rfl) (by kernel_rfl) (by intro c a d v w h; cases d <;> exact h) ?_
        simp only [picks, List.drop_succ_cons, List.drop_zero]
        repeat (refine wpQ0_step (fun K hK => ?_); go_simp; (refine hK _ ?_; clear hK K))
        refine wpQ0_nil ?_
        repeat ((with_reducible refine wpQ2_step (fun K hK => ?_)); go_simp; first | ((with_reducible refine hK _ ?_); clear hK K) | (apply Exists.intro; refine ⟨fun x => ?_, hK _ ?_⟩; (fail); clear hK K))
        refine wpQ2_nil ?_
        refine Events.none_ fun w8 hg8 => ?_
        simp only [picks, List.drop_succ_cons, List.drop_zero]
        have HE8 := Lib.hid (ext_trans HE7.out hg8)
        clear c0 c1 C0 C1 hg8
        go_wp2_with (fail)
        go_ret
        exact ⟨ret_bool HF2.out.symm, HE8.out⟩
    · have hn3 : ¬ (k : Int) < 3 := by omega
      have hd3 : decide ((k : Int) < 3) = false := decide_eq_false hn3
      have HALL3 : Hid (∀ j, j < 3 → intD (bfP a) j = intD (bfP b) j) := Lib.hid fun j hj => HALL.out j (by omega)
      have x2 := hE.blk X24.out; have x3 := hE.blk X34.out
      have X2r := Lib.hid x2; have X3r := Lib.hid x3
      clear hE hlt hk
      have q2c := cell_blk x2
      have q2f := frz_blk x2
      have q3c := cell_blk x3
      have q3f := frz_blk x3
      clear x2 x3
      have e1 := bytesLess_ltB a.by_ b.by_
      by_cases hby : a.by_ = b.by_
      case neg =>
        have HF := Lib.hid (HV.out.trans (ord_name HALL3.out hby))
        have hS1 : (a.by_.toList == b.by_.toList) = false := by simp [toL_iff, hby]
        have hS2 : (a.by_.toList != b.by_.toList) = true := by simp [bne, toL_iff, hby]
        obtain ⟨u, hu⟩ : ∃ u, u = ltB a.by_ b.by_ := ⟨_, rfl⟩
        rw [← hu] at e1 HF
        clear hby hu
        go_wp2_with (fail)
        go_ret
        exact ⟨ret_bool HF.out.symm, HE.out⟩
      have hS1 : (a.by_.toList == b.by_.toList) = true := by simp [hby]
      have hS2 : (a.by_.toList != b.by_.toList) = false := by simp [bne, hby]
      have HBY := Lib.hid hby
      clear hby e1
      go_upto_region 11 with (fail)
      refine wp_name ?_
      intro wa hwa
      obtain ⟨n7, hn7⟩ : ∃ n, n = wr.heap.size := ⟨_, rfl⟩
      have x5 : wa.heap[n7]? = some (.cells #[.int .i64 a.number, .int .i64 a.rev, .int .i64 a.mlo, .int .i64 a.mhi] 3 (0, 0)) := by rw [hwa, hn7]; exact blk_new _ _
      have hEa : Ext2 wr wa := by rw [hwa]; exact below_alloc' _ _
      rw [← hn7]
      have HEa := Lib.hid (ext_trans HE.out hEa)
      have X3a := Lib.hid (Ext2.blk hEa X3r.out); have X5a := Lib.hid x5
      clear hwa hn7 hEa q2c q2f q3c q3f X2r X3r x5 hS1 hS2 X24 X34 X5 X6
      have x3 := X3a.out
      have q3c := cell_blk x3
      have q3f := frz_blk x3
      clear x3
      go_upto_region 12 with (fail)
      refine wp_name ?_
      intro wb hwb
      obtain ⟨n8, hn8⟩ : ∃ n, n = wa.heap.size := ⟨_, rfl⟩
      have x6 : wb.heap[n8]? = some (.cells #[.int .i64 b.number, .int .i64 b.rev, .int .i64 b.mlo, .int .i64 b.mhi] 3 (0, 0)) := by rw [hwb, hn8]; exact blk_new _ _
      have hEb : Ext2 wa wb := by rw [hwb]; exact below_alloc' _ _
      rw [← hn8]
      have HEb := Lib.hid (ext_trans HEa.out hEb); have X5 := Lib.hid (Ext2.blk hEb X5a.out); have X6 := Lib.hid x6
      clear hwb hn8 hEb q3c q3f X3a X5a HEa x6 HEr HALL HE HE4 hn3 hd3
      go_wp2_with (fail)
      go_loopw [8] (fun i ws => ∃ k : Nat, i = .int .i64 k ∧ k ≤ 4 ∧ Ext2 wb ws ∧ ∀ j, j < k → intD (bfQ a) j = intD (bfQ b) j) (fun i _ => 4 - (intOf i).toNat)
      case atStart => exact ⟨0, rfl, by omega, Below.refl _ _, fun j h => absurd h (by omega)⟩
      case round =>
        obtain ⟨k, rfl, hk, hE, hall⟩ := hrel
        have HEr := Lib.hid hE; have HALL := Lib.hid hall
        have HE := Lib.hid (ext_trans HEb.out hE)
        clear hall
        by_cases hlt : k < 4
        · go_light
          have c0 := bfQ_cell (hE.blk X5.out) k hlt
          have c1 := bfQ_cell (hE.blk X6.out) k hlt
          have HF1 : Hid (intD (bfQ a) k ≠ intD (bfQ b) k → v = decide (intD (bfQ a) k < intD (bfQ b) k)) := Lib.hid fun h => by rw [HV.out]; exact ord_last HALL3.out HBY.out HALL.out hlt h
          have HN1 : Hid (intD (bfQ a) k = intD (bfQ b) k → ∀ j, j < k + 1 → intD (bfQ a) j = intD (bfQ b) j) := Lib.hid fun h j hj => by
            rcases Nat.lt_or_ge j k with h' | h'
            · exact HALL.out j h'
            · obtain rfl : j = k := by omega
              exact h
          obtain ⟨p, hp⟩ : ∃ p, p = intD (bfQ a) k := ⟨_, rfl⟩
          obtain ⟨q, hq⟩ : ∃ q, q = intD (bfQ b) k := ⟨_, rfl⟩
          rw [← hp] at c0 HF1 HN1; rw [← hq] at c1 HF1 HN1
          have C0 := Lib.hid c0; have C1 := Lib.hid c1
          have g0 : (0 : Int) ≤ (k : Int) := by omega
          have g1 : (k : Int) < 4 := by omega
          have e0 : decide ((0 : Int) ≤ (k : Int)) = true := decide_eq_true g0
          have e1 : decide ((k : Int) < 4) = true := decide_eq_true g1
          have w1' : IntKind.i64.wrap ((k : Int) + 1) = (k : Int) + 1 := IntWalk.i64_in _ (by omega)
          clear hE hp hq hlt
          go_upto_region 15 with (fail)
          by_cases hpq : p = q
          · have b1 : (p != q) = false := by simp [hpq]
            have HN2 := Lib.hid (HN1.out hpq)
            clear hpq
            refine region_ev [] [0, 1, 2, 3, 4, 5, 6, 7, 8] [] [] (by kernel_rfl) (by kernel_rfl) (by intro c a d v w h; cases d <;> exact h) ?_
            simp only [picks, List.drop_succ_cons, List.drop_zero]
            repeat (refine wpQ0_step (fun K hK => ?_); go_simp; (refine hK _ ?_; clear hK K))
            refine wpQ0_nil ?_
            repeat ((with_reducible refine wpQ2_step (fun K hK => ?_)); go_simp; first | ((with_reducible refine hK _ ?_); clear hK K) | (apply Exists.intro; refine ⟨fun x => ?_, hK _ ?_⟩; (fail); clear hK K))
            refine wpQ2_nil ?_
            refine Events.none_ fun w7 hg7 => ?_
            simp only [picks, List.drop_succ_cons, List.drop_zero]
            have HE7 := Lib.hid (ext_trans HEr.out hg7)
            clear c0 c1 C0 C1 hg7
            go_wp2_with (fail)
            go_roundw
            case rel => exact ⟨k + 1, by go_num, by omega, HE7.out, HN2.out⟩
            case measure => simp [intOf]; omega
          · have b1 : (p != q) = true := by simpa using hpq
            have HF2 := Lib.hid (HF1.out hpq)
            clear hpq
            refine region_ev [] [0, 1, 2, 3, 4, 5, 6, 7, 8] [] [] (by kernel_rfl) (by kernel_rfl) (by intro c a d v w h; cases d <;> exact h) ?_
            simp only [picks, List.drop_succ_cons, List.drop_zero]
            repeat (refine wpQ0_step (fun K hK => ?_); go_simp; (refine hK _ ?_; clear hK K))
            refine wpQ0_nil ?_
            repeat ((with_reducible refine wpQ2_step (fun K hK => ?_)); go_simp; first | ((with_reducible refine hK _ ?_); clear hK K) | (apply Exists.intro; refine ⟨fun x => ?_, hK _ ?_⟩; (fail); clear hK K))
            refine wpQ2_nil ?_
            refine Events.none_ fun w7 hg7 => ?_
            simp only [picks, List.drop_succ_cons, List.drop_zero]
            have HE7 := Lib.hid (ext_trans HE.out hg7)
            have c0 := ext_cell' hg7 C0.out; have c1 := ext_cell' hg7 C1.out
            clear hg7
            go_upto_region 16 with (fail)
            refine region_ev [] [0, 1, 2, 3, 4, 5, 6, 7, 8, 9] [] [] (by kernel_rfl) (by kernel_rfl) (by intro c a d v w h; cases d <;> exact h) ?_
            simp only [picks, List.drop_succ_cons, List.drop_zero]
            repeat (refine wpQ0_step (fun K hK => ?_); go_simp; (refine hK _ ?_; clear hK K))
            refine wpQ0_nil ?_
            repeat ((with_reducible refine wpQ2_step (fun K hK => ?_)); go_simp; first | ((with_reducible refine hK _ ?_); clear hK K) | (apply Exists.intro; refine ⟨fun x => ?_, hK _ ?_⟩; (fail); clear hK K))
            refine wpQ2_nil ?_
            refine Events.none_ fun w8 hg8 => ?_
            simp only [picks, List.drop_succ_cons, List.drop_zero]
            have HE8 := Lib.hid (ext_trans HE7.out hg8)
            clear c0 c1 C0 C1 hg8
            go_wp2_with (fail)
            go_ret
            exact ⟨ret_bool HF2.out.symm, HE8.out⟩
        · have hn4 : ¬ (k : Int) < 4 := by omega
          have hd4 : decide ((k : Int) < 4) = false := decide_eq_false hn4
          have HF : Hid (v = false) := Lib.hid (HV.out.trans (ord_none HALL3.out HBY.out (fun j hj => HALL.out j (by omega))))
          clear hlt hE
          go_wp2_with (fail)
          go_ret
          exact ⟨ret_bool HF.out.symm, HE.out⟩
end Go.Proofs.YtojomdojblgegaaGreatDoor
namespace Go.Proofs.YtojomdojblgegaaGreatDoor
open Go.RowKit D
set_option linter.unusedVariables false
set_option linter.unusedSimpArgs false
attribute [local go_sem high] run_minI run_maxI
attribute [local go_sem] upon2 cls_cell cls_frozen forall_const exists_eq_left'
attribute [local go_sem] FirstUpon atBlk_cell
attribute [local go_sem high] run_notes_to run_notes_from
set_option maxRecDepth 100000 in
set_option maxHeartbeats 8000000 in
theorem standingR_any {l : List Note} {s : Sl} {w : World} (hl : NotesS w s l) (hn : l.length ≤ 100000) : Calls Tryz.prog 37 #[.slice s.a l.length s.cap] w fun e w' => (∃ s' : Sl, e = .returned (.slice s'.a (standV l).length s'.cap) ∧ NotesS w' s' (standV l)) ∧ Below w.heap.size w w' := by
  have HL := Lib.hid hl
  have hle := hl.le; have hmx := hl.max
  have HSD := Lib.hid fun (W : World) (hW : Ext2 w W) (x : Note) => standsR_any (x := x) (RowS.below hl hW)
  have HBF := Lib.hid fun (W : World) (a b : Note) => beforeN_any (a := a) (b := b) (w := W)
  obtain ⟨sa, sc⟩ := s
  obtain ⟨n, hnn⟩ : ∃ n, n = l.length := ⟨_, rfl⟩
  rw [← hnn] at hle hn HSD ⊢
  have HN := Lib.hid hnn
  dsimp only at hle hmx HSD
  clear hl hnn
  go_enter Tryz.func37, Tryz.ntmps37
  go_wp2_with (fail)
  go_loopw [3, 4] (fun ov i wr => ∃ (k : Nat) (so : Sl), i = .int .i64 k ∧ k ≤ n ∧ ov = .slice so.a (standK l (l.take k) []).length so.cap ∧ Ext2 w wr ∧ NotesS wr so (standK l (l.take k) [])) (fun _ i _ => n - (intOf i).toNat)
  case atStart => exact ⟨0, ⟨none, 0⟩, rfl, by omega, rfl, Below.refl _ _, notes_none _⟩
  case round =>
    obtain ⟨k, ⟨oa, oc⟩, rfl, hk, rfl, hE, hO⟩ := hrel
    have HE := Lib.hid hE; have HO := Lib.hid hO
    have hol := hO.le; have hom := hO.max
    have hkle := standK_len (l := l) (k := k) (by rw [← HN.out]; exact hk)
    clear hE hO
    by_cases hlt : k < n
    · go_light
      have hkl : k < l.length := by rw [← HN.out]; exact hlt
      have hst := standK_take (l := l) hkl
      obtain ⟨O, hOO⟩ : ∃ O, O = standK l (l.take k) [] := ⟨_, rfl⟩
      rw [← hOO] at HO hst hol hkle ⊢
      obtain ⟨b, off, hla, c0, c1, c2, c3, c4, c5, c6, c7⟩ := nt_cells (RowS.below HL.out HE.out) hkl
      dsimp only at hla hol hom
      subst hla
      obtain ⟨x, hx⟩ : ∃ x, x = ntD l k := ⟨_, rfl⟩
      rw [← hx] at c0 c1 c2 c3 c4 c5 c6 c7 hst
      obtain ⟨q, hq⟩ : ∃ q, q = O.length := ⟨_, rfl⟩
      rw [← hq] at hol hkle ⊢
      have HQ := Lib.hid hq
      have HST := Lib.hid hst
      have H1 := Lib.hid fun (W : World) (hW : Ext2 w W) => HSD.out W hW x
      obtain ⟨v, hv⟩ : ∃ v, v = standsB l x := ⟨_, rfl⟩
      rw [← hv] at H1 HST
      have g0 : (0 : Int) ≤ (k : Int) := by omega
      have g1 : (k : Int) < (n : Int) := by omega
      have e0 : decide ((0 : Int) ≤ (k : Int)) = true := decide_eq_true g0
      have e1 : decide ((k : Int) < (n : Int)) = true := decide_eq_true g1
      have w1' : IntKind.i64.wrap ((k : Int) + 1) = (k : Int) + 1 := IntWalk.i64_in _ (by omega)
      have C0 := Lib.hid c0; have C1 := Lib.hid c1; have C2 := Lib.hid c2; have C3 := Lib.hid c3; have C4 := Lib.hid c4; have C5 := Lib.hid c5; have C6 := Lib.hid c6; have C7 := Lib.hid c7
      clear hst hOO hx hq hv hkl
      go_wp2_with (fail)
      (with_reducible refine (H1.out _ HE.out).mono ?_)
      rintro e w3 ⟨rfl, hE3⟩
      have HE3 := Lib.hid (ext_trans HE.out hE3); have HW3 := Lib.hid hE3
      have HO3 := Lib.hid (RowS.below HO.out hE3)
      clear hE3 c0 c1 c2 c3 c4 c5 c6 c7 H1
      cases v with
      | false =>
        have HF : Hid (standK l (l.take (k + 1)) [] = O) := Lib.hid (by rw [HST.out, if_neg (by simp)])
        go_wp2_with (fail)
        go_roundw
        case rel => exact ⟨k + 1, ⟨oa, oc⟩, by go_num, by omega, by rw [HF.out, ← HQ.out], HE3.out, by rw [HF.out]; exact HO3.out⟩
        case measure => simp [intOf]; omega
      | true =>
      have HF : Hid (standK l (l.take (k + 1)) [] = insN x O) := Lib.hid (by rw [HST.out, if_pos rfl])
      go_wp2_with (fail)
      go_loopw [5] (fun av ws => ∃ m : Nat, av = .int .i64 m ∧ m ≤ q ∧ Ext2 w3 ws ∧ ∀ j, j < m → ordV (ntD O j) x < 0) (fun i _ => q - (intOf i).toNat)
      case atStart => exact ⟨0, rfl, by omega, Below.refl _ _, fun j h => absurd h (by omega)⟩
      case round =>
        obtain ⟨m, rfl, hm, hEm, hlow⟩ := hrel
        have HEm := Lib.hid hEm; have HLOW := Lib.hid hlow
        have HWm := Lib.hid (ext_trans HW3.out hEm)
        clear hEm hlow
        have c0 := ext_cell' HWm.out C0.out; have c1 := ext_cell' HWm.out C1.out; have c2 := ext_cell' HWm.out C2.out; have c3 := ext_cell' HWm.out C3.out
        have c4 := ext_cell' HWm.out C4.out; have c5 := ext_cell' HWm.out C5.out; have c6 := ext_cell' HWm.out C6.out; have c7 := ext_cell' HWm.out C7.out
        by_cases hmq : m < q
        · obtain ⟨ob, oo, hoa, d0, d1, d2, d3, d4, d5, d6, d7⟩ := nt_cells (RowS.below HO3.out HEm.out) (i := m) (by rw [← HQ.out]; exact hmq)
          dsimp only at hoa
          subst hoa
          obtain ⟨y, hy⟩ : ∃ y, y = ntD O m := ⟨_, rfl⟩
          rw [← hy] at d0 d1 d2 d3 d4 d5 d6 d7
          have HY := Lib.hid hy
          have HB2 := Lib.hid fun (W : World) => HBF.out W y x
          obtain ⟨u, hu⟩ : ∃ u, u = decide (ordV y x < 0) := ⟨_, rfl⟩
          rw [← hu] at HB2
          have HU := Lib.hid hu
          have f0 : (0 : Int) ≤ (m : Int) := by omega
          have f1 : (m : Int) < (q : Int) := by omega
          have f2 : decide ((0 : Int) ≤ (m : Int)) = true := decide_eq_true f0
          have f3 : decide ((m : Int) < (q : Int)) = true := decide_eq_true f1
          have w2' : IntKind.i64.wrap ((m : Int) + 1) = (m : Int) + 1 := IntWalk.i64_in _ (by omega)
          clear hy hu
          cases u with
          | true =>
            have HUP : Hid (∀ j, j < m + 1 → ordV (ntD O j) x < 0) := Lib.hid fun j hj => by
              rcases Nat.lt_or_ge j m with h' | h'
              · exact HLOW.out j h'
              · obtain rfl : j = m := by omega
                rw [← HY.out]; exact of_decide_eq_true HU.out.symm
            clear hmq
            go_upto_region 7 with (fail)
            refine region_ev [] [0, 1, 2, 3, 4, 5, 6, 7, 8, 9, 10, 11, 12, 13, 14] [] [] (by kernel_rfl) (by kernel_rfl) (by intro c a d v w h; cases d <;> exact h) ?_
            simp only [picks, List.drop_succ_cons, List.drop_zero]
            repeat (refine wpQ0_step (fun K hK => ?_); go_simp; (refine hK _ ?_; clear hK K))
            refine wpQ0_nil ?_
            repeat ((with_reducible refine wpQ2_step (fun K hK => ?_)); go_simp; first | ((with_reducible refine hK _ ?_); clear hK K) | (apply Exists.intro; refine ⟨fun x => ?_, hK _ ?_⟩; ((with_reducible exact HB2.out x.1)); clear hK K) | (refine ite_undef (fun h => (by have h_ : (none : Option Bool) = some _ := h; cases h_)) ?_; (with_reducible refine hK _ ?_); clear hK K))
            (with_reducible refine wpQ2_nil ?_)
            refine Events.none_ fun w7 hg7 => ?_
            simp only [picks, List.drop_succ_cons, List.drop_zero]
            have HE7 := Lib.hid (ext_trans HEm.out hg7)
            clear c0 c1 c2 c3 c4 c5 c6 c7 d0 d1 d2 d3 d4 d5 d6 d7 hg7
            go_wp2_with (fail)
            go_roundw
            case rel => exact ⟨m + 1, by go_num, by omega, HE7.out, HUP.out⟩
            case measure => simp [intOf]; omega
          | false =>
            have HIN : Hid (insN x O = if y = x then O else O.take m ++ x :: O.drop m) := Lib.hid (by
              rw [insN_at HLOW.out (by rw [← HQ.out]; omega) (.inr (by rw [← HY.out]; exact of_decide_eq_false HU.out.symm)), ← HY.out]
              by_cases h : y = x
              · rw [if_pos ⟨by rw [← HQ.out]; exact hmq, h⟩, if_pos h]
              · rw [if_neg (fun hh => h hh.2), if_neg h])
            have D0 := Lib.hid d0; have D1 := Lib.hid d1; have D2 := Lib.hid d2; have D3 := Lib.hid d3; have D4 := Lib.hid d4; have D5 := Lib.hid d5; have D6 := Lib.hid d6; have D7 := Lib.hid d7
            go_upto_region 7 with (fail)
            refine region_ev [] [0, 1, 2, 3, 4, 5, 6, 7, 8, 9, 10, 11, 12, 13, 14] [] [] (by kernel_rfl) (by kernel_rfl) (by intro c a d v w h; cases d <;> exact h) ?_
            simp only [picks, List.drop_succ_cons, List.drop_zero]
            repeat (refine wpQ0_step (fun K hK => ?_); go_simp; (refine hK _ ?_; clear hK K))
            refine wpQ0_nil ?_
            repeat ((with_reducible refine wpQ2_step (fun K hK => ?_)); go_simp; first | ((with_reducible refine hK _ ?_); clear hK K) | (apply Exists.intro; refine ⟨fun x => ?_, hK _ ?_⟩; ((with_reducible exact HB2.out x.1)); clear hK K) | (refine ite_undef (fun h => (by have h_ : (none : Option Bool) = some _ := h; cases h_)) ?_; (with_reducible refine hK _ ?_); clear hK K))
            (with_reducible refine wpQ2_nil ?_)
            refine Events.none_ fun w7 hg7 => ?_
            simp only [picks, List.drop_succ_cons, List.drop_zero]
            have HE7 := Lib.hid (ext_trans HEm.out hg7)
            have HW7 := Lib.hid (ext_trans HWm.out hg7)
            replace d0 := ext_cell' hg7 D0.out; replace d1 := ext_cell' hg7 D1.out; replace d2 := ext_cell' hg7 D2.out; replace d3 := ext_cell' hg7 D3.out
            replace d4 := ext_cell' hg7 D4.out; replace d5 := ext_cell' hg7 D5.out; replace d6 := ext_cell' hg7 D6.out; replace d7 := ext_cell' hg7 D7.out
            replace c0 := ext_cell' HW7.out C0.out; replace c1 := ext_cell' HW7.out C1.out; replace c2 := ext_cell' HW7.out C2.out; replace c3 := ext_cell' HW7.out C3.out
            replace c4 := ext_cell' HW7.out C4.out; replace c5 := ext_cell' HW7.out C5.out; replace c6 := ext_cell' HW7.out C6.out; replace c7 := ext_cell' HW7.out C7.out
            clear hg7
            go_upto_region 9 with (fail)
            have b0 : ((m : Int) == (q : Int)) = false := by simp; omega
            by_cases hyx : y = x
            · have hE : ∀ W : World, (binOp .neq 59 (.agg #[.string y.by_, .int .i64 y.number, .int .i64 y.rev, .int .i64 y.kind, .int .i64 y.from_, .int .i64 y.until_, .int .i64 y.mlo, .int .i64 y.mhi]) (.agg #[.string x.by_, .int .i64 x.number, .int .i64 x.rev, .int .i64 x.kind, .int .i64 x.from_, .int .i64 x.until_, .int .i64 x.mlo, .int .i64 x.mhi])).run Tryz.prog W = .ok (.bool false) W := fun W => by rw [run_neq_sameNt, decide_eq_true (nt_eq.1 hyx)]; rfl
              have HF2 : Hid (standK l (l.take (k + 1)) [] = O) := Lib.hid (by rw [HF.out, HIN.out, if_pos hyx])
              clear hyx hmq
              refine region_ev [] [0, 1, 2, 3, 4, 5, 6, 7, 8, 9, 10, 11, 12, 13, 14] [] [] (by kernel_rfl) (by kernel_rfl) (by intro c a d v w h; cases d <;> exact h) ?_
              simp only [picks, List.drop_succ_cons, List.drop_zero]
              repeat (refine wpQ0_step (fun K hK => ?_); go_simp; (refine hK _ ?_; clear hK K))
              refine wpQ0_nil ?_
              repeat ((with_reducible refine wpQ2_step (fun K hK => ?_)); go_simp; first | ((with_reducible refine hK _ ?_); clear hK K) | (apply Exists.intro; refine ⟨fun x => ?_, hK _ ?_⟩; (fail); clear hK K) | (refine ite_undef (fun h => (by have h_ : (none : Option Bool) = some _ := h; cases h_)) ?_; (with_reducible refine hK _ ?_); clear hK K))
              (with_reducible refine wpQ2_nil ?_)
              refine Events.none_ fun w8 hg8 => ?_
              simp only [picks, List.drop_succ_cons, List.drop_zero]
              have HE8 := Lib.hid (ext_trans HE7.out hg8)
              clear c0 c1 c2 c3 c4 c5 c6 c7 d0 d1 d2 d3 d4 d5 d6 d7 hg8 hE
              go_wp2_with (fail)
              go_roundw
              case rel => exact ⟨k + 1, ⟨some ⟨ob, oo, none⟩, oc⟩, by go_num, by omega, by rw [HF2.out, ← HQ.out], ext_trans HE3.out HE8.out, by rw [HF2.out]; exact RowS.below HO3.out HE8.out⟩
              case measure => simp [intOf]; omega
            · have hE : ∀ W : World, (binOp .neq 59 (.agg #[.string y.by_, .int .i64 y.number, .int .i64 y.rev, .int .i64 y.kind, .int .i64 y.from_, .int .i64 y.until_, .int .i64 y.mlo, .int .i64 y.mhi]) (.agg #[.string x.by_, .int .i64 x.number, .int .i64 x.rev, .int .i64 x.kind, .int .i64 x.from_, .int .i64 x.until_, .int .i64 x.mlo, .int .i64 x.mhi])).run Tryz.prog W = .ok (.bool true) W := fun W => by rw [run_neq_sameNt, decide_eq_false (fun h => hyx (nt_eq.2 h))]; rfl
              have HF2 : Hid (standK l (l.take (k + 1)) [] = O.take m ++ x :: O.drop m) := Lib.hid (by rw [HF.out, HIN.out, if_neg hyx])
              clear hyx hmq
              refine region_ev [] [0, 1, 2, 3, 4, 5, 6, 7, 8, 9, 10, 11, 12, 13, 14] [] [] (by kernel_rfl) (by kernel_rfl) (by intro c a d v w h; cases d <;> exact h) ?_
              simp only [picks, List.drop_succ_cons, List.drop_zero]
              repeat (refine wpQ0_step (fun K hK => ?_); go_simp; (refine hK _ ?_; clear hK K))
              refine wpQ0_nil ?_
              repeat ((with_reducible refine wpQ2_step (fun K hK => ?_)); go_simp; first | ((with_reducible refine hK _ ?_); clear hK K) | (apply Exists.intro; refine ⟨fun x => ?_, hK _ ?_⟩; (fail); clear hK K) | (refine ite_undef (fun h => (by have h_ : (none : Option Bool) = some _ := h; cases h_)) ?_; (with_reducible refine hK _ ?_); clear hK K))
              (with_reducible refine wpQ2_nil ?_)
              refine Events.none_ fun w8 hg8 => ?_
              simp only [picks, List.drop_succ_cons, List.drop_zero]
              have HE8 := Lib.hid (ext_trans HE7.out hg8)
              clear c0 c1 c2 c3 c4 c5 c6 c7 d0 d1 d2 d3 d4 d5 d6 d7 hg8 hE
              go_upto_region 10 with (fail)
              have h0m : (0 : Int) ≤ (m : Int) := by omega
              have hmq' : m ≤ q := by omega
              have hmc : m ≤ oc := by omega
              have rq1 := run_notes_to (some ⟨ob, oo, none⟩) q oc m hmc
              have rq2 := run_notes_from (some ⟨ob, oo, none⟩) q oc m hmq'
              have HW8 := Lib.hid (ext_trans HW3.out HE8.out)
              have HQM : Hid (m ≤ q) := Lib.hid hmq'
              have HQB : Hid (q ≤ 100000) := Lib.hid (by omega)
              have HTK : Hid (RowS w3 ⟨takeA (some ⟨ob, oo, none⟩) oc 8, oc⟩ 8 m (ntC O)) := Lib.hid (row_take HO3.out (by rw [← HQ.out]; exact hmq'))
              have HDR : Hid (RowS w3 ⟨dropA (some ⟨ob, oo, none⟩) oc m 8, oc - m⟩ 8 (q - m) (fun i j => ntC O (m + i) j)) := Lib.hid (by rw [HQ.out]; exact row_drop HO3.out (by rw [← HQ.out]; exact hmq'))
              have G0 := Lib.hid g0; have G1 := Lib.hid g1; have E0 := Lib.hid e0; have E1 := Lib.hid e1; have W1 := Lib.hid w1'; have RQ1 := Lib.hid rq1; have RQ2 := Lib.hid rq2; have HKL := Lib.hid hlt
              clear g0 g1 e0 e1 w1' f1 f3 b0 hmq' hmc h0m hm rq1 rq2 hlt hkle hol hom hk
              (try clear f0); (try clear f2); (try clear w2')
              refine meetV3 (C := fun (_be bq : Nat) (v1 : Value) (u : World) => Ext2 w8 u ∧ OwnR u w8.heap.size 59 8 v1 m (ntC (O.take m)) ∧ u.heap[bq]? = some (Obj.cells #[.string x.by_, .int .i64 x.number, .int .i64 x.rev, .int .i64 x.kind, .int .i64 x.from_, .int .i64 x.until_, .int .i64 x.mlo, .int .i64 x.mhi] 59)) (P := Tryz.prog) (l := ?lla) (t := .one 10 (.one 14 (.one 15 .leaf))) (Q := ?qqa) (S := Ext2 w8) (A := ?axa) (fun key => ?tra) ?kea
              case tra =>
                refine region_treeV (Ext2 w8) (.flt [1, 2, 3, 5, 6, 7, 8, 11, 12, 13] (.two 0 (.two 4 (.one 9 (.one 10 (.one 14 (.one 15 .leaf)))) 9 (.one 4 (.one 10 (.one 14 (.one 15 .leaf))))) 9 (.one 0 (.one 4 (.one 10 (.one 14 (.one 15 .leaf))))))) (fun W h => h) (by kernel_rfl) (by kernel_rfl) (by intro c a d v w h; cases d <;> exact h) ?_
                intro u0 hu0
                have HU := Lib.hid hu0
                clear hu0
                have g0 := G0.out; have g1 := G1.out; have e0 := E0.out; have e1 := E1.out; have rq1 := RQ1.out; have rq2 := RQ2.out
                have c0 := ext_cell' HW8.out C0.out; have c1 := ext_cell' HW8.out C1.out; have c2 := ext_cell' HW8.out C2.out; have c3 := ext_cell' HW8.out C3.out; have c4 := ext_cell' HW8.out C4.out; have c5 := ext_cell' HW8.out C5.out; have c6 := ext_cell' HW8.out C6.out; have c7 := ext_cell' HW8.out C7.out
                refine wpV_flt ?_
                simp only [picks, List.drop_succ_cons, List.drop_zero]
                repeat ((with_reducible refine wpQS_step (fun K hK => ?_)); go_simp; ((with_reducible refine hK _ ?_); clear hK K))
                (with_reducible refine wpQS_nil ?_)
                clear c0 c1 c2 c3 c4 c5 c6 c7 g0 g1 e0 e1 rq1 rq2
                refine wpV_two ?_ ?_
                · skip
                  simp only [picks, List.drop_succ_cons, List.drop_zero]
                  go_wp2_with (fail)
                  refine andV_name (fun u2 hu2 => ?_)
                  obtain ⟨be, hbe⟩ : ∃ b, b = u0.heap.size := ⟨_, rfl⟩
                  have NE : Hid (u2.heap[be]? = some (Obj.cells #[] 59 (0, 0))) := Lib.hid (by rw [hu2, hbe]; exact blk_new _ _)
                  have hE2 : Ext2 u0 u2 := by rw [hu2]; exact below_alloc' _ _
                  have LB : Hid (w8.heap.size ≤ be) := Lib.hid (by rw [hbe]; exact HU.out.size)
                  skip
                  have HX := Lib.hid (ext_trans HU.out hE2)
                  rw [← hbe]
                  clear hu2 hbe hE2
                  refine ⟨HX.out, ?_⟩
                  refine wpV_two ?_ ?_
                  · skip
                    simp only [picks, List.drop_succ_cons, List.drop_zero]
                    go_wp2_with (at_builtin; go_loud (refine app_sl_at elNote (c2 := ntC (O.take m)) rfl _ _ rfl w8.heap.size rfl (own_empty (c := ntC []) NE.out LB.out) ⟨takeA (some ⟨ob, oo, none⟩) oc 8, oc⟩ m rfl (HTK.out.below (ext_trans HE8.out HX.out)) (ntC_one _) (by have := HQM.out; have := HQB.out; omega) HX.out.size (fun i j hi _ => absurd hi (Nat.not_lt_zero i)) (fun i j hi _ => by rw [Nat.zero_add]; exact ntC_take2 hi) ?_; intro v1 u4 hO1 hg4 _; rw [Nat.zero_add] at hO1; (have HO1 := Lib.hid hO1); (have HZ := Lib.hid (ext_grown HX.out hg4 (fun k hk => by cases hk; exact LB.out))); skip; clear hO1 hg4))
                    refine ⟨HZ.out, ?_⟩
                    refine wpV_one ?_
                    simp only [picks, List.drop_succ_cons, List.drop_zero]
                    go_wp2_with (fail)
                    refine andV_name (fun u3 hu3 => ?_)
                    obtain ⟨bq, hbq⟩ : ∃ b, b = u4.heap.size := ⟨_, rfl⟩
                    have NQ : Hid (u3.heap[bq]? = some (Obj.cells #[.string x.by_, .int .i64 x.number, .int .i64 x.rev, .int .i64 x.kind, .int .i64 x.from_, .int .i64 x.until_, .int .i64 x.mlo, .int .i64 x.mhi] 59)) := Lib.hid (by rw [hu3, hbq]; exact blk_new _ _)
                    have hE3 : Ext2 u4 u3 := by rw [hu3]; exact below_alloc' _ _
                    have HO2 := Lib.hid (HO1.out.below hE3)
                    have HY := Lib.hid (ext_trans HZ.out hE3)
                    rw [← hbq]
                    clear hu3 hbq hE3
                    refine ⟨HY.out, ?_⟩
                    exact key be bq v1 _ ⟨HY.out, HO2.out, NQ.out⟩
                  · skip
                    simp only [picks, List.drop_succ_cons, List.drop_zero]
                    go_wp2_with (fail)
                    refine andV_name (fun u3 hu3 => ?_)
                    obtain ⟨bq, hbq⟩ : ∃ b, b = u2.heap.size := ⟨_, rfl⟩
                    have NQ : Hid (u3.heap[bq]? = some (Obj.cells #[.string x.by_, .int .i64 x.number, .int .i64 x.rev, .int .i64 x.kind, .int .i64 x.from_, .int .i64 x.until_, .int .i64 x.mlo, .int .i64 x.mhi] 59)) := Lib.hid (by rw [hu3, hbq]; exact blk_new _ _)
                    have hE3 : Ext2 u2 u3 := by rw [hu3]; exact below_alloc' _ _
                    have NE2 := Lib.hid (Ext2.blk hE3 NE.out); have HNE : Hid (bq ≠ be) := Lib.hid (by have := blk_lt NE.out; omega)
                    have HY := Lib.hid (ext_trans HX.out hE3)
                    rw [← hbq]
                    clear hu3 hbq hE3
                    refine ⟨HY.out, ?_⟩
                    refine wpV_one ?_
                    simp only [picks, List.drop_succ_cons, List.drop_zero]
                    go_wp2_with (at_builtin; go_loud (refine app_sl_at elNote (c2 := ntC (O.take m)) rfl _ _ rfl w8.heap.size rfl (own_empty (c := ntC []) NE2.out LB.out) ⟨takeA (some ⟨ob, oo, none⟩) oc 8, oc⟩ m rfl (HTK.out.below (ext_trans HE8.out HY.out)) (ntC_one _) (by have := HQM.out; have := HQB.out; omega) HY.out.size (fun i j hi _ => absurd hi (Nat.not_lt_zero i)) (fun i j hi _ => by rw [Nat.zero_add]; exact ntC_take2 hi) ?_; intro v1 u4 hO1 hg4 _; rw [Nat.zero_add] at hO1; (have HO1 := Lib.hid hO1); (have HZ := Lib.hid (ext_grown HY.out hg4 (fun k hk => by cases hk; exact LB.out))); have NQ2 := Lib.hid (blk_grown hg4 NQ.out (fun h => HNE.out (by cases h; rfl))); clear hO1 hg4))
                    refine ⟨HZ.out, ?_⟩
                    exact key be bq v1 _ ⟨HZ.out, HO1.out, NQ2.out⟩
                · skip
                  simp only [picks, List.drop_succ_cons, List.drop_zero]
                  go_wp2_with (fail)
                  refine andV_name (fun u3 hu3 => ?_)
                  obtain ⟨bq, hbq⟩ : ∃ b, b = u0.heap.size := ⟨_, rfl⟩
                  have NQ : Hid (u3.heap[bq]? = some (Obj.cells #[.string x.by_, .int .i64 x.number, .int .i64 x.rev, .int .i64 x.kind, .int .i64 x.from_, .int .i64 x.until_, .int .i64 x.mlo, .int .i64 x.mhi] 59)) := Lib.hid (by rw [hu3, hbq]; exact blk_new _ _)
                  have hE3 : Ext2 u0 u3 := by rw [hu3]; exact below_alloc' _ _
                  skip
                  have HY := Lib.hid (ext_trans HU.out hE3)
                  rw [← hbq]
                  clear hu3 hbq hE3
                  refine ⟨HY.out, ?_⟩
                  refine wpV_one ?_
                  simp only [picks, List.drop_succ_cons, List.drop_zero]
                  go_wp2_with (fail)
                  refine andV_name (fun u2 hu2 => ?_)
                  obtain ⟨be, hbe⟩ : ∃ b, b = u3.heap.size := ⟨_, rfl⟩
                  have NE : Hid (u2.heap[be]? = some (Obj.cells #[] 59 (0, 0))) := Lib.hid (by rw [hu2, hbe]; exact blk_new _ _)
                  have hE2 : Ext2 u3 u2 := by rw [hu2]; exact below_alloc' _ _
                  have LB : Hid (w8.heap.size ≤ be) := Lib.hid (by rw [hbe]; exact HY.out.size)
                  have NQ2 := Lib.hid (Ext2.blk hE2 NQ.out); have HNE : Hid (bq ≠ be) := Lib.hid (by have := blk_lt NQ.out; omega)
                  have HX := Lib.hid (ext_trans HY.out hE2)
                  rw [← hbe]
                  clear hu2 hbe hE2
                  refine ⟨HX.out, ?_⟩
                  refine wpV_one ?_
                  simp only [picks, List.drop_succ_cons, List.drop_zero]
                  go_wp2_with (at_builtin; go_loud (refine app_sl_at elNote (c2 := ntC (O.take m)) rfl _ _ rfl w8.heap.size rfl (own_empty (c := ntC []) NE.out LB.out) ⟨takeA (some ⟨ob, oo, none⟩) oc 8, oc⟩ m rfl (HTK.out.below (ext_trans HE8.out HX.out)) (ntC_one _) (by have := HQM.out; have := HQB.out; omega) HX.out.size (fun i j hi _ => absurd hi (Nat.not_lt_zero i)) (fun i j hi _ => by rw [Nat.zero_add]; exact ntC_take2 hi) ?_; intro v1 u4 hO1 hg4 _; rw [Nat.zero_add] at hO1; (have HO1 := Lib.hid hO1); (have HZ := Lib.hid (ext_grown HX.out hg4 (fun k hk => by cases hk; exact LB.out))); have NQ3 := Lib.hid (blk_grown hg4 NQ2.out (fun h => HNE.out (by cases h; rfl))); clear hO1 hg4))
                  refine ⟨HZ.out, ?_⟩
                  exact key be bq v1 _ ⟨HZ.out, HO1.out, NQ3.out⟩
              case kea =>
                rintro be bq v1 u ⟨hU, hO1, hNQ⟩
                have HU := Lib.hid hU; have HO1 := Lib.hid hO1; have NQ := Lib.hid hNQ
                clear hU hO1 hNQ
                refine wpV_one ?_
                simp only [picks, List.drop_succ_cons, List.drop_zero]
                go_wp2_with (at_builtin; go_loud (refine app_one_at [.string x.by_, .int .i64 x.number, .int .i64 x.rev, .int .i64 x.kind, .int .i64 x.from_, .int .i64 x.until_, .int .i64 x.mlo, .int .i64 x.mhi] elNote rfl _ _ rfl w8.heap.size rfl HO1.out bq 1 rfl NQ.out (by simp [Value.oneCell']) (by have := HQM.out; have := HQB.out; omega) HU.out.size ?_; intro v2 u5 hO2 hg5 _; (have HO2 : Hid (OwnR u5 w8.heap.size 59 8 v2 (m + 1) (ntC (O.take m ++ [x]))) := Lib.hid (by have hl : (O.take m).length = m := (by rw [List.length_take]; have := HQM.out; have := HQ.out; omega); have h7 := own_nt (w := u5) (base := w8.heap.size) (e := 59) (v := v2) (L := O.take m) (x := x) (by rw [hl]; exact hO2); rwa [List.length_append, List.length_singleton, hl] at h7)); (have HU5 := Lib.hid (ext_grown HU.out hg5 (own_ge HO1.out))); clear hO2 hg5))
                refine ⟨HU5.out, wpV_one ?_⟩
                simp only [picks, List.drop_succ_cons, List.drop_zero]
                go_wp2_with (at_builtin; go_loud (refine app_sl_at elNote (c2 := ntC (O.take m ++ x :: O.drop m)) rfl _ _ rfl w8.heap.size rfl HO2.out ⟨dropA (some ⟨ob, oo, none⟩) oc m 8, oc - m⟩ (q - m) rfl (HDR.out.below (ext_trans HE8.out HU5.out)) (fun i j => ntC_one _ _ _) (by have := HQM.out; have := HQB.out; omega) HU5.out.size (fun i j hi _ => ins_left (by have := HQM.out; have := HQ.out; omega) hi) (fun i j hi _ => ins_right (by have := HQM.out; have := HQ.out; omega)) ?_; intro v3 u6 hO3 hg6 _; (have HU6 := Lib.hid (ext_grown HU5.out hg6 (own_ge HO2.out))); rw [show m + 1 + (q - m) = q + 1 by have := HQM.out; omega] at hO3; (obtain ⟨s3, hv3, hR3⟩ := OwnR.sl hO3); (obtain ⟨s3a, s3c⟩ := s3); subst hv3; (have HR3 := Lib.hid hR3); clear hO3 hg6 hR3))
                refine ⟨HU6.out, wpV_one ?_⟩
                simp only [picks, List.drop_succ_cons, List.drop_zero]
                go_wp2_with (fail)
                refine ⟨HU6.out, wpV_leaf ?_⟩
                have w1' := W1.out
                have hlt := HKL.out
                go_wp2_with (fail)
                go_roundw
                case rel => exact ⟨k + 1, ⟨s3a, s3c⟩, by go_num, by omega, by rw [HF2.out, List.length_append, List.length_cons, List.length_take, List.length_drop]; have := HQM.out; have := HQ.out; rw [show min m O.length + (O.length - m + 1) = q + 1 by omega], ext_trans HE3.out (ext_trans HE8.out HU6.out), by rw [HF2.out]; have h3 := HR3.out; rwa [show q + 1 = (O.take m ++ x :: O.drop m).length by rw [List.length_append, List.length_cons, List.length_take, List.length_drop]; have := HQM.out; have := HQ.out; omega] at h3⟩
                case measure => simp [intOf]; omega
        · have hqm : q = m := by omega
          have HIN : Hid (insN x O = O.take m ++ x :: O.drop m) := Lib.hid (by
            rw [insN_at HLOW.out (by rw [← HQ.out]; omega) (.inl (by rw [← HQ.out, hqm])), if_neg (fun hh => by have := hh.1; rw [← HQ.out] at this; omega)])
          have HF2 : Hid (standK l (l.take (k + 1)) [] = O.take m ++ x :: O.drop m) := Lib.hid (by rw [HF.out, HIN.out])
          have f1 : ¬ (m : Int) < (q : Int) := by omega
          have f3 : decide ((m : Int) < (q : Int)) = false := decide_eq_false f1
          have b0 : ((m : Int) == (q : Int)) = true := by simp; omega
          clear hqm hmq
          go_upto_region 7 with (fail)
          refine region_ev [] [0, 1, 2, 3, 4, 5, 6, 7, 8, 9, 10, 11, 12, 13, 14] [] [] (by kernel_rfl) (by kernel_rfl) (by intro c a d v w h; cases d <;> exact h) ?_
          simp only [picks, List.drop_succ_cons, List.drop_zero]
          repeat (refine wpQ0_step (fun K hK => ?_); go_simp; (refine hK _ ?_; clear hK K))
          refine wpQ0_nil ?_
          repeat ((with_reducible refine wpQ2_step (fun K hK => ?_)); go_simp; first | ((with_reducible refine hK _ ?_); clear hK K) | (apply Exists.intro; refine ⟨fun x => ?_, hK _ ?_⟩; (fail); clear hK K) | (refine ite_undef (fun h => (by have h_ : (none : Option Bool) = some _ := h; cases h_)) ?_; (with_reducible refine hK _ ?_); clear hK K))
          (with_reducible refine wpQ2_nil ?_)
          refine Events.none_ fun w7 hg7 => ?_
          simp only [picks, List.drop_succ_cons, List.drop_zero]
          have HE7 := Lib.hid (ext_trans HEm.out hg7)
          have HW7 := Lib.hid (ext_trans HWm.out hg7)
          replace c0 := ext_cell' HW7.out C0.out; replace c1 := ext_cell' HW7.out C1.out; replace c2 := ext_cell' HW7.out C2.out; replace c3 := ext_cell' HW7.out C3.out
          replace c4 := ext_cell' HW7.out C4.out; replace c5 := ext_cell' HW7.out C5.out; replace c6 := ext_cell' HW7.out C6.out; replace c7 := ext_cell' HW7.out C7.out
          clear hg7
          go_upto_region 9 with (fail)
          refine region_ev [] [0, 1, 2, 3, 4, 5, 6, 7, 8, 9, 10, 11, 12, 13, 14] [] [] (by kernel_rfl) (by kernel_rfl) (by intro c a d v w h; cases d <;> exact h) ?_
          simp only [picks, List.drop_succ_cons, List.drop_zero]
          repeat (refine wpQ0_step (fun K hK => ?_); go_simp; (refine hK _ ?_; clear hK K))
          refine wpQ0_nil ?_
          repeat ((with_reducible refine wpQ2_step (fun K hK => ?_)); go_simp; first | ((with_reducible refine hK _ ?_); clear hK K) | (apply Exists.intro; refine ⟨fun x => ?_, hK _ ?_⟩; (fail); clear hK K) | (refine ite_undef (fun h => (by have h_ : (none : Option Bool) = some _ := h; cases h_)) ?_; (with_reducible refine hK _ ?_); clear hK K))
          (with_reducible refine wpQ2_nil ?_)
          refine Events.none_ fun w8 hg8 => ?_
          simp only [picks, List.drop_succ_cons, List.drop_zero]
          have HE8 := Lib.hid (ext_trans HE7.out hg8)
          clear c0 c1 c2 c3 c4 c5 c6 c7 hg8
          go_upto_region 10 with (fail)
          have h0m : (0 : Int) ≤ (m : Int) := by omega
          have hmq' : m ≤ q := by omega
          have hmc : m ≤ oc := by omega
          have rq1 := run_notes_to oa q oc m hmc
          have rq2 := run_notes_from oa q oc m hmq'
          have HW8 := Lib.hid (ext_trans HW3.out HE8.out)
          have HQM : Hid (m ≤ q) := Lib.hid hmq'
          have HQB : Hid (q ≤ 100000) := Lib.hid (by omega)
          have HTK : Hid (RowS w3 ⟨takeA oa oc 8, oc⟩ 8 m (ntC O)) := Lib.hid (row_take HO3.out (by rw [← HQ.out]; exact hmq'))
          have HDR : Hid (RowS w3 ⟨dropA oa oc m 8, oc - m⟩ 8 (q - m) (fun i j => ntC O (m + i) j)) := Lib.hid (by rw [HQ.out]; exact row_drop HO3.out (by rw [← HQ.out]; exact hmq'))
          have G0 := Lib.hid g0; have G1 := Lib.hid g1; have E0 := Lib.hid e0; have E1 := Lib.hid e1; have W1 := Lib.hid w1'; have RQ1 := Lib.hid rq1; have RQ2 := Lib.hid rq2; have HKL := Lib.hid hlt
          clear g0 g1 e0 e1 w1' f1 f3 b0 hmq' hmc h0m hm rq1 rq2 hlt hkle hol hom hk
          (try clear f0); (try clear f2); (try clear w2')
          refine meetV3 (C := fun (_be bq : Nat) (v1 : Value) (u : World) => Ext2 w8 u ∧ OwnR u w8.heap.size 59 8 v1 m (ntC (O.take m)) ∧ u.heap[bq]? = some (Obj.cells #[.string x.by_, .int .i64 x.number, .int .i64 x.rev, .int .i64 x.kind, .int .i64 x.from_, .int .i64 x.until_, .int .i64 x.mlo, .int .i64 x.mhi] 59)) (P := Tryz.prog) (l := ?llb) (t := .one 10 (.one 14 (.one 15 .leaf))) (Q := ?qqb) (S := Ext2 w8) (A := ?axb) (fun key => ?trb) ?keb
          case trb =>
            refine region_treeV (Ext2 w8) (.flt [1, 2, 3, 5, 6, 7, 8, 11, 12, 13] (.two 0 (.two 4 (.one 9 (.one 10 (.one 14 (.one 15 .leaf)))) 9 (.one 4 (.one 10 (.one 14 (.one 15 .leaf))))) 9 (.one 0 (.one 4 (.one 10 (.one 14 (.one 15 .leaf))))))) (fun W h => h) (by kernel_rfl) (by kernel_rfl) (by intro c a d v w h; cases d <;> exact h) ?_
            intro u0 hu0
            have HU := Lib.hid hu0
            clear hu0
            have g0 := G0.out; have g1 := G1.out; have e0 := E0.out; have e1 := E1.out; have rq1 := RQ1.out; have rq2 := RQ2.out
            have c0 := ext_cell' HW8.out C0.out; have c1 := ext_cell' HW8.out C1.out; have c2 := ext_cell' HW8.out C2.out; have c3 := ext_cell' HW8.out C3.out; have c4 := ext_cell' HW8.out C4.out; have c5 := ext_cell' HW8.out C5.out; have c6 := ext_cell' HW8.out C6.out; have c7 := ext_cell' HW8.out C7.out
            refine wpV_flt ?_
            simp only [picks, List.drop_succ_cons, List.drop_zero]
            repeat ((with_reducible refine wpQS_step (fun K hK => ?_)); go_simp; ((with_reducible refine hK _ ?_); clear hK K))
            (with_reducible refine wpQS_nil ?_)
            clear c0 c1 c2 c3 c4 c5 c6 c7 g0 g1 e0 e1 rq1 rq2
            refine wpV_two ?_ ?_
            · skip
              simp only [picks, List.drop_succ_cons, List.drop_zero]
              go_wp2_with (fail)
              refine andV_name (fun u2 hu2 => ?_)
              obtain ⟨be, hbe⟩ : ∃ b, b = u0.heap.size := ⟨_, rfl⟩
              have NE : Hid (u2.heap[be]? = some (Obj.cells #[] 59 (0, 0))) := Lib.hid (by rw [hu2, hbe]; exact blk_new _ _)
              have hE2 : Ext2 u0 u2 := by rw [hu2]; exact below_alloc' _ _
              have LB : Hid (w8.heap.size ≤ be) := Lib.hid (by rw [hbe]; exact HU.out.size)
              skip
              have HX := Lib.hid (ext_trans HU.out hE2)
              rw [← hbe]
              clear hu2 hbe hE2
              refine ⟨HX.out, ?_⟩
              refine wpV_two ?_ ?_
              · skip
                simp only [picks, List.drop_succ_cons, List.drop_zero]
                go_wp2_with (at_builtin; go_loud (refine app_sl_at elNote (c2 := ntC (O.take m)) rfl _ _ rfl w8.heap.size rfl (own_empty (c := ntC []) NE.out LB.out) ⟨takeA oa oc 8, oc⟩ m rfl (HTK.out.below (ext_trans HE8.out HX.out)) (ntC_one _) (by have := HQM.out; have := HQB.out; omega) HX.out.size (fun i j hi _ => absurd hi (Nat.not_lt_zero i)) (fun i j hi _ => by rw [Nat.zero_add]; exact ntC_take2 hi) ?_; intro v1 u4 hO1 hg4 _; rw [Nat.zero_add] at hO1; (have HO1 := Lib.hid hO1); (have HZ := Lib.hid (ext_grown HX.out hg4 (fun k hk => by cases hk; exact LB.out))); skip; clear hO1 hg4))
                refine ⟨HZ.out, ?_⟩
                refine wpV_one ?_
                simp only [picks, List.drop_succ_cons, List.drop_zero]
                go_wp2_with (fail)
                refine andV_name (fun u3 hu3 => ?_)
                obtain ⟨bq, hbq⟩ : ∃ b, b = u4.heap.size := ⟨_, rfl⟩
                have NQ : Hid (u3.heap[bq]? = some (Obj.cells #[.string x.by_, .int .i64 x.number, .int .i64 x.rev, .int .i64 x.kind, .int .i64 x.from_, .int .i64 x.until_, .int .i64 x.mlo, .int .i64 x.mhi] 59)) := Lib.hid (by rw [hu3, hbq]; exact blk_new _ _)
                have hE3 : Ext2 u4 u3 := by rw [hu3]; exact below_alloc' _ _
                have HO2 := Lib.hid (HO1.out.below hE3)
                have HY := Lib.hid (ext_trans HZ.out hE3)
                rw [← hbq]
                clear hu3 hbq hE3
                refine ⟨HY.out, ?_⟩
                exact key be bq v1 _ ⟨HY.out, HO2.out, NQ.out⟩
              · skip
                simp only [picks, List.drop_succ_cons, List.drop_zero]
                go_wp2_with (fail)
                refine andV_name (fun u3 hu3 => ?_)
                obtain ⟨bq, hbq⟩ : ∃ b, b = u2.heap.size := ⟨_, rfl⟩
                have NQ : Hid (u3.heap[bq]? = some (Obj.cells #[.string x.by_, .int .i64 x.number, .int .i64 x.rev, .int .i64 x.kind, .int .i64 x.from_, .int .i64 x.until_, .int .i64 x.mlo, .int .i64 x.mhi] 59)) := Lib.hid (by rw [hu3, hbq]; exact blk_new _ _)
                have hE3 : Ext2 u2 u3 := by rw [hu3]; exact below_alloc' _ _
                have NE2 := Lib.hid (Ext2.blk hE3 NE.out); have HNE : Hid (bq ≠ be) := Lib.hid (by have := blk_lt NE.out; omega)
                have HY := Lib.hid (ext_trans HX.out hE3)
                rw [← hbq]
                clear hu3 hbq hE3
                refine ⟨HY.out, ?_⟩
                refine wpV_one ?_
                simp only [picks, List.drop_succ_cons, List.drop_zero]
                go_wp2_with (at_builtin; go_loud (refine app_sl_at elNote (c2 := ntC (O.take m)) rfl _ _ rfl w8.heap.size rfl (own_empty (c := ntC []) NE2.out LB.out) ⟨takeA oa oc 8, oc⟩ m rfl (HTK.out.below (ext_trans HE8.out HY.out)) (ntC_one _) (by have := HQM.out; have := HQB.out; omega) HY.out.size (fun i j hi _ => absurd hi (Nat.not_lt_zero i)) (fun i j hi _ => by rw [Nat.zero_add]; exact ntC_take2 hi) ?_; intro v1 u4 hO1 hg4 _; rw [Nat.zero_add] at hO1; (have HO1 := Lib.hid hO1); (have HZ := Lib.hid (ext_grown HY.out hg4 (fun k hk => by cases hk; exact LB.out))); have NQ2 := Lib.hid (blk_grown hg4 NQ.out (fun h => HNE.out (by cases h; rfl))); clear hO1 hg4))
                refine ⟨HZ.out, ?_⟩
                exact key be bq v1 _ ⟨HZ.out, HO1.out, NQ2.out⟩
            · skip
              simp only [picks, List.drop_succ_cons, List.drop_zero]
              go_wp2_with (fail)
              refine andV_name (fun u3 hu3 => ?_)
              obtain ⟨bq, hbq⟩ : ∃ b, b = u0.heap.size := ⟨_, rfl⟩
              have NQ : Hid (u3.heap[bq]? = some (Obj.cells #[.string x.by_, .int .i64 x.number, .int .i64 x.rev, .int .i64 x.kind, .int .i64 x.from_, .int .i64 x.until_, .int .i64 x.mlo, .int .i64 x.mhi] 59)) := Lib.hid (by rw [hu3, hbq]; exact blk_new _ _)
              have hE3 : Ext2 u0 u3 := by rw [hu3]; exact below_alloc' _ _
              skip
              have HY := Lib.hid (ext_trans HU.out hE3)
              rw [← hbq]
              clear hu3 hbq hE3
              refine ⟨HY.out, ?_⟩
              refine wpV_one ?_
              simp only [picks, List.drop_succ_cons, List.drop_zero]
              go_wp2_with (fail)
              refine andV_name (fun u2 hu2 => ?_)
              obtain ⟨be, hbe⟩ : ∃ b, b = u3.heap.size := ⟨_, rfl⟩
              have NE : Hid (u2.heap[be]? = some (Obj.cells #[] 59 (0, 0))) := Lib.hid (by rw [hu2, hbe]; exact blk_new _ _)
              have hE2 : Ext2 u3 u2 := by rw [hu2]; exact below_alloc' _ _
              have LB : Hid (w8.heap.size ≤ be) := Lib.hid (by rw [hbe]; exact HY.out.size)
              have NQ2 := Lib.hid (Ext2.blk hE2 NQ.out); have HNE : Hid (bq ≠ be) := Lib.hid (by have := blk_lt NQ.out; omega)
              have HX := Lib.hid (ext_trans HY.out hE2)
              rw [← hbe]
              clear hu2 hbe hE2
              refine ⟨HX.out, ?_⟩
              refine wpV_one ?_
              simp only [picks, List.drop_succ_cons, List.drop_zero]
              go_wp2_with (at_builtin; go_loud (refine app_sl_at elNote (c2 := ntC (O.take m)) rfl _ _ rfl w8.heap.size rfl (own_empty (c := ntC []) NE.out LB.out) ⟨takeA oa oc 8, oc⟩ m rfl (HTK.out.below (ext_trans HE8.out HX.out)) (ntC_one _) (by have := HQM.out; have := HQB.out; omega) HX.out.size (fun i j hi _ => absurd hi (Nat.not_lt_zero i)) (fun i j hi _ => by rw [Nat.zero_add]; exact ntC_take2 hi) ?_; intro v1 u4 hO1 hg4 _; rw [Nat.zero_add] at hO1; (have HO1 := Lib.hid hO1); (have HZ := Lib.hid (ext_grown HX.out hg4 (fun k hk => by cases hk; exact LB.out))); have NQ3 := Lib.hid (blk_grown hg4 NQ2.out (fun h => HNE.out (by cases h; rfl))); clear hO1 hg4))
              refine ⟨HZ.out, ?_⟩
              exact key be bq v1 _ ⟨HZ.out, HO1.out, NQ3.out⟩
          case keb =>
            rintro be bq v1 u ⟨hU, hO1, hNQ⟩
            have HU := Lib.hid hU; have HO1 := Lib.hid hO1; have NQ := Lib.hid hNQ
            clear hU hO1 hNQ
            refine wpV_one ?_
            simp only [picks, List.drop_succ_cons, List.drop_zero]
            go_wp2_with (at_builtin; go_loud (refine app_one_at [.string x.by_, .int .i64 x.number, .int .i64 x.rev, .int .i64 x.kind, .int .i64 x.from_, .int .i64 x.until_, .int .i64 x.mlo, .int .i64 x.mhi] elNote rfl _ _ rfl w8.heap.size rfl HO1.out bq 1 rfl NQ.out (by simp [Value.oneCell']) (by have := HQM.out; have := HQB.out; omega) HU.out.size ?_; intro v2 u5 hO2 hg5 _; (have HO2 : Hid (OwnR u5 w8.heap.size 59 8 v2 (m + 1) (ntC (O.take m ++ [x]))) := Lib.hid (by have hl : (O.take m).length = m := (by rw [List.length_take]; have := HQM.out; have := HQ.out; omega); have h7 := own_nt (w := u5) (base := w8.heap.size) (e := 59) (v := v2) (L := O.take m) (x := x) (by rw [hl]; exact hO2); rwa [List.length_append, List.length_singleton, hl] at h7)); (have HU5 := Lib.hid (ext_grown HU.out hg5 (own_ge HO1.out))); clear hO2 hg5))
            refine ⟨HU5.out, wpV_one ?_⟩
            simp only [picks, List.drop_succ_cons, List.drop_zero]
            go_wp2_with (at_builtin; go_loud (refine app_sl_at elNote (c2 := ntC (O.take m ++ x :: O.drop m)) rfl _ _ rfl w8.heap.size rfl HO2.out ⟨dropA oa oc m 8, oc - m⟩ (q - m) rfl (HDR.out.below (ext_trans HE8.out HU5.out)) (fun i j => ntC_one _ _ _) (by have := HQM.out; have := HQB.out; omega) HU5.out.size (fun i j hi _ => ins_left (by have := HQM.out; have := HQ.out; omega) hi) (fun i j hi _ => ins_right (by have := HQM.out; have := HQ.out; omega)) ?_; intro v3 u6 hO3 hg6 _; (have HU6 := Lib.hid (ext_grown HU5.out hg6 (own_ge HO2.out))); rw [show m + 1 + (q - m) = q + 1 by have := HQM.out; omega] at hO3; (obtain ⟨s3, hv3, hR3⟩ := OwnR.sl hO3); (obtain ⟨s3a, s3c⟩ := s3); subst hv3; (have HR3 := Lib.hid hR3); clear hO3 hg6 hR3))
            refine ⟨HU6.out, wpV_one ?_⟩
            simp only [picks, List.drop_succ_cons, List.drop_zero]
            go_wp2_with (fail)
            refine ⟨HU6.out, wpV_leaf ?_⟩
            have w1' := W1.out
            have hlt := HKL.out
            go_wp2_with (fail)
            go_roundw
            case rel => exact ⟨k + 1, ⟨s3a, s3c⟩, by go_num, by omega, by rw [HF2.out, List.length_append, List.length_cons, List.length_take, List.length_drop]; have := HQM.out; have := HQ.out; rw [show min m O.length + (O.length - m + 1) = q + 1 by omega], ext_trans HE3.out (ext_trans HE8.out HU6.out), by rw [HF2.out]; have h3 := HR3.out; rwa [show q + 1 = (O.take m ++ x :: O.drop m).length by rw [List.length_append, List.length_cons, List.length_take, List.length_drop]; have := HQM.out; have := HQ.out; omega] at h3⟩
            case measure => simp [intOf]; omega
    · obtain rfl : n = k := by omega
      have hnk : ¬ (n : Int) < (n : Int) := by omega
      rw [show l.take n = l by rw [HN.out, List.take_length]] at HO ⊢
      have HO2 : Hid (NotesS wr ⟨oa, oc⟩ (standV l)) := HO
      rw [show standK l l [] = standV l from rfl]
      go_wp2_with (fail)
      go_ret
      exact ⟨⟨⟨oa, oc⟩, rfl, HO2.out⟩, HE.out⟩
end Go.Proofs.YtojomdojblgegaaGreatDoor
