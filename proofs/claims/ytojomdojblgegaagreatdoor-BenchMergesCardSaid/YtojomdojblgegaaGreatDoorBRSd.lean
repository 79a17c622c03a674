/-
  ref.stands.
-/
import Derived.Test.YtojomdojblgegaaGreatDoorBRAb
namespace Go.Proofs.YtojomdojblgegaaGreatDoor
open Go.RowKit D
set_option linter.unusedVariables false
set_option linter.unusedSimpArgs false
attribute [local go_sem high] run_minI run_maxI
attribute [local go_sem] upon2 cls_cell cls_frozen forall_const exists_eq_left'
attribute [local go_sem] FirstUpon atBlk_cell
def stdB (x y : Note) : Bool := !(decide (y.by_ = x.by_) && decide (y.number = x.number) && (decide (x.rev < y.rev) || (decide (y.rev = x.rev) && decide (y ≠ x))))
theorem standsB_all (l : List Note) (x : Note) : standsB l x = l.all (stdB x) := rfl
theorem nt_eq {x y : Note} : y = x ↔ (y.by_ = x.by_ ∧ y.number = x.number ∧ y.rev = x.rev ∧ y.kind = x.kind ∧ y.from_ = x.from_ ∧ y.until_ = x.until_ ∧ y.mlo = x.mlo ∧ y.mhi = x.mhi) := by
  cases x; cases y; simp
set_option maxRecDepth 100000 in
set_option maxHeartbeats 8000000 in
theorem standsR_any {l : List Note} {s : Sl} {x : Note} {w : World} (hl : NotesS w s l) : Calls Tryz.prog 71 #[.slice s.a l.length s.cap, .agg #[.string x.by_, .int .i64 x.number, .int .i64 x.rev, .int .i64 x.kind, .int .i64 x.from_, .int .i64 x.until_, .int .i64 x.mlo, .int .i64 x.mhi]] w fun e w' => e = .returned (.bool (standsB l x)) ∧ Below w.heap.size w w' := by
  have HL := Lib.hid hl
  have hle := hl.le; have hmx := hl.max
  obtain ⟨v, hv⟩ : ∃ v, v = standsB l x := ⟨_, rfl⟩
  rw [← hv]
  rw [standsB_all] at hv
  have HV := Lib.hid hv
  obtain ⟨sa, sc⟩ := s
  obtain ⟨n, hn⟩ : ∃ n, n = l.length := ⟨_, rfl⟩
  rw [← hn] at hle ⊢
  have HN := Lib.hid hn
  dsimp only at hle hmx
  clear hl hv hn
  go_enter Tryz.func71, Tryz.ntmps71
  go_upto_region 1 with (fail)
  refine wp_name ?_
  intro w3 hw3
  obtain ⟨n3, hn3⟩ : ∃ n, n = w.heap.size := ⟨_, rfl⟩
  have x3 : w3.heap[n3]? = some (Obj.cells #[.string x.by_, .int .i64 x.number, .int .i64 x.rev, .int .i64 x.kind, .int .i64 x.from_, .int .i64 x.until_, .int .i64 x.mlo, .int .i64 x.mhi] 59) := by rw [hw3, hn3]; exact blk_new _ _
  have hE3 : Ext2 w w3 := by rw [hw3]; exact below_alloc' _ _
  rw [← hn3]
  have HE3 := Lib.hid hE3; have X3 := Lib.hid x3
  clear hw3 hn3 hE3 x3
  go_wp2_with (fail)
  go_loopw [5] (fun i wr => ∃ k : Nat, i = .int .i64 k ∧ k ≤ n ∧ Ext2 w3 wr ∧ ∀ j, j < k → stdB x (ntD l j) = true) (fun i _ => n - (intOf i).toNat)
  case atStart => exact ⟨0, rfl, by omega, Below.refl _ _, fun j h => absurd h (by omega)⟩
  case round =>
    obtain ⟨k, rfl, hk, hE, hall⟩ := hrel
    have HE := Lib.hid hE; have HALL := Lib.hid hall
    clear hE hall
    by_cases hlt : k < n
    · go_light
      have hkl : k < l.length := by rw [← HN.out]; exact hlt
      obtain ⟨b, off, hla, c0, c1, c2, c3, c4, c5, c6, c7⟩ := nt_cells (RowS.below HL.out (ext_trans HE3.out HE.out)) hkl
      dsimp only at hla
      subst hla
      have hmem := nt_in hkl
      obtain ⟨y, hy⟩ : ∃ y, y = ntD l k := ⟨_, rfl⟩
      rw [← hy] at c0 c1 c2 c3 c4 c5 c6 c7 hmem
      have HNO : Hid (stdB x y = false → v = false) := Lib.hid fun h => by
        rw [HV.out]
        cases hc : l.all (stdB x) with
        | false => rfl
        | true => have := List.all_eq_true.1 hc y hmem; rw [h] at this; cases this
      have HYES : Hid (stdB x y = true → ∀ j, j < k + 1 → stdB x (ntD l j) = true) := Lib.hid fun h j hj => by
        rcases Nat.lt_or_ge j k with h' | h'
        · exact HALL.out j h'
        · obtain rfl : j = k := by omega
          rw [← hy]; exact h
      have h0 : (0 : Int) ≤ (k : Int) := by omega
      have h1 : (k : Int) < (n : Int) := by omega
      have w1' : IntKind.i64.wrap ((k : Int) + 1) = (k : Int) + 1 := IntWalk.i64_in _ (by omega)
      clear hy hmem hkl
      go_upto_region 5 with (fail)
      refine wp_name ?_
      intro w5 hw5
      obtain ⟨n5, hn5⟩ : ∃ n, n = wr.heap.size := ⟨_, rfl⟩
      have x5 : w5.heap[n5]? = some (Obj.cells #[.string y.by_, .int .i64 y.number, .int .i64 y.rev, .int .i64 y.kind, .int .i64 y.from_, .int .i64 y.until_, .int .i64 y.mlo, .int .i64 y.mhi] 59) := by rw [hw5, hn5]; exact blk_new _ _
      have hE5 : Ext2 wr w5 := by rw [hw5]; exact below_alloc' _ _
      have x3 := Ext2.blk (ext_trans HE.out hE5) X3.out
      have HE5 := Lib.hid (ext_trans HE.out hE5)
      rw [← hn5]
      clear hw5 hn5 hE5 c0 c1 c2 c3 c4 c5 c6 c7
      have q3c := cell_blk x3
      have q3f := frz_blk x3
      have q5c := cell_blk x5
      have q5f := frz_blk x5
      clear x3 x5
      by_cases hA : y.by_ = x.by_
      case neg =>
        have HY := Lib.hid (HYES.out (by unfold stdB; rw [decide_eq_false hA]; rfl))
        have hS : (y.by_.toList == x.by_.toList) = false := by simp [toL_iff, hA]
        clear hA
        go_wp2_with (fail)
        clear q3c q3f q5c q5f
        go_roundw
        case rel => exact ⟨k + 1, by go_num, by omega, HE5.out, HY.out⟩
        case measure => simp [intOf]; omega
      have hS : (y.by_.toList == x.by_.toList) = true := by simp [hA]
      by_cases hB : y.number = x.number
      case neg =>
        have HY := Lib.hid (HYES.out (by unfold stdB; rw [decide_eq_false hB, Bool.and_false]; rfl))
        have b1 : (y.number == x.number) = false := by simpa using hB
        clear hA hB
        go_wp2_with (fail)
        clear q3c q3f q5c q5f
        go_roundw
        case rel => exact ⟨k + 1, by go_num, by omega, HE5.out, HY.out⟩
        case measure => simp [intOf]; omega
      have b1 : (y.number == x.number) = true := by simpa using hB
      by_cases hC : x.rev < y.rev
      · obtain rfl := HNO.out (by unfold stdB; rw [decide_eq_true hA, decide_eq_true hB, decide_eq_true hC]; rfl)
        have b2 : decide (x.rev < y.rev) = true := decide_eq_true hC
        clear hA hB
        go_wp2_with (fail)
        go_ret
        exact ⟨rfl, ext_trans HE3.out HE5.out⟩
      have b2 : decide (x.rev < y.rev) = false := decide_eq_false hC
      by_cases hD : y.rev = x.rev
      case neg =>
        have HY := Lib.hid (HYES.out (by unfold stdB; rw [decide_eq_false hC, decide_eq_false hD, Bool.false_and, Bool.or_false, Bool.and_false]; rfl))
        have b3 : (y.rev == x.rev) = false := by simpa using hD
        clear hA hB hD
        go_wp2_with (fail)
        clear q3c q3f q5c q5f
        go_roundw
        case rel => exact ⟨k + 1, by go_num, by omega, HE5.out, HY.out⟩
        case measure => simp [intOf]; omega
      have b3 : (y.rev == x.rev) = true := by simpa using hD
      by_cases hQ : y = x
      · have HY := Lib.hid (HYES.out (by unfold stdB; rw [decide_eq_false hC, decide_eq_false (not_not_intro hQ), Bool.and_false, Bool.or_false, Bool.and_false]; rfl))
        have hE : ∀ W : World, (binOp .neq 59 (.agg #[.string y.by_, .int .i64 y.number, .int .i64 y.rev, .int .i64 y.kind, .int .i64 y.from_, .int .i64 y.until_, .int .i64 y.mlo, .int .i64 y.mhi]) (.agg #[.string x.by_, .int .i64 x.number, .int .i64 x.rev, .int .i64 x.kind, .int .i64 x.from_, .int .i64 x.until_, .int .i64 x.mlo, .int .i64 x.mhi])).run Tryz.prog W = .ok (.bool false) W := fun W => by rw [run_neq_sameNt, decide_eq_true (nt_eq.1 hQ)]; rfl
        clear hA hB hD hQ
        go_wp2_with (fail)
        clear q3c q3f q5c q5f hE
        go_roundw
        case rel => exact ⟨k + 1, by go_num, by omega, HE5.out, HY.out⟩
        case measure => simp [intOf]; omega
      · obtain rfl := HNO.out (by unfold stdB; rw [decide_eq_true hA, decide_eq_true hB, decide_eq_true hD, decide_eq_true hQ, Bool.true_and, Bool.true_and, Bool.or_true]; rfl)
        have hE : ∀ W : World, (binOp .neq 59 (.agg #[.string y.by_, .int .i64 y.number, .int .i64 y.rev, .int .i64 y.kind, .int .i64 y.from_, .int .i64 y.until_, .int .i64 y.mlo, .int .i64 y.mhi]) (.agg #[.string x.by_, .int .i64 x.number, .int .i64 x.rev, .int .i64 x.kind, .int .i64 x.from_, .int .i64 x.until_, .int .i64 x.mlo, .int .i64 x.mhi])).run Tryz.prog W = .ok (.bool true) W := fun W => by rw [run_neq_sameNt, decide_eq_false (fun h => hQ (nt_eq.2 h))]; rfl
        clear hA hB hD hQ
        go_wp2_with (fail)
        go_ret
        exact ⟨rfl, ext_trans HE3.out HE5.out⟩
    · obtain rfl : n = k := by omega
      have hnk : ¬ (n : Int) < (n : Int) := by omega
      obtain rfl : v = true := by
        rw [HV.out]
        refine List.all_eq_true.2 fun y hy => ?_
        obtain ⟨i, hi, rfl⟩ := nt_mem hy
        exact HALL.out i (by rw [HN.out]; exact hi)
      go_wp2_with (fail)
      go_ret
      exact ⟨rfl, ext_trans HE3.out HE.out⟩
end Go.Proofs.YtojomdojblgegaaGreatDoor
