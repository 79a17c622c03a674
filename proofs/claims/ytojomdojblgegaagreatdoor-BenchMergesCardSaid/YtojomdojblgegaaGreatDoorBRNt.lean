/-
  ref.note.
-/
import Derived.Test.YtojomdojblgegaaGreatDoorBFlm
import Derived.Test.YtojomdojblgegaaGreatDoorBRCt
import Derived.Test.YtojomdojblgegaaGreatDoorBCmp
namespace Go.Proofs.YtojomdojblgegaaGreatDoor
open Go.RowKit D
set_option linter.unusedVariables false
set_option linter.unusedSimpArgs false
attribute [local go_sem high] run_minI run_maxI
attribute [local go_sem] upon2 cls_cell cls_frozen forall_const exists_eq_left'
attribute [local go_sem] FirstUpon atBlk_cell
theorem and_first6 {a b c d e f : Bool} (h : (a && b && c && d && e && f) = false) : a = false ∨ (a = true ∧ b = false) ∨ (a = true ∧ b = true ∧ c = false) ∨ (a = true ∧ b = true ∧ c = true ∧ d = false) ∨ (a = true ∧ b = true ∧ c = true ∧ d = true ∧ e = false) ∨ (a = true ∧ b = true ∧ c = true ∧ d = true ∧ e = true ∧ f = false) := by cases a <;> cases b <;> cases c <;> cases d <;> cases e <;> simp_all
theorem and_all6 {a b c d e f : Bool} (h : (a && b && c && d && e && f) = true) : a = true ∧ b = true ∧ c = true ∧ d = true ∧ e = true ∧ f = true := by cases a <;> cases b <;> cases c <;> cases d <;> cases e <;> simp_all
set_option maxRecDepth 100000 in
set_option maxHeartbeats 8000000 in
theorem noteR_any {x : Note} {w : World} (hs : x.by_.size ≤ maxLen) : Calls Tryz.prog 36 #[.agg #[.string x.by_, .int .i64 x.number, .int .i64 x.rev, .int .i64 x.kind, .int .i64 x.from_, .int .i64 x.until_, .int .i64 x.mlo, .int .i64 x.mhi]] w fun e w' => e = .returned (.int .i64 (noteE x)) ∧ Below w.heap.size w w' := by
  have HN := Lib.hid fun (W : World) => nameR_any (w := W) hs
  obtain ⟨E, hE⟩ : ∃ E, E = noteE x := ⟨_, rfl⟩
  rw [← hE]
  unfold noteE at hE
  obtain ⟨v0, hv0⟩ : ∃ v, v = okName x.by_ := ⟨_, rfl⟩
  obtain ⟨vk, hvk⟩ : ∃ v, v = inB x.kind 1 3 := ⟨_, rfl⟩
  obtain ⟨v1, hv1⟩ : ∃ v, v = inB x.number 1 999 := ⟨_, rfl⟩
  obtain ⟨v2, hv2⟩ : ∃ v, v = inB x.rev 0 99 := ⟨_, rfl⟩
  obtain ⟨v3, hv3⟩ : ∃ v, v = inB x.from_ 0 199999 := ⟨_, rfl⟩
  obtain ⟨v4, hv4⟩ : ∃ v, v = inB x.until_ 0 199999 := ⟨_, rfl⟩
  obtain ⟨v5, hv5⟩ : ∃ v, v = inB x.mlo 0 400000 := ⟨_, rfl⟩
  obtain ⟨v6, hv6⟩ : ∃ v, v = inB x.mhi 0 400000 := ⟨_, rfl⟩
  rw [← hv0, ← hvk, ← hv1, ← hv2, ← hv3, ← hv4, ← hv5, ← hv6] at hE
  have HR : Hid (v5 = true → v6 = true → 0 ≤ x.mlo ∧ 0 ≤ x.mhi) := Lib.hid fun h g => ⟨(inB_iff.1 (hv5 ▸ h)).1, (inB_iff.1 (hv6 ▸ g)).1⟩
  have HK := inR_hid hvk; have H1 := inR_hid hv1; have H2 := inR_hid hv2; have H3 := inR_hid hv3; have H4 := inR_hid hv4; have H5 := inR_hid hv5; have H6 := inR_hid hv6
  rw [← hv0] at HN
  have HE := Lib.hid hE
  clear hE hv0 hvk hv1 hv2 hv3 hv4 hv5 hv6 hs
  go_enter Tryz.func36, Tryz.ntmps36
  go_upto_region 1 with (fail)
  refine wp_name ?_
  intro w3 hw3
  obtain ⟨n3, hn3⟩ : ∃ n, n = w.heap.size := ⟨_, rfl⟩
  have x3 : w3.heap[n3]? = some (Obj.cells #[.string x.by_, .int .i64 x.number, .int .i64 x.rev, .int .i64 x.kind, .int .i64 x.from_, .int .i64 x.until_, .int .i64 x.mlo, .int .i64 x.mhi] 59) := by rw [hw3, hn3]; exact blk_new _ _
  have hE3 : Ext2 w w3 := by rw [hw3]; exact below_alloc' _ _
  rw [← hn3]
  have HE3 := Lib.hid hE3
  clear hw3 hn3 hE3
  have q3c := cell_blk x3
  have q3f := frz_blk x3
  clear x3
  go_wp2_with (fail)
  (with_reducible refine (HN.out _).mono ?_)
  rintro e w' ⟨rfl, rfl⟩
  cases v0 with
  | false =>
    have HF : Hid (E = 6) := Lib.hid (by rw [HE.out]; rfl)
    go_wp2_with (fail)
    go_ret
    exact ⟨ret_int HF.out.symm, HE3.out⟩
  | true =>
  cases vk with
  | false =>
    have HF : Hid (E = 2) := Lib.hid (by rw [HE.out]; rfl)
    go_wp2_with (fail)
    (with_reducible refine (HK.out _).mono ?_)
    rintro e w' ⟨rfl, rfl⟩
    go_wp2_with (fail)
    go_ret
    exact ⟨ret_int HF.out.symm, HE3.out⟩
  | true =>
  have HE2 := Lib.hid HE.out
  rw [if_neg (by simp), if_neg (by simp)] at HE2
  go_wp2_with (fail)
  (with_reducible refine (HK.out _).mono ?_)
  rintro e w' ⟨rfl, rfl⟩
  cases hc : (v1 && v2 && v3 && v4 && v5 && v6) with
  | false =>
    have HF : Hid (E = 7) := Lib.hid (by rw [HE2.out, hc]; rfl)
    clear HE2 HE HR
    rcases and_first6 hc with rfl | ⟨rfl, rfl⟩ | ⟨rfl, rfl, rfl⟩ | ⟨rfl, rfl, rfl, rfl⟩ | ⟨rfl, rfl, rfl, rfl, rfl⟩ | ⟨rfl, rfl, rfl, rfl, rfl, rfl⟩
    all_goals clear hc
    all_goals go_wp2_with (fail)
    all_goals (repeat ((first | (with_reducible refine (H1.out _).mono ?_) | (with_reducible refine (H2.out _).mono ?_) | (with_reducible refine (H3.out _).mono ?_) | (with_reducible refine (H4.out _).mono ?_) | (with_reducible refine (H5.out _).mono ?_) | (with_reducible refine (H6.out _).mono ?_)); rintro e w' ⟨rfl, rfl⟩; go_wp2_with (fail)))
    all_goals go_ret
    all_goals exact ⟨ret_int HF.out.symm, HE3.out⟩
  | true =>
  rw [hc, if_neg (by simp)] at HE2
  obtain ⟨rfl, rfl, rfl, rfl, rfl, rfl⟩ := and_all6 hc
  clear hc
  have HRR := Lib.hid (HR.out rfl rfl)
  go_upto_region 7 with ((first | (with_reducible refine (H1.out _).mono ?_) | (with_reducible refine (H2.out _).mono ?_) | (with_reducible refine (H3.out _).mono ?_) | (with_reducible refine (H4.out _).mono ?_) | (with_reducible refine (H5.out _).mono ?_) | (with_reducible refine (H6.out _).mono ?_)); rintro e w' ⟨rfl, rfl⟩)
  clear H1 H2 H3 H4 H5 H6 HK HN HR HE
  by_cases p1 : x.until_ < x.from_
  · have HF : Hid (E = 2) := Lib.hid (by rw [HE2.out, if_pos (.inl p1)])
    go_wp2_with (fail)
    go_ret
    exact ⟨ret_int HF.out.symm, HE3.out⟩
  by_cases p2 : x.mhi < x.mlo
  · have HF : Hid (E = 2) := Lib.hid (by rw [HE2.out, if_pos (.inr (.inl p2))])
    go_wp2_with (fail)
    go_ret
    exact ⟨ret_int HF.out.symm, HE3.out⟩
  by_cases p3 : x.kind = 1
  · have b1 : (x.kind == 1) = true := by simp [p3]
    have b2 : (x.kind != 1) = false := by simp [p3]
    by_cases p4 : x.from_ = x.until_
    · have HF : Hid (E = 0) := Lib.hid (by rw [HE2.out, if_neg (by omega)])
      have b3 : (x.from_ != x.until_) = false := by simp [p4]
      clear p3 p4
      go_wp2_with (fail)
      go_ret
      exact ⟨ret_int HF.out.symm, HE3.out⟩
    · have HF : Hid (E = 2) := Lib.hid (by rw [HE2.out, if_pos (.inr (.inr (.inl ⟨p3, by omega⟩)))])
      have b3 : (x.from_ != x.until_) = true := by simpa using p4
      clear p3 p4
      go_wp2_with (fail)
      go_ret
      exact ⟨ret_int HF.out.symm, HE3.out⟩
  · have b1 : (x.kind == 1) = false := by simp [p3]
    have b2 : (x.kind != 1) = true := by simp [p3]
    by_cases p4 : x.mlo = 0 ∧ x.mhi = 0
    · have HF : Hid (E = 0) := Lib.hid (by rw [HE2.out, if_neg (by omega)])
      have hEq : ∀ W : World, (binOp .neq 31 (.agg #[.int .i64 x.mlo, .int .i64 x.mhi]) (.agg #[.int .i64 0, .int .i64 0])).run Tryz.prog W = .ok (.bool false) W := fun W => by rw [run_neq_sameSp, decide_eq_true p4]; rfl
      clear p3 p4
      go_wp2_with (fail)
      go_ret
      exact ⟨ret_int HF.out.symm, HE3.out⟩
    · have HF : Hid (E = 2) := Lib.hid (by rw [HE2.out, if_pos (.inr (.inr (.inr ⟨p3, by have := HRR.out; omega⟩)))])
      have hEq : ∀ W : World, (binOp .neq 31 (.agg #[.int .i64 x.mlo, .int .i64 x.mhi]) (.agg #[.int .i64 0, .int .i64 0])).run Tryz.prog W = .ok (.bool true) W := fun W => by rw [run_neq_sameSp, decide_eq_false p4]; rfl
      clear p3 p4
      go_wp2_with (fail)
      go_ret
      exact ⟨ret_int HF.out.symm, HE3.out⟩
end Go.Proofs.YtojomdojblgegaaGreatDoor
