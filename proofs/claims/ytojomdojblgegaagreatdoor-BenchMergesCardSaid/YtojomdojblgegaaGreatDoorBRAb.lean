/-
  ref.about, stands.
-/
import Derived.Test.YtojomdojblgegaaGreatDoorBRCk
import Derived.Test.YtojomdojblgegaaGreatDoorBPlW
namespace Go.Proofs.YtojomdojblgegaaGreatDoor
open Go.RowKit D
set_option linter.unusedVariables false
set_option linter.unusedSimpArgs false
attribute [local go_sem high] run_minI run_maxI
attribute [local go_sem] upon2 cls_cell cls_frozen forall_const exists_eq_left'
attribute [local go_sem] FirstUpon atBlk_cell
set_option maxRecDepth 100000 in
set_option maxHeartbeats 8000000 in
theorem aboutR_any {l : List Note} {s : Sl} {kind f : Int} {w : World} (hl : NotesS w s l) : Calls Tryz.prog 55 #[.slice s.a l.length s.cap, .int .i64 kind, .int .i64 f] w fun e w' => e = .returned (.bool (about l kind f)) ∧ Below w.heap.size w w' := by
  have HL := Lib.hid hl
  have hle := hl.le; have hmx := hl.max
  obtain ⟨v, hv⟩ : ∃ v, v = about l kind f := ⟨_, rfl⟩
  rw [← hv]
  unfold about at hv
  have HV := Lib.hid hv
  obtain ⟨sa, sc⟩ := s
  obtain ⟨n, hn⟩ : ∃ n, n = l.length := ⟨_, rfl⟩
  rw [← hn] at hle ⊢
  have HN := Lib.hid hn
  dsimp only at hle hmx
  clear hl hv hn
  go_enter Tryz.func55, Tryz.ntmps55
  go_wp2_with (fail)
  go_loopw [7] (fun i wr => ∃ k : Nat, i = .int .i64 k ∧ k ≤ n ∧ Ext2 w wr ∧ (l.take k).any (fun x => decide (x.kind = kind) && inB f x.from_ x.until_) = false) (fun i _ => n - (intOf i).toNat)
  case atStart => exact ⟨0, rfl, by omega, Below.refl _ _, rfl⟩
  case round =>
    obtain ⟨k, rfl, hk, hE, hany⟩ := hrel
    have HE := Lib.hid hE; have HY := Lib.hid hany
    clear hE hany
    by_cases hlt : k < n
    · go_light
      have hkl : k < l.length := by rw [← HN.out]; exact hlt
      have hat := any_take (p := fun x : Note => decide (x.kind = kind) && inB f x.from_ x.until_) (d := default) hkl
      rw [HY.out, Bool.false_or] at hat
      obtain ⟨b, off, hla, -, -, -, c3, c4, c5, -⟩ := nt_cells (RowS.below HL.out HE.out) hkl
      dsimp only at hla
      subst hla
      have hget : l.getD k default = ntD l k := rfl
      rw [hget] at hat
      have hmem := nt_in hkl
      obtain ⟨x, hx⟩ : ∃ x, x = ntD l k := ⟨_, rfl⟩
      rw [← hx] at c3 c4 c5 hat hmem
      obtain ⟨u, hu⟩ : ∃ u, u = inB f x.from_ x.until_ := ⟨_, rfl⟩
      have HI := inR_b hu
      have HAT := Lib.hid hat
      have hfull : u = true → x.kind = kind → v = true := fun h1 h2 => by
        rw [HV.out]
        exact List.any_eq_true.2 ⟨x, hmem, by simp [h2, ← hu, h1]⟩
      have HFU := Lib.hid hfull
      have hu2 := Lib.hid hu
      have h0 : (0 : Int) ≤ (k : Int) := by omega
      have h1 : (k : Int) < (n : Int) := by omega
      have d0 : decide ((0 : Int) ≤ (k : Int)) = true := decide_eq_true h0
      have d1 : decide ((k : Int) < (n : Int)) = true := decide_eq_true h1
      have w1' : IntKind.i64.wrap ((k : Int) + 1) = (k : Int) + 1 := IntWalk.i64_in _ (by omega)
      clear hat hx hget hmem hu hfull hkl
      go_upto_region 4 with (fail)
      by_cases hkk : x.kind = kind
      · have b1 : (x.kind == kind) = true := by simp [hkk]
        cases u with
        | true =>
          obtain rfl : v = true := HFU.out rfl hkk
          clear hkk
          refine region_ev [] [0, 1, 2, 3, 4, 5, 6, 7, 8, 9, 10, 11, 12, 13, 14, 15, 16, 17, 18, 19, 20] [] [] (by kernel_rfl) (by kernel_rfl) (by intro c a d v w h; cases d <;> exact h) ?_
          simp only [picks, List.drop_succ_cons, List.drop_zero]
          repeat (refine wpQ0_step (fun K hK => ?_); go_simp; (refine hK _ ?_; clear hK K))
          refine wpQ0_nil ?_
          repeat ((with_reducible refine wpQ2_step (fun K hK => ?_)); go_simp; first | ((with_reducible refine hK _ ?_); clear hK K) | (apply Exists.intro; refine ⟨fun x => ?_, hK _ ?_⟩; ((with_reducible exact HI.out x.1)); clear hK K) | (refine ite_undef (fun h => (by have h_ : (none : Option Bool) = some _ := h; cases h_)) ?_; (with_reducible refine hK _ ?_); clear hK K))
          (with_reducible refine wpQ2_nil ?_)
          refine Events.none_ fun w3 hg3 => ?_
          simp only [picks, List.drop_succ_cons, List.drop_zero]
          have HE3 := Lib.hid (ext_trans HE.out hg3)
          clear c3 c4 c5 hg3
          go_wp2_with (fail)
          go_ret
          exact ⟨rfl, HE3.out⟩
        | false =>
          have HF : Hid ((l.take (k + 1)).any (fun x => decide (x.kind = kind) && inB f x.from_ x.until_) = false) := Lib.hid (by rw [HAT.out, ← hu2.out, Bool.and_false])
          clear hkk
          refine region_ev [] [0, 1, 2, 3, 4, 5, 6, 7, 8, 9, 10, 11, 12, 13, 14, 15, 16, 17, 18, 19, 20] [] [] (by kernel_rfl) (by kernel_rfl) (by intro c a d v w h; cases d <;> exact h) ?_
          simp only [picks, List.drop_succ_cons, List.drop_zero]
          repeat (refine wpQ0_step (fun K hK => ?_); go_simp; (refine hK _ ?_; clear hK K))
          refine wpQ0_nil ?_
          repeat ((with_reducible refine wpQ2_step (fun K hK => ?_)); go_simp; first | ((with_reducible refine hK _ ?_); clear hK K) | (apply Exists.intro; refine ⟨fun x => ?_, hK _ ?_⟩; ((with_reducible exact HI.out x.1)); clear hK K) | (refine ite_undef (fun h => (by have h_ : (none : Option Bool) = some _ := h; cases h_)) ?_; (with_reducible refine hK _ ?_); clear hK K))
          (with_reducible refine wpQ2_nil ?_)
          refine Events.none_ fun w3 hg3 => ?_
          simp only [picks, List.drop_succ_cons, List.drop_zero]
          have HE3 := Lib.hid (ext_trans HE.out hg3)
          clear c3 c4 c5 hg3
          go_wp2_with (fail)
          go_roundw
          case rel => exact ⟨k + 1, by go_num, by omega, HE3.out, HF.out⟩
          case measure => simp [intOf]; omega
      · have b1 : (x.kind == kind) = false := by simpa using hkk
        have HF : Hid ((l.take (k + 1)).any (fun x => decide (x.kind = kind) && inB f x.from_ x.until_) = false) := Lib.hid (by rw [HAT.out, decide_eq_false hkk, Bool.false_and])
        clear hkk
        refine region_ev [] [0, 1, 2, 3, 4, 5, 6, 7, 8, 9, 10, 11, 12, 13, 14, 15, 16, 17, 18, 19, 20] [] [] (by kernel_rfl) (by kernel_rfl) (by intro c a d v w h; cases d <;> exact h) ?_
        simp only [picks, List.drop_succ_cons, List.drop_zero]
        repeat (refine wpQ0_step (fun K hK => ?_); go_simp; (refine hK _ ?_; clear hK K))
        refine wpQ0_nil ?_
        repeat ((with_reducible refine wpQ2_step (fun K hK => ?_)); go_simp; first | ((with_reducible refine hK _ ?_); clear hK K) | (apply Exists.intro; refine ⟨fun x => ?_, hK _ ?_⟩; ((with_reducible exact HI.out x.1)); clear hK K) | (refine ite_undef (fun h => (by have h_ : (none : Option Bool) = some _ := h; cases h_)) ?_; (with_reducible refine hK _ ?_); clear hK K))
        (with_reducible refine wpQ2_nil ?_)
        refine Events.none_ fun w3 hg3 => ?_
        simp only [picks, List.drop_succ_cons, List.drop_zero]
        have HE3 := Lib.hid (ext_trans HE.out hg3)
        clear c3 c4 c5 hg3
        go_wp2_with (fail)
        go_roundw
        case rel => exact ⟨k + 1, by go_num, by omega, HE3.out, HF.out⟩
        case measure => simp [intOf]; omega
    · obtain rfl : n = k := by omega
      have hnk : ¬ (n : Int) < (n : Int) := by omega
      obtain rfl : v = false := by rw [HV.out, ← HY.out, HN.out, List.take_length]
      go_wp2_with (fail)
      go_ret
      exact ⟨rfl, HE.out⟩
end Go.Proofs.YtojomdojblgegaaGreatDoor
