/-
  ref.Merge.
-/
import Derived.Test.YtojomdojblgegaaGreatDoorBRSg
import Derived.Test.YtojomdojblgegaaGreatDoorBRNt
namespace Go.Proofs.YtojomdojblgegaaGreatDoor
open Go.RowKit D
set_option linter.unusedVariables false
set_option linter.unusedSimpArgs false
attribute [local go_sem high] run_minI run_maxI
attribute [local go_sem] upon2 cls_cell cls_frozen forall_const exists_eq_left'
attribute [local go_sem] FirstUpon atBlk_cell
theorem flat_take_le {ls : List (List Note)} (h : ∀ i, i < ls.length → (ls.getD i []).length ≤ 60) : ∀ {k : Nat}, k ≤ ls.length → (ls.take k).flatten.length ≤ 60 * k
  | 0, _ => by simp
  | k + 1, hk => by
    rw [flat_snoc (by omega), List.length_append]
    have := flat_take_le h (k := k) (by omega)
    have := h k (by omega)
    omega
set_option maxRecDepth 100000 in
set_option maxHeartbeats 8000000 in
theorem mergeR_any {ls : List (List Note)} {s : Sl} {hs : Nat → Sl} {w : World} (h : NListsS w s hs ls) : Calls Tryz.prog 11 #[.slice s.a ls.length s.cap] w (MrgOut w ls) := by
  have HS := Lib.hid h
  have hle := h.row.le; have hcm := h.row.max
  obtain ⟨sa, sc⟩ := s
  dsimp only at hle hcm
  clear h
  obtain ⟨m, hm⟩ : ∃ m, m = ls.length := ⟨_, rfl⟩
  rw [← hm] at hle ⊢
  have HM := Lib.hid hm
  have hE0 := Below.refl w.heap.size w
  have HE0 := Lib.hid hE0
  by_cases h8 : 8 < m
  · have hv : mergeV ls = ([], 3) := by unfold mergeV; rw [if_pos (by rw [← hm]; exact h8)]
    have HV := Lib.hid hv
    have h8' : (8 : Int) < (m : Int) := by omega
    clear hv h8 hm hE0
    go_enter Tryz.func11, Tryz.ntmps11
    go_wp2_with (fail)
    go_ret2
    exact mrg_none HV.out HE0.out
  have hv : mergeV ls = if listsE ls ≠ 0 then ([], listsE ls) else if 60 < (standV ls.flatten).length then ([], 3) else (standV ls.flatten, 0) := by unfold mergeV; rw [if_neg (by rw [← hm]; exact h8)]
  have HV := Lib.hid hv
  have h8' : ¬ (8 : Int) < (m : Int) := by omega
  have HM8 : Hid (m ≤ 8) := Lib.hid (by omega)
  clear hv hm hE0
  go_enter Tryz.func11, Tryz.ntmps11
  go_wp2_with (fail)
  go_loopw [4, 5] (fun av i wr => ∃ k : Nat, i = .int .i64 k ∧ k ≤ m ∧ Ext2 w wr ∧ listsE ls = listsE (ls.drop k) ∧ (ls.take k).flatten.length ≤ 60 * k ∧ OwnR wr w.heap.size 59 8 av (ls.take k).flatten.length (ntC (ls.take k).flatten)) (fun _ i _ => m - (intOf i).toNat)
  case atStart => exact ⟨0, rfl, by omega, HE0.out, rfl, by simp, own_nil _ _ _ _ _⟩
  case round =>
    clear HE0
    obtain ⟨k, rfl, hk, hE, hD, hLe, hO⟩ := hrel
    have HE := Lib.hid hE; have HO := Lib.hid hO; have HLE := Lib.hid hLe
    clear hE hO hLe
    by_cases hlt : k < m
    · go_light
      have hkl : k < ls.length := by rw [← HM.out]; exact hlt
      obtain ⟨b, off, hsa, c0⟩ := (HS.out.below HE.out).cell hkl
      have hx := HS.out.each k hkl
      have hsz := HS.out.sizes (ls.getD k []) (by rw [List.getD_eq_getElem?_getD, List.getElem?_eq_getElem hkl]; exact List.getElem_mem hkl)
      dsimp only at hsa
      subst hsa
      rw [drop_get (d := []) hkl, listsE] at hD
      have hf := flat_snoc hkl
      obtain ⟨x, hX⟩ : ∃ x, x = ls.getD k [] := ⟨_, rfl⟩
      obtain ⟨S, hS⟩ : ∃ S, S = hs k := ⟨_, rfl⟩
      obtain ⟨A, hA⟩ : ∃ A, A = (ls.take k).flatten := ⟨_, rfl⟩
      rw [← hX] at c0 hx hsz hD hf; rw [← hS] at c0 hx; rw [← hA] at hf HO HLE
      have hc2 := hx.le; have hc3 := hx.max
      obtain ⟨n, hn⟩ : ∃ n, n = x.length := ⟨_, rfl⟩
      rw [← hn] at c0 hD hc2
      obtain ⟨Sa, Sc⟩ := S
      dsimp only at c0 hc2 hc3
      have HN := Lib.hid hn; have HX := Lib.hid hx; have HSZ := Lib.hid hsz; have HD := Lib.hid hD; have HF := Lib.hid hf
      have HC0 := Lib.hid c0
      have h0 : (0 : Int) ≤ (k : Int) := by omega
      have h1 : (k : Int) < (m : Int) := by omega
      have w2' : IntKind.i64.wrap ((k : Int) + 1) = (k : Int) + 1 := IntWalk.i64_in _ (by omega)
      clear hX hS hn hx hsz hD hkl hf hA
      by_cases h60 : 60 < n
      · have h60' : (60 : Int) < (n : Int) := by omega
        have hF : mergeV ls = ([], 3) := by rw [HV.out, HD.out, if_pos h60]; rfl
        have HF := Lib.hid hF
        clear hF h60
        go_wp2_with (fail)
        go_ret2
        exact mrg_none HF.out HE.out
      have h60' : ¬ (60 : Int) < (n : Int) := by omega
      have HN6 : Hid (n ≤ 60) := Lib.hid (by omega)
      have HD2 := Lib.hid HD.out
      rw [if_neg h60] at HD2
      clear HD
      go_wp2_with (fail)
      clear c0
      go_loopw [6, 7] (fun i _ wq => ∃ j : Nat, i = .int .i64 j ∧ j ≤ n ∧ Ext2 wr wq ∧ listE x = listE (x.drop j)) (fun i _ _ => n - (intOf i).toNat)
      case atStart => exact ⟨0, rfl, by omega, Below.refl _ _, rfl⟩
      case round =>
        obtain ⟨j, rfl, hj, hEq, hJ⟩ := hrel
        have HEQ := Lib.hid hEq
        have HE2 := Lib.hid (ext_trans HE.out hEq)
        have c9 := ext_cell' hEq HC0.out
        clear hEq
        by_cases hlt2 : j < n
        · have hjl : j < x.length := by rw [← HN.out]; exact hlt2
          obtain ⟨b2, off2, hsa2, c0, c1, c2, c3, c4, c5, c6, c7⟩ := nt_cells (HX.out.below HE2.out) (i := j) hjl
          dsimp only at hsa2
          subst hsa2
          have hsz := HSZ.out _ (nt_in hjl)
          rw [drop_get (d := default) hjl, listE] at hJ
          obtain ⟨y, hy⟩ : ∃ y, y = ntD x j := ⟨_, rfl⟩
          rw [show x.getD j default = y from hy.symm] at hJ
          rw [← hy] at c0 c1 c2 c3 c4 c5 c6 c7 hsz
          obtain ⟨E, hEx⟩ : ∃ E, E = noteE y := ⟨_, rfl⟩
          rw [← hEx] at hJ
          have HST : Hid (∀ W, Calls Tryz.prog 36 #[.agg #[.string y.by_, .int .i64 y.number, .int .i64 y.rev, .int .i64 y.kind, .int .i64 y.from_, .int .i64 y.until_, .int .i64 y.mlo, .int .i64 y.mhi]] W fun e w' => e = .returned (.int .i64 E) ∧ Below W.heap.size W w') := Lib.hid fun W => by rw [hEx]; exact noteR_any hsz
          have HJ := Lib.hid hJ
          have h0 : (0 : Int) ≤ (j : Int) := by omega
          have h1' : (j : Int) < (n : Int) := by omega
          have w3' : IntKind.i64.wrap ((j : Int) + 1) = (j : Int) + 1 := IntWalk.i64_in _ (by omega)
          clear hJ hy hEx hsz hjl
          go_wp2_with (fail)
          (with_reducible refine (HST.out _).mono ?_)
          rintro e w6 ⟨rfl, hE6⟩
          have HE6 := Lib.hid (ext_trans HE2.out hE6)
          have HQ6 := Lib.hid (ext_trans HEQ.out hE6)
          clear hE6 c0 c1 c2 c3 c4 c5 c6 c7 c9
          by_cases hE0 : E = 0
          · subst hE0
            have HF : Hid (listE x = listE (x.drop (j + 1))) := Lib.hid (by rw [HJ.out, if_neg (by simp)])
            go_wp2_with (fail)
            go_roundw
            case rel => exact ⟨j + 1, by go_num, by omega, HQ6.out, HF.out⟩
            case measure => simp [intOf]; omega
          · have hb : (E != 0) = true := by simpa using hE0
            have hle : listE x = E := by rw [HJ.out, if_pos hE0]
            have he : listsE ls = E := by rw [HD2.out, hle, if_pos hE0]
            have HF : Hid (mergeV ls = ([], E)) := Lib.hid (by rw [HV.out, he, if_pos hE0])
            clear hE0 hle he
            go_wp2_with (fail)
            go_ret2
            exact mrg_none HF.out HE6.out
        · obtain rfl : n = j := by omega
          have hJ0 : listE x = 0 := by rw [hJ, List.drop_of_length_le (by rw [HN.out]; exact Nat.le_refl _)]; rfl
          have hF : listsE ls = listsE (ls.drop (k + 1)) := by rw [HD2.out, if_neg (by rw [hJ0]; simp)]
          have HF2 := Lib.hid hF
          have HOQ := Lib.hid (HO.out.below HEQ.out)
          have HXQ := Lib.hid (HX.out.below HE2.out)
          rw [← HN.out] at HXQ
          clear hJ0 hF hJ
          go_wp2_with (at_builtin; refine app_sl_at elNote (c2 := ntC (A ++ x)) rfl _ _ rfl w.heap.size rfl HOQ.out ⟨Sa, Sc⟩ n rfl HXQ.out (ntC_one _) (by have := HLE.out; have := HN6.out; have := HM8.out; omega) HE2.out.size (fun i j hi hj => ntC_left hi) (fun i j hi hj => ntC_right) ?_; intro v' w6 hO6 hg6 _; rw [HN.out, ← List.length_append] at hO6; (have HE6 := Lib.hid (ext_grown HE2.out hg6 (own_ge HOQ.out))); (have HO6 := Lib.hid hO6); clear hO6 hg6 c9)
          go_roundw
          case rel => exact ⟨k + 1, by go_num, by omega, HE6.out, HF2.out, by rw [HF.out, List.length_append, ← HN.out]; have := HLE.out; have := HN6.out; omega, by rw [HF.out]; exact HO6.out⟩
          case measure => simp [intOf]; omega
    · obtain rfl : m = k := by omega
      have hD0 : listsE ls = 0 := by rw [hD, List.drop_of_length_le (by rw [HM.out]; exact Nat.le_refl _)]; rfl
      have hv2 := HV.out
      rw [if_neg (by rw [hD0]; simp)] at hv2
      have HV2 := Lib.hid hv2
      rw [show ls.take m = ls from List.take_of_length_le (by rw [HM.out]; exact Nat.le_refl _)] at HO HLE
      obtain ⟨FL, hFL⟩ : ∃ X, X = ls.flatten := ⟨_, rfl⟩
      rw [← hFL] at HO HLE HV2
      obtain ⟨s1, hv1, hR1⟩ := OwnR.sl HO.out
      subst hv1
      have HST := Lib.hid (standingR_any hR1 (by have := HLE.out; have := HM8.out; omega))
      clear hD0 hv2 hD hFL hR1 HO
      go_wp2_with (fail)
      refine (HST.out).mono ?_
      rintro e w5 ⟨⟨s2, rfl, hN2⟩, hE5⟩
      have HN2 := Lib.hid hN2; have HE5 := Lib.hid (ext_trans HE.out hE5)
      clear hN2 hE5 HST
      obtain ⟨V, hVV⟩ : ∃ V, V = standV FL := ⟨_, rfl⟩
      rw [← hVV] at HN2 HV2 ⊢
      have hl2 := HN2.out.le; have hl3 := HN2.out.max
      obtain ⟨N, hN⟩ : ∃ N, N = V.length := ⟨_, rfl⟩
      rw [← hN] at hl2 HV2 ⊢
      have HNN := Lib.hid hN
      clear hVV hN
      by_cases h60 : 60 < N
      · have h60' : (60 : Int) < (N : Int) := by omega
        have HF : Hid (mergeV ls = ([], 3)) := Lib.hid (by rw [HV2.out, if_pos h60])
        clear h60
        go_wp2_with (fail)
        go_ret2
        exact mrg_none HF.out HE5.out
      · have h60' : ¬ (60 : Int) < (N : Int) := by omega
        have HF : Hid (mergeV ls = (V, 0)) := Lib.hid (by rw [HV2.out, if_neg h60])
        go_wp2_with (fail)
        go_ret2
        exact ⟨⟨s2, by rw [HF.out]; simp only [← HNN.out]; rfl, by rw [HF.out]; exact HN2.out⟩, HE5.out⟩
end Go.Proofs.YtojomdojblgegaaGreatDoor
