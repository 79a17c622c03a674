/-
  ref1.Name.
-/
import Derived.Test.YtkidicfpfknfoaaDoorVNames
namespace Go.Proofs.YtkidicfpfknfoaaDoor.D
theorem ok_false {s : ByteArray} {k : Nat} (h : k < s.size) (hk : nmAt s.data.toList k = false) : okName s = false := by
  unfold okName
  have : anyF (fun i => !nmAt s.data.toList i) s.size = true := by
    cases hx : anyF (fun i => !nmAt s.data.toList i) s.size
    · have hl : s.data.toList.length = s.size := by simp
      rw [← hl] at hx
      have := any_nm.1 hx k (by omega)
      rw [hk] at this; cases this
    · rfl
  rw [this]; simp
theorem ok_true {s : ByteArray} (h1 : inB (s.size : Int) 1 24 = true) (h2 : lowB (s.data.toList.getD 0 0) = true) (h : ∀ k, k < s.size → nmAt s.data.toList k = true) : okName s = true := by
  unfold okName
  have hl : s.data.toList.length = s.size := by simp
  have := (any_nm (l := s.data.toList)).2 (fun k hk => h k (by omega))
  rw [hl] at this
  rw [h1, h2, this]; rfl
end Go.Proofs.YtkidicfpfknfoaaDoor.D
namespace Go.Proofs.YtkidicfpfknfoaaDoor
open Go.RowKit D
set_option linter.unusedVariables false
set_option linter.unusedSimpArgs false
attribute [local go_sem high] run_minI run_maxI
attribute [local go_sem] upon2 cls_cell cls_frozen forall_const exists_eq_left'
attribute [local go_sem] FirstUpon
set_option maxRecDepth 100000 in
set_option maxHeartbeats 2000000 in
theorem nameR_any {s : ByteArray} {w : World} (hs : s.size ≤ maxLen) : Calls Tryd.prog 79 #[.string s] w fun e w' => e = .returned (.bool (okName s)) ∧ w = w' := by
  unfold maxLen at hs
  obtain ⟨v1, hv1⟩ : ∃ v, v = inB (s.size : Int) 1 24 := ⟨_, rfl⟩
  have HO1 : Hid (∀ W, Calls Tryd.prog 92 #[.int .i64 (s.size : Int), .int .i64 1, .int .i64 24] W fun e w' => e = .returned (.bool v1) ∧ W = w') := Lib.hid fun W => by rw [hv1]; exact in1_any _ _ _ W
  obtain ⟨E, hE⟩ : ∃ E, E = okName s := ⟨_, rfl⟩
  rw [← hE]
  have HE := Lib.hid hE
  cases v1
  case false =>
    have hE2 : E = false := by rw [hE]; unfold okName; rw [← hv1]; rfl
    have HE2 := Lib.hid hE2
    clear hE hE2 hv1
    go_enter Tryd.func79, Tryd.ntmps79
    go_wp2_with (fail)
    (with_reducible refine (HO1.out _).mono ?_)
    rintro e w' ⟨rfl, rfl⟩
    go_wp2_with (fail)
    go_ret
    exact ⟨ret_bool HE2.out.symm, rfl⟩
  case true =>
    have hsz := inB_iff.1 hv1.symm
    have hpos : 0 < s.size := by omega
    have HLT := Lib.hid (letter_any s[0])
    obtain ⟨v2, hv2⟩ : ∃ v, v = lowB s[0] := ⟨_, rfl⟩
    rw [← hv2] at HLT
    have h0 : lowB (s.data.toList.getD 0 0) = v2 := by rw [getD_byte hpos, hv2]
    have H0 := Lib.hid h0; have H1 := Lib.hid hv1
    cases v2
    case false =>
      have hE2 : E = false := by rw [hE]; unfold okName; rw [h0]; simp
      have HE2 := Lib.hid hE2
      clear hE hE2 hv1 hv2 h0 hsz
      go_enter Tryd.func79, Tryd.ntmps79
      go_wp2_with (fail)
      (with_reducible refine (HO1.out _).mono ?_)
      rintro e w' ⟨rfl, rfl⟩
      go_wp2_with (fail)
      (with_reducible refine (HLT.out _).mono ?_)
      rintro e w' ⟨rfl, rfl⟩
      go_wp2_with (fail)
      go_ret
      exact ⟨ret_bool HE2.out.symm, rfl⟩
    case true =>
      have hsl : s.size ≤ 24 := by omega
      clear hE hv1 hv2 h0 hsz
      go_enter Tryd.func79, Tryd.ntmps79
      go_wp2_with (fail)
      (with_reducible refine (HO1.out _).mono ?_)
      rintro e w' ⟨rfl, rfl⟩
      go_wp2_with (fail)
      (with_reducible refine (HLT.out _).mono ?_)
      rintro e w' ⟨rfl, rfl⟩
      go_wp2_with (fail)
      go_loop [3] (fun i => ∃ k : Nat, k ≤ s.size ∧ i = .int .i64 k ∧ ∀ i, i < k → nmAt s.data.toList i = true) (fun i => s.size - (intOf i).toNat)
      case atStart => exact ⟨0, Nat.zero_le _, rfl, fun i h => absurd h (Nat.not_lt_zero i)⟩
      case round =>
        obtain ⟨k, hk, rfl, hok⟩ := hrel
        have HOK := Lib.hid hok
        clear hok
        by_cases hlt : k < s.size
        · have HLK := Lib.hid (letter_any s[k])
          obtain ⟨c, hc⟩ : ∃ c, c = s[k] := ⟨_, rfl⟩
          rw [← hc] at HLK
          have hcs : s[k].toNat = c.toNat := by rw [hc]
          have hck : s.data.toList.getD k 0 = c := by rw [getD_byte hlt, hc]
          obtain ⟨n, hn⟩ : ∃ n, n = c.toNat := ⟨_, rfl⟩
          rw [← hn] at hcs HLK
          have hn256 : n < 256 := by rw [hn]; exact UInt8.toNat_lt _
          obtain ⟨v, hv⟩ : ∃ v, v = lowB c := ⟨_, rfl⟩
          rw [← hv] at HLK
          obtain ⟨d, hd⟩ : ∃ d, d = digB c := ⟨_, rfl⟩
          have hd' : d = decide ((48 : Int) ≤ (n : Int) ∧ (n : Int) ≤ 57) := by rw [hd, hn]; rfl
          have w3 : IntKind.i64.wrap ((k : Int) + 1) = (k : Int) + 1 := IntWalk.i64_in _ (by omega)
          have hcase : (v = true ∨ (v = false ∧ d = true)) ∨ (v = false ∧ d = false) := by cases v <;> cases d <;> simp
          rcases hcase with hal | ⟨rfl, rfl⟩
          · have hat : nmAt s.data.toList k = true := by
              unfold nmAt; rw [hck, ← hv, ← hd]
              rcases hal with h | ⟨-, h⟩ <;> rw [h] <;> simp
            have HAT := Lib.hid hat
            clear hat hc hck hn hd
            rcases hal with rfl | ⟨rfl, rfl⟩
            · clear hd' hv
              go_wp2_with (fail)
              (with_reducible refine (HLK.out _).mono ?_)
              rintro e w' ⟨rfl, rfl⟩
              go_wp2_with (fail)
              go_round
              case rel =>
                refine ⟨k + 1, by omega, by go_num, fun i h => ?_⟩
                rcases Nat.lt_or_ge i k with h' | h'
                · exact HOK.out i h'
                · obtain rfl : i = k := by omega
                  exact HAT.out
              case measure => simp [intOf]; omega
            · have hd2 := of_decide_eq_true hd'.symm
              clear hd' hv
              go_wp2_with (fail)
              (with_reducible refine (HLK.out _).mono ?_)
              rintro e w' ⟨rfl, rfl⟩
              go_wp2_with (fail)
              go_round
              case rel =>
                refine ⟨k + 1, by omega, by go_num, fun i h => ?_⟩
                rcases Nat.lt_or_ge i k with h' | h'
                · exact HOK.out i h'
                · obtain rfl : i = k := by omega
                  exact HAT.out
              case measure => simp [intOf]; omega
          · have hd2 := of_decide_eq_false hd'.symm
            have hk0 : 0 < k := by
              rcases Nat.eq_zero_or_pos k with h | h
              · have h00 := H0.out
                subst h; rw [hck, ← hv] at h00; cases h00
              · exact h
            have hk1 : k - 1 < s.size := by omega
            obtain ⟨p, hp⟩ : ∃ p, p = s[k - 1].toNat := ⟨_, rfl⟩
            have hpk : s.data.toList.getD (k - 1) 0 = s[k - 1] := getD_byte hk1
            have hp256 : p < 256 := by rw [hp]; exact UInt8.toNat_lt _
            have hcs2 := hp.symm
            have hat : nmAt s.data.toList k = ((decide (n = 45) && !decide (p = 45)) && decide (k + 1 ≠ s.size)) := by
              unfold nmAt
              rw [hck, ← hv, ← hd, hpk]
              have hl : s.data.toList.length = s.size := by simp
              rw [hl]
              have e1 : (c == 45) = decide (n = 45) := by
                rw [hn, Bool.beq_eq_decide_eq]; congr 1
                exact propext ⟨fun h => by rw [h]; rfl, fun h => UInt8.toNat_inj.1 h⟩
              have e2 : (s[k - 1] != 45) = !decide (p = 45) := by
                rw [hp, bne, Bool.beq_eq_decide_eq]; congr 2
                exact propext ⟨fun h => by rw [h]; rfl, fun h => UInt8.toNat_inj.1 h⟩
              rw [e1, e2]; rfl
            obtain ⟨u, hu⟩ : ∃ u, u = nmAt s.data.toList k := ⟨_, rfl⟩
            rw [← hu] at hat
            have HU := Lib.hid hu
            have pw1 : IntKind.i64.wrap ((k : Int) - 1) = (k : Int) - 1 := IntWalk.i64_in _ (by omega)
            have pw2 : (1 : Int) ≤ (k : Int) := by omega
            have pw3 : ((k : Int) - 1).toNat = k - 1 := by omega
            have HH := Lib.hid hat
            have wl : IntKind.i64.wrap ((s.size : Int) - 1) = (s.size : Int) - 1 := IntWalk.i64_in _ (by omega)
            clear hc hck hn hd hv hd' hp hpk hu
            by_cases h45 : n = 45
            · have h45b : ((n : Int) != 45) = false := by simp; omega
              have H45 := Lib.hid h45
              have h48 : (n : Int) < 48 := by omega
              clear h45 hd2
              by_cases hp45 : p = 45
              · have hpb : ((p : Int) == 45) = true := by simp; omega
                have hE2 : E = false := by rw [HE.out]; exact ok_false hlt (by rw [← HU.out, HH.out]; simp [hp45])
                clear hp45
                have HE2 := Lib.hid hE2
                clear hE2 hat
                go_wp2_with (fail)
                (with_reducible refine (HLK.out _).mono ?_)
                rintro e w' ⟨rfl, rfl⟩
                go_wp2_with (fail)
                go_ret
                exact ⟨ret_bool HE2.out.symm, rfl⟩
              · have hpb : ((p : Int) == 45) = false := by simp; omega
                by_cases hl : k + 1 = s.size
                · have hE2 : E = false := by rw [HE.out]; exact ok_false hlt (by rw [← HU.out, HH.out]; simp [hl])
                  have HE2 := Lib.hid hE2
                  have hlb : ((k : Int) == (s.size : Int) - 1) = true := by simp; omega
                  have HL := Lib.hid hl
                  clear hE2 hat hp45 hl
                  go_wp2_with (fail)
                  (with_reducible refine (HLK.out _).mono ?_)
                  rintro e w' ⟨rfl, rfl⟩
                  go_wp2_with (fail)
                  go_ret
                  exact ⟨ret_bool HE2.out.symm, rfl⟩
                · have HAT : Hid (nmAt s.data.toList k = true) := Lib.hid (by rw [← HU.out, HH.out]; simp [hl, hp45, H45.out])
                  have hlb : ((k : Int) == (s.size : Int) - 1) = false := by simp; omega
                  clear hat hp45 hl
                  go_wp2_with (fail)
                  (with_reducible refine (HLK.out _).mono ?_)
                  rintro e w' ⟨rfl, rfl⟩
                  go_wp2_with (fail)
                  go_round
                  case rel =>
                    refine ⟨k + 1, by omega, by go_num, fun i h => ?_⟩
                    rcases Nat.lt_or_ge i k with h' | h'
                    · exact HOK.out i h'
                    · obtain rfl : i = k := by omega
                      exact HAT.out
                  case measure => simp [intOf]; omega
            · have hE2 : E = false := by rw [HE.out]; exact ok_false hlt (by rw [← HU.out, HH.out]; simp [h45])
              have HE2 := Lib.hid hE2
              have h45b : ((n : Int) != 45) = true := by simp; omega
              have hd3 : (n : Int) < 48 ∨ 57 < (n : Int) := by omega
              clear hE2 hat h45 hd2
              rcases hd3 with hd3 | hd3
              all_goals
                go_wp2_with (fail)
                (with_reducible refine (HLK.out _).mono ?_)
                rintro e w' ⟨rfl, rfl⟩
                go_wp2_with (fail)
                go_ret
                exact ⟨ret_bool HE2.out.symm, rfl⟩
        · obtain rfl : k = s.size := by omega
          have hE2 : E = true := by rw [HE.out]; exact ok_true H1.out.symm H0.out HOK.out
          have HE2 := Lib.hid hE2
          clear hE2
          go_wp2_with (fail)
          go_ret
          exact ⟨ret_bool HE2.out.symm, rfl⟩
end Go.Proofs.YtkidicfpfknfoaaDoor
