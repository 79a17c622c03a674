/-
  law.words: the parts between spaces; law.widths.
-/
import Derived.Test.YtahgbecfaihfpaaDoorTAwM
namespace Go.Proofs.YtahgbecfaihfpaaDoor
open Go.RowKit D
set_option linter.unusedVariables false
set_option linter.unusedSimpArgs false
attribute [local go_sem high] run_minI run_maxI
attribute [local go_sem] upon2 cls_cell cls_frozen forall_const exists_eq_left'
attribute [local go_sem] FirstUpon
theorem cutW_one {p : List UInt8} (h : ∀ c ∈ p, c ≠ 32) : cutW p = [p] := by
  induction p with
  | nil => rfl
  | cons c p ih =>
    rw [cutW, if_neg (h c (by simp)), ih fun c hc => h c (by simp [hc])]
theorem cutW_sp {p r : List UInt8} (h : ∀ c ∈ p, c ≠ 32) : cutW (p ++ 32 :: r) = p :: cutW r := by
  induction p with
  | nil => show cutW (32 :: r) = _; rw [cutW, if_pos rfl]
  | cons c p ih =>
    show cutW (c :: (p ++ 32 :: r)) = _
    rw [cutW, if_neg (h c (by simp)), ih fun c hc => h c (by simp [hc])]
theorem baL_toList (s : ByteArray) : baL s.data.toList = s := by
  unfold baL; cases s; simp
/-- The parts of the text behind a place. -/
def restP (t : ByteArray) (f : Nat) : List ByteArray := (cutW (t.data.toList.drop f)).map baL
theorem ext_baL (t : ByteArray) (f k : Nat) : t.extract f k = baL ((t.data.toList.drop f).take (k - f)) := by
  rw [← baL_toList (t.extract f k)]
  simp only [ByteArray.data_extract, Array.toList_extract, List.extract_eq_take_drop]
theorem restP_sp {t : ByteArray} {f k : Nat} (hfk : f ≤ k) (hk : k < t.size) (hn : ∀ j (hj : j < t.size), f ≤ j → j < k → t[j] ≠ 32) (hs : t[k] = 32) : restP t f = t.extract f k :: restP t (k + 1) := by
  have hl : t.data.toList.length = t.size := Array.length_toList
  have hat : ∀ j (hj : j < t.size), t.data.toList[j]'(by omega) = t[j] := fun j hj => rfl
  have e : t.data.toList.drop f = (t.data.toList.drop f).take (k - f) ++ 32 :: t.data.toList.drop (k + 1) := by
    have h1 : t.data.toList.drop k = 32 :: t.data.toList.drop (k + 1) := by
      rw [List.drop_eq_getElem_cons (by omega), hat k hk, hs]
    rw [← h1]
    have h2 := (List.take_append_drop (k - f) (t.data.toList.drop f)).symm
    rw [List.drop_drop, show f + (k - f) = k by omega] at h2
    exact h2
  unfold restP
  rw [e, cutW_sp, List.map_cons, ← ext_baL]
  intro c hc
  obtain ⟨i, hi, rfl⟩ := List.getElem_of_mem hc
  rw [List.length_take, List.length_drop] at hi
  rw [List.getElem_take, List.getElem_drop, hat (f + i) (by omega)]
  exact hn (f + i) (by omega) (by omega) (by omega)
theorem restP_end {t : ByteArray} {f : Nat} (hn : ∀ j (hj : j < t.size), f ≤ j → t[j] ≠ 32) : restP t f = [t.extract f t.size] := by
  have hl : t.data.toList.length = t.size := Array.length_toList
  have hat : ∀ j (hj : j < t.size), t.data.toList[j]'(by omega) = t[j] := fun j hj => rfl
  unfold restP
  rw [cutW_one]
  · rw [List.map_singleton, ext_baL, List.take_of_length_le (by rw [List.length_drop]; omega)]
  · intro c hc
    obtain ⟨i, hi, rfl⟩ := List.getElem_of_mem hc
    rw [List.length_drop] at hi
    rw [List.getElem_drop, hat (f + i) (by omega)]
    exact hn (f + i) (by omega) (by omega)
theorem elStr1 : Elem Tryd.prog 49 9 (.string ByteArray.empty) 1 16 := ⟨by kernel_rfl, by kernel_rfl, rfl, by omega, by omega⟩
set_option maxRecDepth 100000 in
set_option maxHeartbeats 2000000 in
theorem wordsL_any {t : ByteArray} {w : World} (ht : t.size ≤ 1000) : Calls Tryd.prog 26 #[.string t] w fun e w' => (∃ s' : Sl, e = .returned (.slice s'.a (partsS t).length s'.cap) ∧ StrsS w' s' (partsS t)) ∧ Below w.heap.size w w' := by
  go_enter Tryd.func26, Tryd.ntmps26
  go_wp2_with (fail)
  go_loopw [3, 4, 5] (fun v f i wr => ∃ (k f0 : Nat) (O : List ByteArray), i = .int .i64 (k : Int) ∧ f = .int .i64 (f0 : Int) ∧ f0 ≤ k ∧ k ≤ t.size ∧ O.length ≤ k ∧ partsS t = O ++ restP t f0 ∧ (∀ j (hj : j < t.size), f0 ≤ j → j < k → t[j] ≠ 32) ∧ OwnR wr w.heap.size 9 1 v O.length (strC O) ∧ Below w.heap.size w wr) (fun _ _ i _ => t.size - (intOf i).toNat)
  case atStart => exact ⟨0, 0, [], rfl, rfl, Nat.le_refl _, Nat.zero_le _, Nat.le_refl _, rfl, fun j _ _ h => absurd h (Nat.not_lt_zero j), own_nil _ _ _ _ _, Below.refl _ _⟩
  case round =>
    obtain ⟨k, f, O, rfl, rfl, hfk, hk, hOk, hP, hn, hO, hB⟩ := hrel
    have HO := Lib.hid hO; have HB := Lib.hid hB; have HP := Lib.hid hP; have HN := Lib.hid hn
    have hsz := hB.size
    clear hO hB hP hn
    by_cases hlt : k < t.size
    · go_light
      have r0 : (0 : Int) ≤ (k : Int) := by omega
      have r1 : (k : Int) < (t.size : Int) := by omega
      have w3' : IntKind.i64.wrap ((k : Int) + 1) = (k : Int) + 1 := IntWalk.i64_in _ (by omega)
      obtain ⟨ch, hch⟩ : ∃ ch, ch = (t[k]'hlt).toNat := ⟨_, rfl⟩
      have hch2 := hch.symm
      have hcl : ch < 256 := by rw [hch]; exact UInt8.toNat_lt _
      have HCH := Lib.hid hch
      clear hch
      by_cases h32 : ch = 32
      · subst h32
        have hs : t[k]'hlt = 32 := by
          have := HCH.out
          exact UInt8.toNat_inj.1 (by rw [← this]; rfl)
        have hsp := restP_sp hfk hlt HN.out hs
        have HSP := Lib.hid hsp
        have f0 : (0 : Int) ≤ (f : Int) := by omega
        have f1 : (f : Int) ≤ (k : Int) := by omega
        have f2 : (k : Int) ≤ (t.size : Int) := by omega
        clear hs hsp
        go_wp2_with (at_builtin; refine app_one [.string (t.extract f k)] elStr1 rfl _ _ rfl w.heap.size rfl (HO.out.below (below_alloc' _ _)) wr.heap.size 1 rfl (blk_new _ _) (by simp [Value.oneCell']) (by omega) (by simp; omega) ?_; intro v' w7 hO7 hg7)
        have hB7 : Below w.heap.size w w7 := app_below (HB.out.alloc (by omega) _) (HO.out.below (below_alloc' _ _)) (Nat.le_refl _) (by simp; omega) hg7
        have hO7' : OwnR w7 w.heap.size 9 1 v' (O ++ [t.extract f k]).length (strC (O ++ [t.extract f k])) := by
          rw [List.length_append, List.length_singleton]
          refine hO7.congr fun i j hi hj => ?_
          by_cases hik : i = O.length
          · subst hik
            obtain rfl : j = 0 := by have : j < 1 := hj; omega
            rw [upd_at]; simp [strC, strD]
          · rw [upd_lt (by omega)]
            simp only [strC, strD, List.getD_eq_getElem?_getD]
            rw [List.getElem?_append_left (by omega)]
        have HO7 := Lib.hid hO7'
        clear hO7 hg7 hO7'
        go_roundw
        case rel => exact ⟨k + 1, k + 1, O ++ [t.extract f k], by go_num, by go_num, Nat.le_refl _, hlt, by simp; omega, by rw [HP.out, HSP.out]; simp, fun j _ h1 h2 => by omega, HO7.out, hB7⟩
        case measure => simp [intOf]; omega
      · have hne : ((ch : Int) == 32) = false := by simp; omega
        go_wp2_with (fail)
        go_roundw
        case rel => exact ⟨k + 1, f, O, by go_num, rfl, by omega, hlt, by omega, HP.out, fun j hj h1 h2 => by
          rcases Nat.lt_or_ge j k with h | h
          · exact HN.out j hj h1 h
          · obtain rfl : j = k := by omega
            intro he
            exact h32 (by rw [HCH.out, he]; rfl), HO.out, HB.out⟩
        case measure => simp [intOf]; omega
    · obtain rfl : k = t.size := by omega
      have r1 : ¬ (t.size : Int) < (t.size : Int) := by omega
      have f0 : (0 : Int) ≤ (f : Int) := by omega
      have f2 : (f : Int) ≤ (t.size : Int) := by omega
      have hend := restP_end (t := t) (f := f) fun j hj h1 => HN.out j hj h1 hj
      have HE := Lib.hid hend
      clear hlt hend
      go_wp2_with (at_builtin; refine app_one [.string (t.extract f t.size)] elStr1 rfl _ _ rfl w.heap.size rfl (HO.out.below (below_alloc' _ _)) wr.heap.size 1 rfl (blk_new _ _) (by simp [Value.oneCell']) (by omega) (by simp; omega) ?_; intro v' w7 hO7 hg7)
      have hB7 : Below w.heap.size w w7 := app_below (HB.out.alloc (by omega) _) (HO.out.below (below_alloc' _ _)) (Nat.le_refl _) (by simp; omega) hg7
      have hO7' : OwnR w7 w.heap.size 9 1 v' (O ++ [t.extract f t.size]).length (strC (O ++ [t.extract f t.size])) := by
        rw [List.length_append, List.length_singleton]
        refine hO7.congr fun i j hi hj => ?_
        by_cases hik : i = O.length
        · subst hik
          obtain rfl : j = 0 := by have : j < 1 := hj; omega
          rw [upd_at]; simp [strC, strD]
        · rw [upd_lt (by omega)]
          simp only [strC, strD, List.getD_eq_getElem?_getD]
          rw [List.getElem?_append_left (by omega)]
      have hPE : partsS t = O ++ [t.extract f t.size] := by rw [HP.out, HE.out]
      rw [← hPE] at hO7'
      have hlen : O.length + 1 = (partsS t).length := by rw [hPE]; simp
      obtain ⟨⟨a', cp⟩, hv, hro⟩ := hO7'.sl
      subst hv
      have HRO := Lib.hid hro
      clear hO7 hg7 hO7' hro hPE
      go_wp2_with (fail)
      go_ret
      exact ⟨⟨⟨a', cp⟩, rfl, HRO.out⟩, hB7⟩
end Go.Proofs.YtahgbecfaihfpaaDoor
