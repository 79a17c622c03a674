/-
  film.Name, ref1.Name.
-/
import Derived.Test.YtkidicfpfknfoaaDoorVSplit
import Derived.Test.YtkidicfpfknfoaaDoorVAir
namespace Go.Proofs.YtkidicfpfknfoaaDoor.D
theorem badP_empty {l : List UInt8} (h : l.isEmpty = true) : badP l = true := by unfold badP goodP; rw [h]; rfl
theorem badP_trim {l : List UInt8} (h : l.isEmpty = false) : badP l = !(Lib.trimS l alphabet).isEmpty := by unfold badP goodP; rw [h, trim_al]; rfl
theorem baL_empty (l : List UInt8) : (baL l).toList.isEmpty = l.isEmpty := by
  rw [ByteArray.toList_eq]; simp [baL]
theorem getD_byte {s : ByteArray} {k : Nat} (h : k < s.size) : s.data.toList.getD k 0 = s[k] := by
  rw [List.getD_eq_getElem?_getD]
  have : s.data.toList[k]? = some s[k] := by rw [List.getElem?_eq_getElem (by simpa using h)]; rfl
  rw [this]; rfl
end Go.Proofs.YtkidicfpfknfoaaDoor.D
namespace Go.Proofs.YtkidicfpfknfoaaDoor
open Go.RowKit D
set_option linter.unusedVariables false
set_option linter.unusedSimpArgs false
attribute [local go_sem high] run_minI run_maxI
attribute [local go_sem] upon2 cls_cell cls_frozen forall_const exists_eq_left'
attribute [local go_sem] FirstUpon
theorem fout_any (n lo hi : Int) (w : World) : Calls Tryd.prog 87 #[.int .i64 n, .int .i64 lo, .int .i64 hi] w fun e w' => e = .returned (.bool (outB n lo hi)) ∧ w = w' := by
  by_cases h1 : n < lo
  · go_enter Tryd.func87, Tryd.ntmps87
    go_wp2
    go_ret
    exact ⟨ret_bool (by simp [outB]; omega), rfl⟩
  · go_enter Tryd.func87, Tryd.ntmps87
    go_wp2
    go_ret
    exact ⟨ret_bool (by simp [outB]; omega), rfl⟩
theorem in1_any (n lo hi : Int) (w : World) : Calls Tryd.prog 92 #[.int .i64 n, .int .i64 lo, .int .i64 hi] w fun e w' => e = .returned (.bool (inB n lo hi)) ∧ w = w' := by
  by_cases h1 : lo ≤ n
  · go_enter Tryd.func92, Tryd.ntmps92
    go_wp2
    go_ret
    exact ⟨ret_bool (by simp [inB]; omega), rfl⟩
  · go_enter Tryd.func92, Tryd.ntmps92
    go_wp2
    go_ret
    exact ⟨ret_bool (by simp [inB]; omega), rfl⟩
theorem letter_any (c : UInt8) (w : World) : Calls Tryd.prog 93 #[.int .u8 (c.toNat : Int)] w fun e w' => e = .returned (.bool (lowB c)) ∧ w = w' := by
  obtain ⟨n, hn⟩ : ∃ n, n = c.toNat := ⟨_, rfl⟩
  obtain ⟨v, hv⟩ : ∃ v, v = lowB c := ⟨_, rfl⟩
  have hv' : v = decide ((97 : Int) ≤ (n : Int) ∧ (n : Int) ≤ 122) := by rw [hv, hn]; rfl
  rw [← hn, ← hv]
  have HV := Lib.hid hv'
  clear hv hn hv'
  by_cases h1 : 97 ≤ n
  · go_enter Tryd.func93, Tryd.ntmps93
    go_wp2
    go_ret
    exact ⟨ret_bool (by rw [HV.out]; simp; omega), rfl⟩
  · go_enter Tryd.func93, Tryd.ntmps93
    go_wp2
    go_ret
    exact ⟨ret_bool (by rw [HV.out]; simp; omega), rfl⟩
set_option maxRecDepth 100000 in
set_option maxHeartbeats 2000000 in
theorem part_any (p : ByteArray) (w : World) (hp : p.size ≤ 24) : Calls Tryd.prog 90 #[.string p] w fun e w' => e = .returned (.bool (badP p.data.toList)) ∧ Below w.heap.size w w' := by
  obtain ⟨v, hv⟩ : ∃ v, v = badP p.data.toList := ⟨_, rfl⟩
  rw [← hv]
  have he : p.toList.isEmpty = p.data.toList.isEmpty := by rw [ByteArray.toList_eq]
  cases h : p.data.toList.isEmpty
  case true =>
    rw [h] at he
    have hn : p.toList = [] := List.isEmpty_iff.1 he
    obtain rfl : v = true := by rw [hv, badP_empty h]
    clear hv h
    go_enter Tryd.func90, Tryd.ntmps90
    go_wp2_with (fail)
    go_ret
    exact ⟨rfl, Below.refl _ _⟩
  case false =>
    rw [h] at he
    have HT := Lib.hid (trim_any p w (by omega))
    obtain ⟨t, ht⟩ : ∃ t, t = baL (Lib.trimS p.data.toList alphabet) := ⟨_, rfl⟩
    rw [← ht] at HT
    have h2 : t.toList.isEmpty = !v := by rw [ht, baL_empty, hv, badP_trim h, Bool.not_not]
    have hn : ¬ p.toList = [] := fun h0 => by rw [h0] at he; cases he
    clear hv h ht
    go_enter Tryd.func90, Tryd.ntmps90
    go_wp2_with (fail)
    (with_reducible refine HT.out.mono ?_)
    rintro e w1 ⟨rfl, hb1⟩
    cases v
    case true =>
      have h3 : t.toList.isEmpty = false := h2
      have h4 : ¬ t.toList = [] := fun h0 => by rw [h0] at h3; cases h3
      go_wp2_with (fail)
      go_ret
      exact ⟨rfl, hb1⟩
    case false =>
      have h3 : t.toList.isEmpty = true := h2
      have h4 : t.toList = [] := List.isEmpty_iff.1 h3
      go_wp2_with (fail)
      go_ret
      exact ⟨rfl, hb1⟩
theorem parts_strs {w : World} {b : Nat} {l : List ByteArray} {t : TypeId} (h : w.heap[b]? = some (.cells (l.map Value.string).toArray t (0, 0))) (hl : l.length ≤ 1001) : StrsS w ⟨some ⟨b, 0, none⟩, l.length⟩ l :=
  ⟨Nat.le_refl _, by show l.length ≤ _; omega, fun i j hi hj => ⟨b, 0, rfl, by
    rw [Nat.zero_add, Nat.mul_one, show j = 0 from by omega, Nat.add_zero, cell_blk h]
    simp [strC, strD, List.getD_eq_getElem?_getD, hi]⟩⟩
theorem cut_sizes : ∀ (l : List UInt8) (p : List UInt8), p ∈ cutD l → p.length ≤ l.length
  | [], p, h => by simp [cutD] at h; simp [h]
  | c :: l, p, h => by
    rw [cutD] at h
    split at h
    · rcases List.mem_cons.1 h with rfl | h
      · simp
      · have := cut_sizes l p h; simp; omega
    · cases hc : cutD l with
      | nil => exact absurd hc (cutD_ne l)
      | cons q t =>
        rw [hc] at h
        rcases List.mem_cons.1 h with rfl | h
        · have := cut_sizes l q (by rw [hc]; exact List.mem_cons_self); simp; omega
        · have := cut_sizes l p (by rw [hc]; exact List.mem_cons_of_mem _ h); simp; omega
theorem any_parts (s : ByteArray) : anyF (fun i => badP (strD (partsS s) i).data.toList) (partsS s).length = (cutD s.data.toList).any badP := by
  have key : ∀ L : List (List UInt8), anyF (fun i => badP (strD (L.map baL) i).data.toList) (L.map baL).length = L.any badP := fun L => by
    cases h : L.any badP
    · cases h2 : anyF (fun i => badP (strD (L.map baL) i).data.toList) (L.map baL).length
      · rfl
      · have h3 := of_decide_eq_true h2
        have h4 := (firstN_spec (p := fun i => badP (strD (L.map baL) i).data.toList) (n := (L.map baL).length)).2 h3
        generalize firstN (fun i => badP (strD (L.map baL) i).data.toList) (L.map baL).length = n at h3 h4
        rw [List.length_map] at h3
        have h5 := List.any_eq_false.1 h _ (List.getElem_mem h3)
        refine absurd ?_ h5
        have e : strD (L.map baL) n = baL L[n] := by unfold strD; rw [List.getD_eq_getElem?_getD, List.getElem?_map, List.getElem?_eq_getElem h3]; rfl
        rw [e, data_baL] at h4
        exact h4
    · obtain ⟨p, hp, hb⟩ := List.any_eq_true.1 h
      obtain ⟨i, hi, rfl⟩ := List.getElem_of_mem hp
      have hlt : firstN (fun i => badP (strD (L.map baL) i).data.toList) (L.map baL).length < (L.map baL).length := by
        have hl := firstN_le (fun i => badP (strD (L.map baL) i).data.toList) (L.map baL).length
        rcases Nat.lt_or_ge (firstN (fun i => badP (strD (L.map baL) i).data.toList) (L.map baL).length) (L.map baL).length with h1 | h1
        · exact h1
        · have := (firstN_spec (p := fun i => badP (strD (L.map baL) i).data.toList) (n := (L.map baL).length)).1 i (by simp only [List.length_map] at *; omega)
          simp only [strD, List.getD_eq_getElem?_getD, List.getElem?_map, List.getElem?_eq_getElem hi, Option.map_some, Option.getD_some, data_baL] at this
          rw [hb] at this; cases this
      exact decide_eq_true hlt
  exact key _
theorem part_size {s : ByteArray} {i : Nat} (hi : i < (partsS s).length) : (strD (partsS s) i).size ≤ s.size := by
  unfold strD
  rw [List.getD_eq_getElem?_getD, List.getElem?_eq_getElem hi]
  have hm := List.getElem_mem hi
  obtain ⟨p, hp, he⟩ := List.mem_map.1 hm
  have := cut_sizes _ p hp
  simp only [Option.getD_some]
  rw [← he]
  have e1 : (baL p).size = p.length := by simp [baL, ByteArray.size]
  have e2 : s.size = s.data.toList.length := by simp
  omega
set_option maxRecDepth 100000 in
set_option maxHeartbeats 2000000 in
theorem nameP_any {s : ByteArray} {w : World} (hs : s.size ≤ maxLen) (hm : MaxAt w) : Calls Tryd.prog 75 #[.string s] w fun e w' => e = .returned (.bool (okName s)) ∧ Below w.heap.size w w' := by
  unfold maxLen at hs
  obtain ⟨v1, hv1⟩ : ∃ v, v = outB (s.size : Int) 1 24 := ⟨_, rfl⟩
  have HO1 : Hid (∀ W, Calls Tryd.prog 87 #[.int .i64 (s.size : Int), .int .i64 1, .int .i64 24] W fun e w' => e = .returned (.bool v1) ∧ W = w') := Lib.hid fun W => by rw [hv1]; exact fout_any _ _ _ W
  have h1 : inB (s.size : Int) 1 24 = !v1 := by rw [hv1, outB_in, Bool.not_not]
  obtain ⟨E, hE⟩ : ∃ E, E = okName s := ⟨_, rfl⟩
  rw [← hE]
  unfold okName at hE
  rw [h1] at hE
  have HE := Lib.hid hE
  have HM := Lib.hid hm
  cases v1
  case true =>
    clear hE hv1 h1 hm
    go_enter Tryd.func75, Tryd.ntmps75
    go_wp2_with (fail)
    (with_reducible refine (HO1.out _).mono ?_)
    rintro e w' ⟨rfl, rfl⟩
    go_wp2_with (fail)
    go_ret
    exact ⟨ret_bool (by rw [HE.out]; rfl), Below.refl _ _⟩
  case false =>
    have hsz := inB_iff.1 h1
    have hpos : 0 < s.size := by omega
    obtain ⟨c, hc⟩ : ∃ c, c = s[0] := ⟨_, rfl⟩
    have h0 : s.data.toList.getD 0 0 = c := by rw [getD_byte hpos, hc]
    rw [h0] at hE
    obtain ⟨v2, hv2⟩ : ∃ v, v = outB (c.toNat : Int) 97 122 := ⟨_, rfl⟩
    have h2 : lowB c = !v2 := by rw [hv2, outB_in, Bool.not_not]; rfl
    rw [h2] at hE
    have HO2 : Hid (∀ W, Calls Tryd.prog 87 #[.int .i64 (c.toNat : Int), .int .i64 97, .int .i64 122] W fun e w' => e = .returned (.bool v2) ∧ W = w') := Lib.hid fun W => by rw [hv2]; exact fout_any _ _ _ W
    have hcs : s[0].toNat = c.toNat := by rw [hc]
    have hlt : c.toNat < 256 := UInt8.toNat_lt _
    have hwr : IntKind.i64.wrap (c.toNat : Int) = (c.toNat : Int) := IntWalk.i64_in _ (by omega)
    have HE2 := Lib.hid hE
    cases v2
    case true =>
      clear hE hv1 hv2 h1 h2 hm hc h0 hsz HE
      go_enter Tryd.func75, Tryd.ntmps75
      go_wp2_with (fail)
      (with_reducible refine (HO1.out _).mono ?_)
      rintro e w' ⟨rfl, rfl⟩
      go_wp2_with (fail)
      (with_reducible refine (HO2.out _).mono ?_)
      rintro e w' ⟨rfl, rfl⟩
      go_wp2_with (fail)
      go_ret
      exact ⟨ret_bool (by rw [HE2.out]; rfl), Below.refl _ _⟩
    case false =>
      have hne : s.data.toList ≠ [] := fun h => by
        have h9 : s.data.toList.length = s.size := by simp
        rw [h, List.length_nil] at h9; omega
      have hcut := name_cut hne (by rw [h0]; exact h2)
      have hall := any_parts s
      rw [← hcut] at hall
      have hl : s.data.toList.length = s.size := by simp
      rw [hl] at hall
      rw [← hall] at hE
      have hss : s.size < 4294967281 := by clear hwr; omega
      have HSP := Lib.hid (split_any s hss hm)
      have hpl : (partsS s).length ≤ 25 := by
        rw [parts_len]
        have := List.count_le_length (a := (45 : UInt8)) (l := s.data.toList)
        omega
      obtain ⟨v3, hv3⟩ : ∃ v, v = anyF (fun i => badP (strD (partsS s) i).data.toList) (partsS s).length := ⟨_, rfl⟩
      rw [← hv3] at hE
      have HC : Hid (∀ W, W = w.alloc (.cells ((partsS s).map Value.string).toArray 9) → Calls Tryd.prog 88 #[.slice (some ⟨w.heap.size, 0, none⟩) (partsS s).length (partsS s).length, .func (.func 90) #[] #[]] W fun e w' => e = .returned (.bool v3) ∧ Below W.heap.size W w') := Lib.hid fun W hW => by
        rw [hv3]
        exact contS_any (s := ⟨some ⟨w.heap.size, 0, none⟩, (partsS s).length⟩) (parts_strs (t := 9) (by rw [hW]; exact blk_new _ _) (by omega)) (fun _ _ => rfl) fun i W' hi _ => by
          have := part_size hi
          exact part_any _ _ (by omega)
      have HE3 := Lib.hid hE
      clear hE hv1 hv2 hv3 h1 h2 hm hc h0 hsz HE HE2 hne hcut hall hl hpl
      go_enter Tryd.func75, Tryd.ntmps75
      go_wp2_with (fail)
      (with_reducible refine (HO1.out _).mono ?_)
      rintro e w' ⟨rfl, rfl⟩
      go_wp2_with (fail)
      (with_reducible refine (HO2.out _).mono ?_)
      rintro e w' ⟨rfl, rfl⟩
      go_wp2_with (fail)
      (with_reducible refine HSP.out.mono ?_)
      rintro e w1 ⟨rfl, h1⟩
      have hB1 : Below w.heap.size w w1 := by rw [h1]; exact below_alloc _ _
      have HC1 := Lib.hid (HC.out _ h1)
      clear h1
      go_wp2_with (fail)
      (with_reducible refine HC1.out.mono ?_)
      rintro e w2 ⟨rfl, hb2⟩
      have hB2 := below_trans hB1 hb2
      go_wp2_with (fail)
      go_ret
      exact ⟨ret_bool (by rw [HE3.out]; rfl), hB2⟩
end Go.Proofs.YtkidicfpfknfoaaDoor
