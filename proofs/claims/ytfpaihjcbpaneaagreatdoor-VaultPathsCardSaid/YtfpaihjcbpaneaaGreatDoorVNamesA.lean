/-
  film.Name, ref1.Name.
  ref1.Name.
  Maps by what they hold: MapV w b f says that block b is a map whose element at a key k is f k. Look-up and store by laws; keys of plain kinds and structs of two integers.
  Keys: strings, pairs of glyphs.
  vault.room, the functions within Check; named.
  named, of rooms and of cans.
-/
import Derived.Test.YtfpaihjcbpaneaaGreatDoorVSplit
import Derived.Test.YtfpaihjcbpaneaaGreatDoorVAirA
import Derived.WalkKit
import Derived.WalkLawsBesides
import Derived.MapKept
import Derived.Maps.Own
import Derived.Below
import Derived.Test.YtfpaihjcbpaneaaGreatDoorProg
import Derived.Test.YtfpaihjcbpaneaaGreatDoorVBase
namespace Go.Proofs.YtfpaihjcbpaneaaGreatDoor.D
theorem badP_empty {l : List UInt8} (h : l.isEmpty = true) : badP l = true := by unfold badP goodP; rw [h]; rfl
theorem badP_trim {l : List UInt8} (h : l.isEmpty = false) : badP l = !(Lib.trimS l alphabet).isEmpty := by unfold badP goodP; rw [h, trim_al]; rfl
theorem baL_empty (l : List UInt8) : (baL l).toList.isEmpty = l.isEmpty := by
  rw [ByteArray.toList_eq]; simp [baL]
theorem getD_byte {s : ByteArray} {k : Nat} (h : k < s.size) : s.data.toList.getD k 0 = s[k] := by
  rw [List.getD_eq_getElem?_getD]
  have : s.data.toList[k]? = some s[k] := by rw [List.getElem?_eq_getElem (by simpa using h)]; rfl
  rw [this]; rfl
end Go.Proofs.YtfpaihjcbpaneaaGreatDoor.D
namespace Go.Proofs.YtfpaihjcbpaneaaGreatDoor
open Go.RowKit D
set_option linter.unusedVariables false
set_option linter.unusedSimpArgs false
attribute [local go_sem high] run_minI run_maxI
attribute [local go_sem] upon2 cls_cell cls_frozen forall_const exists_eq_left'
attribute [local go_sem] FirstUpon
theorem fout_any (n lo hi : Int) (w : World) : Calls Tryz.prog 99 #[.int .i64 n, .int .i64 lo, .int .i64 hi] w fun e w' => e = .returned (.bool (outB n lo hi)) ∧ w = w' := by
  by_cases h1 : n < lo
  · go_enter Tryz.func99, Tryz.ntmps99
    go_wp2
    go_ret
    exact ⟨ret_bool (by simp [outB]; omega), rfl⟩
  · go_enter Tryz.func99, Tryz.ntmps99
    go_wp2
    go_ret
    exact ⟨ret_bool (by simp [outB]; omega), rfl⟩
theorem in1_any (n lo hi : Int) (w : World) : Calls Tryz.prog 114 #[.int .i64 n, .int .i64 lo, .int .i64 hi] w fun e w' => e = .returned (.bool (inB n lo hi)) ∧ w = w' := by
  by_cases h1 : lo ≤ n
  · go_enter Tryz.func114, Tryz.ntmps114
    go_wp2
    go_ret
    exact ⟨ret_bool (by simp [inB]; omega), rfl⟩
  · go_enter Tryz.func114, Tryz.ntmps114
    go_wp2
    go_ret
    exact ⟨ret_bool (by simp [inB]; omega), rfl⟩
theorem letter_any (c : UInt8) (w : World) : Calls Tryz.prog 115 #[.int .u8 (c.toNat : Int)] w fun e w' => e = .returned (.bool (lowB c)) ∧ w = w' := by
  obtain ⟨n, hn⟩ : ∃ n, n = c.toNat := ⟨_, rfl⟩
  obtain ⟨v, hv⟩ : ∃ v, v = lowB c := ⟨_, rfl⟩
  have hv' : v = decide ((97 : Int) ≤ (n : Int) ∧ (n : Int) ≤ 122) := by rw [hv, hn]; rfl
  rw [← hn, ← hv]
  have HV := Lib.hid hv'
  clear hv hn hv'
  by_cases h1 : 97 ≤ n
  · go_enter Tryz.func115, Tryz.ntmps115
    go_wp2
    go_ret
    exact ⟨ret_bool (by rw [HV.out]; simp; omega), rfl⟩
  · go_enter Tryz.func115, Tryz.ntmps115
    go_wp2
    go_ret
    exact ⟨ret_bool (by rw [HV.out]; simp; omega), rfl⟩
set_option maxRecDepth 100000 in
set_option maxHeartbeats 2000000 in
theorem part_any (p : ByteArray) (w : World) (hp : p.size ≤ 24) : Calls Tryz.prog 102 #[.string p] w fun e w' => e = .returned (.bool (badP p.data.toList)) ∧ Below w.heap.size w w' := by
  obtain ⟨v, hv⟩ : ∃ v, v = badP p.data.toList := ⟨_, rfl⟩
  rw [← hv]
  have he : p.toList.isEmpty = p.data.toList.isEmpty := by rw [ByteArray.toList_eq]
  cases h : p.data.toList.isEmpty
  case true =>
    rw [h] at he
    have hn : p.toList = [] := List.isEmpty_iff.1 he
    obtain rfl : v = true := by rw [hv, badP_empty h]
    clear hv h
    go_enter Tryz.func102, Tryz.ntmps102
    go_wp2_with (fail)
    go_ret
    exact ⟨rfl, Below.refl _ _⟩
  case false =>
    rw [h] at he
    have HT := Lib.hid (trim_any p w (by omega))
    obtain ⟨t, ht⟩ : ∃ t, t = baL (Lib.trimS p.data.toList alphabet) := ⟨_, rfl⟩
    rw [← ht] at HT
    have h2 : t.toList.isEmpty = !v := by rw [ht, baL_empty, hv, badP_trim h, Bool.not_not]
    have hn : ¬ p.toList = [] := fun h0 => by rw [h0] at he; cases he
    clear hv h ht
    go_enter Tryz.func102, Tryz.ntmps102
    go_wp2_with (fail)
    (with_reducible refine HT.out.mono ?_)
    rintro e w1 ⟨rfl, hb1⟩
    cases v
    case true =>
      have h3 : t.toList.isEmpty = false := h2
      have h4 : ¬ t.toList = [] := fun h0 => by rw [h0] at h3; cases h3
      go_wp2_with (fail)
      go_ret
      exact ⟨rfl, hb1⟩
    case false =>
      have h3 : t.toList.isEmpty = true := h2
      have h4 : t.toList = [] := List.isEmpty_iff.1 h3
      go_wp2_with (fail)
      go_ret
      exact ⟨rfl, hb1⟩
theorem parts_strs {w : World} {b : Nat} {l : List ByteArray} {t : TypeId} (h : w.heap[b]? = some (.cells (l.map Value.string).toArray t (0, 0))) (hl : l.length ≤ 1001) : StrsS w ⟨some ⟨b, 0, none⟩, l.length⟩ l :=
  ⟨Nat.le_refl _, by show l.length ≤ _; omega, fun i j hi hj => ⟨b, 0, rfl, by
    rw [Nat.zero_add, Nat.mul_one, show j = 0 from by omega, Nat.add_zero, cell_blk h]
    simp [strC, strD, List.getD_eq_getElem?_getD, hi]⟩⟩
theorem cut_sizes : ∀ (l : List UInt8) (p : List UInt8), p ∈ cutD l → p.length ≤ l.length
  | [], p, h => by simp [cutD] at h; simp [h]
  | c :: l, p, h => by
    rw [cutD] at h
    split at h
    · rcases List.mem_cons.1 h with rfl | h
      · simp
      · have := cut_sizes l p h; simp; omega
    · cases hc : cutD l with
      | nil => exact absurd hc (cutD_ne l)
      | cons q t =>
        rw [hc] at h
        rcases List.mem_cons.1 h with rfl | h
        · have := cut_sizes l q (by rw [hc]; exact List.mem_cons_self); simp; omega
        · have := cut_sizes l p (by rw [hc]; exact List.mem_cons_of_mem _ h); simp; omega
theorem any_parts (s : ByteArray) : anyF (fun i => badP (strD (partsS s) i).data.toList) (partsS s).length = (cutD s.data.toList).any badP := by
  have key : ∀ L : List (List UInt8), anyF (fun i => badP (strD (L.map baL) i).data.toList) (L.map baL).length = L.any badP := fun L => by
    cases h : L.any badP
    · cases h2 : anyF (fun i => badP (strD (L.map baL) i).data.toList) (L.map baL).length
      · rfl
      · have h3 := of_decide_eq_true h2
        have h4 := (firstN_spec (p := fun i => badP (strD (L.map baL) i).data.toList) (n := (L.map baL).length)).2 h3
        generalize firstN (fun i => badP (strD (L.map baL) i).data.toList) (L.map baL).length = n at h3 h4
        rw [List.length_map] at h3
        have h5 := List.any_eq_false.1 h _ (List.getElem_mem h3)
        refine absurd ?_ h5
        have e : strD (L.map baL) n = baL L[n] := by unfold strD; rw [List.getD_eq_getElem?_getD, List.getElem?_map, List.getElem?_eq_getElem h3]; rfl
        rw [e, data_baL] at h4
        exact h4
    · obtain ⟨p, hp, hb⟩ := List.any_eq_true.1 h
      obtain ⟨i, hi, rfl⟩ := List.getElem_of_mem hp
      have hlt : firstN (fun i => badP (strD (L.map baL) i).data.toList) (L.map baL).length < (L.map baL).length := by
        have hl := firstN_le (fun i => badP (strD (L.map baL) i).data.toList) (L.map baL).length
        rcases Nat.lt_or_ge (firstN (fun i => badP (strD (L.map baL) i).data.toList) (L.map baL).length) (L.map baL).length with h1 | h1
        · exact h1
        · have := (firstN_spec (p := fun i => badP (strD (L.map baL) i).data.toList) (n := (L.map baL).length)).1 i (by simp only [List.length_map] at *; omega)
          simp only [strD, List.getD_eq_getElem?_getD, List.getElem?_map, List.getElem?_eq_getElem hi, Option.map_some, Option.getD_some, data_baL] at this
          rw [hb] at this; cases this
      exact decide_eq_true hlt
  exact key _
theorem part_size {s : ByteArray} {i : Nat} (hi : i < (partsS s).length) : (strD (partsS s) i).size ≤ s.size := by
  unfold strD
  rw [List.getD_eq_getElem?_getD, List.getElem?_eq_getElem hi]
  have hm := List.getElem_mem hi
  obtain ⟨p, hp, he⟩ := List.mem_map.1 hm
  have := cut_sizes _ p hp
  simp only [Option.getD_some]
  rw [← he]
  have e1 : (baL p).size = p.length := by simp [baL, ByteArray.size]
  have e2 : s.size = s.data.toList.length := by simp
  omega
set_option maxRecDepth 100000 in
set_option maxHeartbeats 2000000 in
theorem nameP_any {s : ByteArray} {w : World} (hs : s.size ≤ maxLen) (hm : MaxAt w) : Calls Tryz.prog 93 #[.string s] w fun e w' => e = .returned (.bool (okName s)) ∧ Below w.heap.size w w' := by
  unfold maxLen at hs
  obtain ⟨v1, hv1⟩ : ∃ v, v = outB (s.size : Int) 1 24 := ⟨_, rfl⟩
  have HO1 : Hid (∀ W, Calls Tryz.prog 99 #[.int .i64 (s.size : Int), .int .i64 1, .int .i64 24] W fun e w' => e = .returned (.bool v1) ∧ W = w') := Lib.hid fun W => by rw [hv1]; exact fout_any _ _ _ W
  have h1 : inB (s.size : Int) 1 24 = !v1 := by rw [hv1, outB_in, Bool.not_not]
  obtain ⟨E, hE⟩ : ∃ E, E = okName s := ⟨_, rfl⟩
  rw [← hE]
  unfold okName at hE
  rw [h1] at hE
  have HE := Lib.hid hE
  have HM := Lib.hid hm
  cases v1
  case true =>
    clear hE hv1 h1 hm
    go_enter Tryz.func93, Tryz.ntmps93
    go_wp2_with (fail)
    (with_reducible refine (HO1.out _).mono ?_)
    rintro e w' ⟨rfl, rfl⟩
    go_wp2_with (fail)
    go_ret
    exact ⟨ret_bool (by rw [HE.out]; rfl), Below.refl _ _⟩
  case false =>
    have hsz := inB_iff.1 h1
    have hpos : 0 < s.size := by omega
    obtain ⟨c, hc⟩ : ∃ c, c = s[0] := ⟨_, rfl⟩
    have h0 : s.data.toList.getD 0 0 = c := by rw [getD_byte hpos, hc]
    rw [h0] at hE
    obtain ⟨v2, hv2⟩ : ∃ v, v = outB (c.toNat : Int) 97 122 := ⟨_, rfl⟩
    have h2 : lowB c = !v2 := by rw [hv2, outB_in, Bool.not_not]; rfl
    rw [h2] at hE
    have HO2 : Hid (∀ W, Calls Tryz.prog 99 #[.int .i64 (c.toNat : Int), .int .i64 97, .int .i64 122] W fun e w' => e = .returned (.bool v2) ∧ W = w') := Lib.hid fun W => by rw [hv2]; exact fout_any _ _ _ W
    have hcs : s[0].toNat = c.toNat := by rw [hc]
    have hlt : c.toNat < 256 := UInt8.toNat_lt _
    have hwr : IntKind.i64.wrap (c.toNat : Int) = (c.toNat : Int) := IntWalk.i64_in _ (by omega)
    have HE2 := Lib.hid hE
    cases v2
    case true =>
      clear hE hv1 hv2 h1 h2 hm hc h0 hsz HE
      go_enter Tryz.func93, Tryz.ntmps93
      go_wp2_with (fail)
      (with_reducible refine (HO1.out _).mono ?_)
      rintro e w' ⟨rfl, rfl⟩
      go_wp2_with (fail)
      (with_reducible refine (HO2.out _).mono ?_)
      rintro e w' ⟨rfl, rfl⟩
      go_wp2_with (fail)
      go_ret
      exact ⟨ret_bool (by rw [HE2.out]; rfl), Below.refl _ _⟩
    case false =>
      have hne : s.data.toList ≠ [] := fun h => by
        have h9 : s.data.toList.length = s.size := by simp
        rw [h, List.length_nil] at h9; omega
      have hcut := name_cut hne (by rw [h0]; exact h2)
      have hall := any_parts s
      rw [← hcut] at hall
      have hl : s.data.toList.length = s.size := by simp
      rw [hl] at hall
      rw [← hall] at hE
      have hss : s.size < 4294967281 := by clear hwr; omega
      have HSP := Lib.hid (split_any s hss hm)
      have hpl : (partsS s).length ≤ 25 := by
        rw [parts_len]
        have := List.count_le_length (a := (45 : UInt8)) (l := s.data.toList)
        omega
      obtain ⟨v3, hv3⟩ : ∃ v, v = anyF (fun i => badP (strD (partsS s) i).data.toList) (partsS s).length := ⟨_, rfl⟩
      rw [← hv3] at hE
      have HC : Hid (∀ W, W = w.alloc (.cells ((partsS s).map Value.string).toArray 9) → Calls Tryz.prog 100 #[.slice (some ⟨w.heap.size, 0, none⟩) (partsS s).length (partsS s).length, .func (.func 102) #[] #[]] W fun e w' => e = .returned (.bool v3) ∧ Below W.heap.size W w') := Lib.hid fun W hW => by
        rw [hv3]
        exact contS_any (s := ⟨some ⟨w.heap.size, 0, none⟩, (partsS s).length⟩) (parts_strs (t := 9) (by rw [hW]; exact blk_new _ _) (by omega)) (fun _ _ => rfl) fun i W' hi _ => by
          have := part_size hi
          exact part_any _ _ (by omega)
      have HE3 := Lib.hid hE
      clear hE hv1 hv2 hv3 h1 h2 hm hc h0 hsz HE HE2 hne hcut hall hl hpl
      go_enter Tryz.func93, Tryz.ntmps93
      go_wp2_with (fail)
      (with_reducible refine (HO1.out _).mono ?_)
      rintro e w' ⟨rfl, rfl⟩
      go_wp2_with (fail)
      (with_reducible refine (HO2.out _).mono ?_)
      rintro e w' ⟨rfl, rfl⟩
      go_wp2_with (fail)
      (with_reducible refine HSP.out.mono ?_)
      rintro e w1 ⟨rfl, h1⟩
      have hB1 : Below w.heap.size w w1 := by rw [h1]; exact below_alloc _ _
      have HC1 := Lib.hid (HC.out _ h1)
      clear h1
      go_wp2_with (fail)
      (with_reducible refine HC1.out.mono ?_)
      rintro e w2 ⟨rfl, hb2⟩
      have hB2 := below_trans hB1 hb2
      go_wp2_with (fail)
      go_ret
      exact ⟨ret_bool (by rw [HE3.out]; rfl), hB2⟩
end Go.Proofs.YtfpaihjcbpaneaaGreatDoor
namespace Go.Proofs.YtfpaihjcbpaneaaGreatDoor.D
theorem ok_false {s : ByteArray} {k : Nat} (h : k < s.size) (hk : nmAt s.data.toList k = false) : okName s = false := by
  unfold okName
  have : anyF (fun i => !nmAt s.data.toList i) s.size = true := by
    cases hx : anyF (fun i => !nmAt s.data.toList i) s.size
    · have hl : s.data.toList.length = s.size := by simp
      rw [← hl] at hx
      have := any_nm.1 hx k (by omega)
      rw [hk] at this; cases this
    · rfl
  rw [this]; simp
theorem ok_true {s : ByteArray} (h1 : inB (s.size : Int) 1 24 = true) (h2 : lowB (s.data.toList.getD 0 0) = true) (h : ∀ k, k < s.size → nmAt s.data.toList k = true) : okName s = true := by
  unfold okName
  have hl : s.data.toList.length = s.size := by simp
  have := (any_nm (l := s.data.toList)).2 (fun k hk => h k (by omega))
  rw [hl] at this
  rw [h1, h2, this]; rfl
end Go.Proofs.YtfpaihjcbpaneaaGreatDoor.D
namespace Go.Proofs.YtfpaihjcbpaneaaGreatDoor
open Go.RowKit D
set_option linter.unusedVariables false
set_option linter.unusedSimpArgs false
attribute [local go_sem high] run_minI run_maxI
attribute [local go_sem] upon2 cls_cell cls_frozen forall_const exists_eq_left'
attribute [local go_sem] FirstUpon
set_option maxRecDepth 100000 in
set_option maxHeartbeats 2000000 in
theorem nameR_any {s : ByteArray} {w : World} (hs : s.size ≤ maxLen) : Calls Tryz.prog 104 #[.string s] w fun e w' => e = .returned (.bool (okName s)) ∧ w = w' := by
  unfold maxLen at hs
  obtain ⟨v1, hv1⟩ : ∃ v, v = inB (s.size : Int) 1 24 := ⟨_, rfl⟩
  have HO1 : Hid (∀ W, Calls Tryz.prog 114 #[.int .i64 (s.size : Int), .int .i64 1, .int .i64 24] W fun e w' => e = .returned (.bool v1) ∧ W = w') := Lib.hid fun W => by rw [hv1]; exact in1_any _ _ _ W
  obtain ⟨E, hE⟩ : ∃ E, E = okName s := ⟨_, rfl⟩
  rw [← hE]
  have HE := Lib.hid hE
  cases v1
  case false =>
    have hE2 : E = false := by rw [hE]; unfold okName; rw [← hv1]; rfl
    have HE2 := Lib.hid hE2
    clear hE hE2 hv1
    go_enter Tryz.func104, Tryz.ntmps104
    go_wp2_with (fail)
    (with_reducible refine (HO1.out _).mono ?_)
    rintro e w' ⟨rfl, rfl⟩
    go_wp2_with (fail)
    go_ret
    exact ⟨ret_bool HE2.out.symm, rfl⟩
  case true =>
    have hsz := inB_iff.1 hv1.symm
    have hpos : 0 < s.size := by omega
    have HLT := Lib.hid (letter_any s[0])
    obtain ⟨v2, hv2⟩ : ∃ v, v = lowB s[0] := ⟨_, rfl⟩
    rw [← hv2] at HLT
    have h0 : lowB (s.data.toList.getD 0 0) = v2 := by rw [getD_byte hpos, hv2]
    have H0 := Lib.hid h0; have H1 := Lib.hid hv1
    cases v2
    case false =>
      have hE2 : E = false := by rw [hE]; unfold okName; rw [h0]; simp
      have HE2 := Lib.hid hE2
      clear hE hE2 hv1 hv2 h0 hsz
      go_enter Tryz.func104, Tryz.ntmps104
      go_wp2_with (fail)
      (with_reducible refine (HO1.out _).mono ?_)
      rintro e w' ⟨rfl, rfl⟩
      go_wp2_with (fail)
      (with_reducible refine (HLT.out _).mono ?_)
      rintro e w' ⟨rfl, rfl⟩
      go_wp2_with (fail)
      go_ret
      exact ⟨ret_bool HE2.out.symm, rfl⟩
    case true =>
      have hsl : s.size ≤ 24 := by omega
      clear hE hv1 hv2 h0 hsz
      go_enter Tryz.func104, Tryz.ntmps104
      go_wp2_with (fail)
      (with_reducible refine (HO1.out _).mono ?_)
      rintro e w' ⟨rfl, rfl⟩
      go_wp2_with (fail)
      (with_reducible refine (HLT.out _).mono ?_)
      rintro e w' ⟨rfl, rfl⟩
      go_wp2_with (fail)
      go_loop [3] (fun i => ∃ k : Nat, k ≤ s.size ∧ i = .int .i64 k ∧ ∀ i, i < k → nmAt s.data.toList i = true) (fun i => s.size - (intOf i).toNat)
      case atStart => exact ⟨0, Nat.zero_le _, rfl, fun i h => absurd h (Nat.not_lt_zero i)⟩
      case round =>
        obtain ⟨k, hk, rfl, hok⟩ := hrel
        have HOK := Lib.hid hok
        clear hok
        by_cases hlt : k < s.size
        · have HLK := Lib.hid (letter_any s[k])
          obtain ⟨c, hc⟩ : ∃ c, c = s[k] := ⟨_, rfl⟩
          rw [← hc] at HLK
          have hcs : s[k].toNat = c.toNat := by rw [hc]
          have hck : s.data.toList.getD k 0 = c := by rw [getD_byte hlt, hc]
          obtain ⟨n, hn⟩ : ∃ n, n = c.toNat := ⟨_, rfl⟩
          rw [← hn] at hcs HLK
          have hn256 : n < 256 := by rw [hn]; exact UInt8.toNat_lt _
          obtain ⟨v, hv⟩ : ∃ v, v = lowB c := ⟨_, rfl⟩
          rw [← hv] at HLK
          obtain ⟨d, hd⟩ : ∃ d, d = digB c := ⟨_, rfl⟩
          have hd' : d = decide ((48 : Int) ≤ (n : Int) ∧ (n : Int) ≤ 57) := by rw [hd, hn]; rfl
          have w3 : IntKind.i64.wrap ((k : Int) + 1) = (k : Int) + 1 := IntWalk.i64_in _ (by omega)
          have hcase : (v = true ∨ (v = false ∧ d = true)) ∨ (v = false ∧ d = false) := by cases v <;> cases d <;> simp
          rcases hcase with hal | ⟨rfl, rfl⟩
          · have hat : nmAt s.data.toList k = true := by
              unfold nmAt; rw [hck, ← hv, ← hd]
              rcases hal with h | ⟨-, h⟩ <;> rw [h] <;> simp
            have HAT := Lib.hid hat
            clear hat hc hck hn hd
            rcases hal with rfl | ⟨rfl, rfl⟩
            · clear hd' hv
              go_wp2_with (fail)
              (with_reducible refine (HLK.out _).mono ?_)
              rintro e w' ⟨rfl, rfl⟩
              go_wp2_with (fail)
              go_round
              case rel =>
                refine ⟨k + 1, by omega, by go_num, fun i h => ?_⟩
                rcases Nat.lt_or_ge i k with h' | h'
                · exact HOK.out i h'
                · obtain rfl : i = k := by omega
                  exact HAT.out
              case measure => simp [intOf]; omega
            · have hd2 := of_decide_eq_true hd'.symm
              clear hd' hv
              go_wp2_with (fail)
              (with_reducible refine (HLK.out _).mono ?_)
              rintro e w' ⟨rfl, rfl⟩
              go_wp2_with (fail)
              go_round
              case rel =>
                refine ⟨k + 1, by omega, by go_num, fun i h => ?_⟩
                rcases Nat.lt_or_ge i k with h' | h'
                · exact HOK.out i h'
                · obtain rfl : i = k := by omega
                  exact HAT.out
              case measure => simp [intOf]; omega
          · have hd2 := of_decide_eq_false hd'.symm
            have hk0 : 0 < k := by
              rcases Nat.eq_zero_or_pos k with h | h
              · have h00 := H0.out
                subst h; rw [hck, ← hv] at h00; cases h00
              · exact h
            have hk1 : k - 1 < s.size := by omega
            obtain ⟨p, hp⟩ : ∃ p, p = s[k - 1].toNat := ⟨_, rfl⟩
            have hpk : s.data.toList.getD (k - 1) 0 = s[k - 1] := getD_byte hk1
            have hp256 : p < 256 := by rw [hp]; exact UInt8.toNat_lt _
            have hcs2 := hp.symm
            have hat : nmAt s.data.toList k = ((decide (n = 45) && !decide (p = 45)) && decide (k + 1 ≠ s.size)) := by
              unfold nmAt
              rw [hck, ← hv, ← hd, hpk]
              have hl : s.data.toList.length = s.size := by simp
              rw [hl]
              have e1 : (c == 45) = decide (n = 45) := by
                rw [hn, Bool.beq_eq_decide_eq]; congr 1
                exact propext ⟨fun h => by rw [h]; rfl, fun h => UInt8.toNat_inj.1 h⟩
              have e2 : (s[k - 1] != 45) = !decide (p = 45) := by
                rw [hp, bne, Bool.beq_eq_decide_eq]; congr 2
                exact propext ⟨fun h => by rw [h]; rfl, fun h => UInt8.toNat_inj.1 h⟩
              rw [e1, e2]; rfl
            obtain ⟨u, hu⟩ : ∃ u, u = nmAt s.data.toList k := ⟨_, rfl⟩
            rw [← hu] at hat
            have HU := Lib.hid hu
            have pw1 : IntKind.i64.wrap ((k : Int) - 1) = (k : Int) - 1 := IntWalk.i64_in _ (by omega)
            have pw2 : (1 : Int) ≤ (k : Int) := by omega
            have pw3 : ((k : Int) - 1).toNat = k - 1 := by omega
            have HH := Lib.hid hat
            have wl : IntKind.i64.wrap ((s.size : Int) - 1) = (s.size : Int) - 1 := IntWalk.i64_in _ (by omega)
            clear hc hck hn hd hv hd' hp hpk hu
            by_cases h45 : n = 45
            · have h45b : ((n : Int) != 45) = false := by simp; omega
              have H45 := Lib.hid h45
              have h48 : (n : Int) < 48 := by omega
              clear h45 hd2
              by_cases hp45 : p = 45
              · have hpb : ((p : Int) == 45) = true := by simp; omega
                have hE2 : E = false := by rw [HE.out]; exact ok_false hlt (by rw [← HU.out, HH.out]; simp [hp45])
                clear hp45
                have HE2 := Lib.hid hE2
                clear hE2 hat
                go_wp2_with (fail)
                (with_reducible refine (HLK.out _).mono ?_)
                rintro e w' ⟨rfl, rfl⟩
                go_wp2_with (fail)
                go_ret
                exact ⟨ret_bool HE2.out.symm, rfl⟩
              · have hpb : ((p : Int) == 45) = false := by simp; omega
                by_cases hl : k + 1 = s.size
                · have hE2 : E = false := by rw [HE.out]; exact ok_false hlt (by rw [← HU.out, HH.out]; simp [hl])
                  have HE2 := Lib.hid hE2
                  have hlb : ((k : Int) == (s.size : Int) - 1) = true := by simp; omega
                  have HL := Lib.hid hl
                  clear hE2 hat hp45 hl
                  go_wp2_with (fail)
                  (with_reducible refine (HLK.out _).mono ?_)
                  rintro e w' ⟨rfl, rfl⟩
                  go_wp2_with (fail)
                  go_ret
                  exact ⟨ret_bool HE2.out.symm, rfl⟩
                · have HAT : Hid (nmAt s.data.toList k = true) := Lib.hid (by rw [← HU.out, HH.out]; simp [hl, hp45, H45.out])
                  have hlb : ((k : Int) == (s.size : Int) - 1) = false := by simp; omega
                  clear hat hp45 hl
                  go_wp2_with (fail)
                  (with_reducible refine (HLK.out _).mono ?_)
                  rintro e w' ⟨rfl, rfl⟩
                  go_wp2_with (fail)
                  go_round
                  case rel =>
                    refine ⟨k + 1, by omega, by go_num, fun i h => ?_⟩
                    rcases Nat.lt_or_ge i k with h' | h'
                    · exact HOK.out i h'
                    · obtain rfl : i = k := by omega
                      exact HAT.out
                  case measure => simp [intOf]; omega
            · have hE2 : E = false := by rw [HE.out]; exact ok_false hlt (by rw [← HU.out, HH.out]; simp [h45])
              have HE2 := Lib.hid hE2
              have h45b : ((n : Int) != 45) = true := by simp; omega
              have hd3 : (n : Int) < 48 ∨ 57 < (n : Int) := by omega
              clear hE2 hat h45 hd2
              rcases hd3 with hd3 | hd3
              all_goals
                go_wp2_with (fail)
                (with_reducible refine (HLK.out _).mono ?_)
                rintro e w' ⟨rfl, rfl⟩
                go_wp2_with (fail)
                go_ret
                exact ⟨ret_bool HE2.out.symm, rfl⟩
        · obtain rfl : k = s.size := by omega
          have hE2 : E = true := by rw [HE.out]; exact ok_true H1.out.symm H0.out HOK.out
          have HE2 := Lib.hid hE2
          clear hE2
          go_wp2_with (fail)
          go_ret
          exact ⟨ret_bool HE2.out.symm, rfl⟩
end Go.Proofs.YtfpaihjcbpaneaaGreatDoor
namespace Go.Proofs.YtfpaihjcbpaneaaGreatDoor
open Go.MapKept Go.RowKit
set_option linter.unusedVariables false
set_option linter.unusedSimpArgs false
/-- A type of keys that are told apart by what they are. -/
structure KeyT (P : Program) (kt : TypeId) (K : Value → Prop) : Prop where
  check : ∀ e k (w : World), K k → (Instr.checkKey e 10000 kt k).run P w = .ok () w
  find : ∀ k (es : List MapEntry) (w : World), K k → (∀ x ∈ es, K x.key) → ∃ r, (Instr.findKey kt k es).run P w = .ok r w ∧ ((r = none ∧ ∀ x ∈ es, x.key ≠ k) ∨ ∃ (j : Nat) (e : MapEntry), r = some (j, e.val) ∧ es[j]? = some e ∧ e.key = k)
  stays : ∀ k (w : World), K k → (Instr.keyThatStays k k).run P w = .ok k w
theorem keyT_plain {P : Program} {kt : TypeId} {d : TypeDesc} (hd : P.underlying kt = some d) : KeyT P kt (IsKey d) where
  check e k w hk := run_checkKey hd hk e 9999
  find k es w hk hes := by
    rcases findNow_spec hk es 0 hes with ⟨h1, h2⟩ | ⟨j, e, h1, h2, h3⟩
    · exact ⟨none, run_findKey hd h1, .inl ⟨rfl, h2⟩⟩
    · exact ⟨some (0 + j, e.val), run_findKey hd h1, .inr ⟨j, e, by rw [Nat.zero_add], h2, h3⟩⟩
  stays k w hk := run_keyThatStays hk
/-- Block b is a map: at a key k it has f k. -/
structure MapV (K : Value → Prop) (w : World) (b : Nat) (f : Value → Option Value) : Prop where
  at_ : ∃ (es : Array MapEntry) (clock : Nat), w.heap[b]? = some (.map es clock) ∧ (∀ x ∈ es.toList, K x.key) ∧ (∀ (i j : Nat) (x y : MapEntry), es[i]? = some x → es[j]? = some y → x.key = y.key → i = j) ∧ ∀ k v, K k → (f k = some v ↔ ∃ x ∈ es.toList, x.key = k ∧ x.val = v)
theorem MapV.lt {K : Value → Prop} {w : World} {b : Nat} {f : Value → Option Value} (h : MapV K w b f) : b < w.heap.size := by
  obtain ⟨es, c, hb, _⟩ := h.at_
  exact (Array.getElem?_eq_some_iff.1 hb).1
theorem MapV.kept {K : Value → Prop} {w w' : World} {b : Nat} {f : Value → Option Value} (h : MapV K w b f) (hb : w'.heap[b]? = w.heap[b]?) : MapV K w' b f := by
  obtain ⟨es, c, h1, h2⟩ := h.at_
  exact ⟨es, c, hb.trans h1, h2⟩
theorem MapV.congr {K : Value → Prop} {w : World} {b : Nat} {f g : Value → Option Value} (h : MapV K w b f) (hg : ∀ k, K k → g k = f k) : MapV K w b g := by
  obtain ⟨es, c, h1, h2, h3, h4⟩ := h.at_
  exact ⟨es, c, h1, h2, h3, fun k v hk => by rw [hg k hk]; exact h4 k v hk⟩
theorem MapV.made (K : Value → Prop) {w : World} {b : Nat} {c : Nat} (h : w.heap[b]? = some (.map #[] c)) : MapV K w b (fun _ => none) :=
  ⟨#[], c, h, by simp, by simp, fun k v _ => by simp⟩
theorem MapV.lookup {P : Program} {t kt et : TypeId} {K : Value → Prop} {w : World} {b : Nat} {f : Value → Option Value} {z : Value} (h : MapV K w b f) (hK : KeyT P kt K) (ht : P.underlying t = some (.map kt et)) (hz : (zeroValue et).run P w = .ok z w) {k : Value} (hk : K k) (ok : Bool) :
    (Instr.lookup t (.map (some b)) k ok).run P w = .ok (if ok then .tuple #[(f k).getD z, .bool (f k).isSome] else (f k).getD z) w := by
  obtain ⟨es, c, h1, h2, h3, h4⟩ := h.at_
  obtain ⟨r, hr, hcase⟩ := hK.find k es.toList w hk h2
  have hf : match r with | none => f k = none | some q => f k = some q.2 := by
    rcases hcase with ⟨rfl, hn⟩ | ⟨j, e, rfl, hj, he⟩
    · show f k = none
      cases hfk : f k with
      | none => rfl
      | some v =>
        obtain ⟨x, hx, hxk, _⟩ := (h4 k v hk).1 hfk
        exact absurd hxk (hn x hx)
    · show f k = some e.val
      exact (h4 k e.val hk).2 ⟨e, List.mem_of_getElem? hj, he, rfl⟩
  unfold Instr.lookup
  simp only [Sem.run_bind, run_underlying ht, Result.andThen, MapKept.run_getObj_map h1, Sem.run_pure, hK.check _ _ _ hk, hr]
  cases r with
  | none =>
    simp only at hf
    simp only [Sem.run_bind, hz, Result.andThen, Sem.run_pure, hf]
    cases ok <;> rfl
  | some q =>
    simp only at hf
    simp only [Sem.run_pure, Result.andThen, hf]
    cases ok <;> rfl
theorem lookup_nil {P : Program} {t kt et : TypeId} {K : Value → Prop} {w : World} {z : Value} (hK : KeyT P kt K) (ht : P.underlying t = some (.map kt et)) (hz : (zeroValue et).run P w = .ok z w) {k : Value} (hk : K k) (ok : Bool) :
    (Instr.lookup t (.map none) k ok).run P w = .ok (if ok then .tuple #[z, .bool false] else z) w := by
  obtain ⟨r, hr, hcase⟩ := hK.find k [] w hk (by simp)
  have : r = none := by
    rcases hcase with ⟨h, _⟩ | ⟨j, e, _, hj, _⟩
    · exact h
    · simp at hj
  subst this
  unfold Instr.lookup
  simp only [Sem.run_bind, run_underlying ht, Result.andThen, Sem.run_pure, hK.check _ _ _ hk, hr, hz]
open Classical in
/-- What a store makes of what a map holds. -/
noncomputable def updM (f : Value → Option Value) (k v : Value) : Value → Option Value := fun x => if x = k then some v else f x
theorem updM_same (f : Value → Option Value) (k v : Value) : updM f k v k = some v := if_pos rfl
theorem updM_other {f : Value → Option Value} {k v x : Value} (h : x ≠ k) : updM f k v x = f x := if_neg h
theorem MapV.store {P : Program} {t kt et : TypeId} {K : Value → Prop} {w : World} {b : Nat} {f : Value → Option Value} (h : MapV K w b f) (hK : KeyT P kt K) (ht : P.underlying t = some (.map kt et)) {k : Value} (hk : K k) (v : Value) :
    ∃ o, (Instr.mapUpdate t (.map (some b)) k v).run P w = .ok () { w with heap := w.heap.setIfInBounds b o } ∧ MapV K { w with heap := w.heap.setIfInBounds b o } b (updM f k v) := by
  have hlt := h.lt
  obtain ⟨es, c, h1, h2, h3, h4⟩ := h.at_
  obtain ⟨r, hr, hcase⟩ := hK.find k es.toList w hk h2
  have hset : ∀ o : Obj, ({ w with heap := w.heap.setIfInBounds b o } : World).heap[b]? = some o := fun o => by simp [hlt]
  rcases hcase with ⟨rfl, hn⟩ | ⟨j, e, rfl, hj, he⟩
  · refine ⟨.map (es.push { key := k, val := v, born := c }) (c + 1), ?_, ⟨_, _, hset _, ?_, ?_, ?_⟩⟩
    · unfold Instr.mapUpdate
      simp only [Sem.run_bind, run_underlying ht, Result.andThen, MapKept.run_getObj_map h1, hK.check _ _ _ hk, hr]
      exact MapKept.run_setObj_map _ h1
    · intro x hx
      simp only [Array.toList_push, List.mem_append, List.mem_singleton] at hx
      rcases hx with hx | rfl
      · exact h2 x hx
      · exact hk
    · intro i j x y hi hj hxy
      rw [Array.getElem?_push] at hi hj
      split at hi <;> split at hj
      · omega
      · rename_i e1 e2
        have hx : x.key = k := by simp only [Option.some.injEq] at hi; rw [← hi]
        exact absurd (hxy.symm.trans hx) (hn y (by have := Array.mem_of_getElem? hj; simpa using this))
      · rename_i e1 e2
        have hy : y.key = k := by simp only [Option.some.injEq] at hj; rw [← hj]
        exact absurd (hxy.trans hy) (hn x (by have := Array.mem_of_getElem? hi; simpa using this))
      · exact h3 i j x y hi hj hxy
    · intro k' v' hk'
      by_cases hkk : k' = k
      · subst hkk
        rw [updM_same]
        constructor
        · intro hv
          exact ⟨_, by simp only [Array.toList_push, List.mem_append, List.mem_singleton]; exact .inr rfl, rfl, by simpa using hv⟩
        · rintro ⟨x, hx, hxk, rfl⟩
          simp only [Array.toList_push, List.mem_append, List.mem_singleton] at hx
          rcases hx with hx | rfl
          · exact absurd hxk (hn x hx)
          · rfl
      · rw [updM_other hkk, h4 k' v' hk']
        constructor
        · rintro ⟨x, hx, h5⟩
          exact ⟨x, by simp only [Array.toList_push, List.mem_append]; exact .inl hx, h5⟩
        · rintro ⟨x, hx, hxk, hxv⟩
          simp only [Array.toList_push, List.mem_append, List.mem_singleton] at hx
          rcases hx with hx | rfl
          · exact ⟨x, hx, hxk, hxv⟩
          · exact absurd hxk.symm hkk
  · have hj' : es[j]? = some e := by simpa using hj
    have hjlt : j < es.size := (Array.getElem?_eq_some_iff.1 hj').1
    have hmod : ∀ i, (es.modify j fun e => { e with key := k, val := v })[i]? = if i = j then some { e with key := k, val := v } else es[i]? := fun i => by
      rw [Array.getElem?_modify]
      by_cases hij : i = j
      · subst hij; simp [hj']
      · rw [if_neg (fun h => hij h.symm), if_neg hij]
    refine ⟨.map (es.modify j fun e => { e with key := k, val := v }) c, ?_, ⟨_, _, hset _, ?_, ?_, ?_⟩⟩
    · unfold Instr.mapUpdate
      simp only [Sem.run_bind, run_underlying ht, Result.andThen, MapKept.run_getObj_map h1, hK.check _ _ _ hk, hr]
      rw [show ((es[j]?).map (·.key)).getD k = k by rw [hj']; exact he]
      simp only [hK.stays k _ hk]
      exact MapKept.run_setObj_map _ h1
    · intro x hx
      obtain ⟨i, hi⟩ := Array.mem_iff_getElem?.1 (Array.mem_toList_iff.1 hx)
      rw [hmod] at hi
      split at hi
      · simp only [Option.some.injEq] at hi; rw [← hi]; exact hk
      · exact h2 x (Array.mem_toList_iff.2 (Array.mem_of_getElem? hi))
    · intro i i' x y hi hi' hxy
      rw [hmod] at hi hi'
      split at hi <;> split at hi'
      · omega
      · rename_i e1 e2
        simp only [Option.some.injEq] at hi
        rw [← hi] at hxy
        exact absurd (h3 j i' e y hj' hi' (by rw [he]; exact hxy)) (fun h => e2 h.symm)
      · rename_i e1 e2
        simp only [Option.some.injEq] at hi'
        rw [← hi'] at hxy
        exact absurd (h3 i j x e hi hj' (by rw [he]; exact hxy)) e1
      · exact h3 i i' x y hi hi' hxy
    · intro k' v' hk'
      by_cases hkk : k' = k
      · subst hkk
        rw [updM_same]
        constructor
        · intro hv
          refine ⟨{ e with key := k', val := v }, Array.mem_toList_iff.2 (Array.mem_iff_getElem?.2 ⟨j, by rw [hmod, if_pos rfl]⟩), rfl, by simpa using hv⟩
        · rintro ⟨x, hx, hxk, rfl⟩
          obtain ⟨i, hi⟩ := Array.mem_iff_getElem?.1 (Array.mem_toList_iff.1 hx)
          rw [hmod] at hi
          split at hi
          · simp only [Option.some.injEq] at hi; rw [← hi]
          · rename_i e1
            exact absurd (h3 i j x e hi hj' (by rw [hxk, he])) e1
      · rw [updM_other hkk, h4 k' v' hk']
        constructor
        · rintro ⟨x, hx, hxk, hxv⟩
          obtain ⟨i, hi⟩ := Array.mem_iff_getElem?.1 (Array.mem_toList_iff.1 hx)
          have hij : i ≠ j := fun hij => by
            subst hij
            rw [hj'] at hi
            simp only [Option.some.injEq] at hi
            exact hkk (by rw [← hxk, ← hi, he])
          exact ⟨x, Array.mem_toList_iff.2 (Array.mem_iff_getElem?.2 ⟨i, by rw [hmod, if_neg hij]; exact hi⟩), hxk, hxv⟩
        · rintro ⟨x, hx, hxk, hxv⟩
          obtain ⟨i, hi⟩ := Array.mem_iff_getElem?.1 (Array.mem_toList_iff.1 hx)
          rw [hmod] at hi
          split at hi
          · simp only [Option.some.injEq] at hi
            rw [← hi] at hxk
            exact absurd hxk.symm hkk
          · exact ⟨x, Array.mem_toList_iff.2 (Array.mem_of_getElem? hi), hxk, hxv⟩
/-- A store into a map, at the operation. -/
theorem wpList_store {P : Program} {w : World} {ops : Array Oper} {rest : List Oper} {o : Oper} {a : Act} {Q : Exit → Act → World → Prop} (hg : o.guard = none) (m x v : Operand) (t : TypeId) (hop : o.op = Op.mapUpdate t m x v)
    (kt et : TypeId) {K : Value → Prop} (hK : KeyT P kt K) (ht : P.underlying t = some (.map kt et)) (b : Nat) {f : Value → Option Value} (hm : a.eval m = .map (some b)) (hown : MapV K w b f) (key val : Value) (hx : a.eval x = key) (hv : a.eval v = val) (hkey : K key)
    (h : ∀ o' : Obj, MapV K { w with heap := w.heap.setIfInBounds b o' } b (updM f key val) → wpList P ops Q rest (a.put o.dst undef) { w with heap := w.heap.setIfInBounds b o' }) : wpList P ops Q (o :: rest) a w := by
  refine wpList_plain hg fun K' hK' => ?_
  obtain ⟨o', hrun, r1⟩ := hown.store hK ht hkey val
  unfold Oper.wp
  simp [execOp, hop, hm, hx, hv, hrun, Result.andThen]
  exact hK' _ _ (h o' r1)
/-- The store of a literal, at the operation. -/
theorem wpList_insert {P : Program} {w : World} {ops : Array Oper} {rest : List Oper} {o : Oper} {a : Act} {Q : Exit → Act → World → Prop} (hg : o.guard = none) (m x v : Operand) (t : TypeId) (hop : o.op = Op.insert t m x v)
    (kt et : TypeId) {K : Value → Prop} (hK : KeyT P kt K) (ht : P.underlying t = some (.map kt et)) (b : Nat) {f : Value → Option Value} (hm : a.eval m = .map (some b)) (hown : MapV K w b f) (key val : Value) (hx : a.eval x = key) (hv : a.eval v = val) (hkey : K key)
    (h : ∀ o' : Obj, MapV K { w with heap := w.heap.setIfInBounds b o' } b (updM f key val) → wpList P ops Q rest (a.put o.dst undef) { w with heap := w.heap.setIfInBounds b o' }) : wpList P ops Q (o :: rest) a w := by
  refine wpList_plain hg fun K' hK' => ?_
  obtain ⟨o', hrun, r1⟩ := hown.store hK ht hkey val
  unfold Oper.wp
  simp [execOp, hop, hm, hx, hv, hrun, Result.andThen]
  exact hK' _ _ (h o' r1)
/-- The world with another object in a block. -/
theorem setObj_other (w : World) {b c : Nat} (o : Obj) (h : c ≠ b) : ({ w with heap := w.heap.setIfInBounds b o } : World).heap[c]? = w.heap[c]? := by simp [Array.getElem?_setIfInBounds, Ne.symm h]
theorem setObj_size (w : World) (b : Nat) (o : Obj) : ({ w with heap := w.heap.setIfInBounds b o } : World).heap.size = w.heap.size := by simp
theorem below_setObj {B : Nat} {a w : World} (h : Below B a w) {b : Nat} (hb : B ≤ b) (o : Obj) : Below B a { w with heap := w.heap.setIfInBounds b o } :=
  h.trans ⟨rfl, rfl, rfl, by rw [setObj_size]; exact Nat.le_refl _, fun i hi => setObj_other w o (by omega)⟩
end Go.Proofs.YtfpaihjcbpaneaaGreatDoor
namespace Go.Proofs.YtfpaihjcbpaneaaGreatDoor
open Go.RowKit D Go.MapKept
set_option linter.unusedSimpArgs false
/-- A pair of glyphs. -/
def K1 : Value → Prop := IsKey .string
theorem k1_str (s : ByteArray) : K1 (.string s) := trivial
theorem keyT_str : KeyT Tryz.prog 9 K1 := keyT_plain Tryz.underlying9
end Go.Proofs.YtfpaihjcbpaneaaGreatDoor
namespace Go.Proofs.YtfpaihjcbpaneaaGreatDoor.D
set_option linter.unusedVariables false
theorem odd_room (r : Rm) : (if (decide (oddV r.tlo r.thi (-300) 600 = 7) || decide (oddV r.dlo r.dhi 0 1000 = 7) || outB r.most 0 10000000 || outB r.x 0 10000 || outB r.y 0 10000) = true then 7
    else if oddV r.tlo r.thi (-300) 600 ≠ 0 then oddV r.tlo r.thi (-300) 600 else oddV r.dlo r.dhi 0 1000) = roomE r := by
  unfold roomE oddV
  rw [outB_in, outB_in, outB_in, outB_in, outB_in, outB_in, outB_in]
  cases inB r.tlo (-300) 600 <;> cases inB r.thi (-300) 600 <;> cases inB r.dlo 0 1000 <;> cases inB r.dhi 0 1000 <;> cases inB r.most 0 10000000 <;> cases inB r.x 0 10000 <;> cases inB r.y 0 10000 <;>
    (by_cases h1 : r.thi < r.tlo <;> by_cases h2 : r.dhi < r.dlo <;> simp [h1, h2])
noncomputable def seenR (l : List Rm) : Nat → Value → Option Value
  | 0 => fun _ => none
  | k + 1 => updM (seenR l k) (.string (rmD l k).name) (.bool true)
theorem seenR_at (l : List Rm) (s : ByteArray) : ∀ k, (seenR l k (.string s)).getD (.bool false) = .bool (anyF (fun j => sameS (rmD l j).name s) k)
  | 0 => rfl
  | k + 1 => by
    rw [anyF_succ]
    by_cases h : s = (rmD l k).name
    · rw [seenR, h, updM_same, sameS_iff.2 rfl, Bool.or_true]; rfl
    · rw [seenR, updM_other (fun e => h (by simpa using e)), seenR_at l s k]
      have : sameS (rmD l k).name s = false := by
        cases hs : sameS (rmD l k).name s
        · rfl
        · exact absurd (sameS_iff.1 hs).symm h
      rw [this, Bool.or_false]
noncomputable def seenC (l : List Cn) : Nat → Value → Option Value
  | 0 => fun _ => none
  | k + 1 => updM (seenC l k) (.string (cnD l k).name) (.bool true)
theorem seenC_at (l : List Cn) (s : ByteArray) : ∀ k, (seenC l k (.string s)).getD (.bool false) = .bool (anyF (fun j => sameS (cnD l j).name s) k)
  | 0 => rfl
  | k + 1 => by
    rw [anyF_succ]
    by_cases h : s = (cnD l k).name
    · rw [seenC, h, updM_same, sameS_iff.2 rfl, Bool.or_true]; rfl
    · rw [seenC, updM_other (fun e => h (by simpa using e)), seenC_at l s k]
      have : sameS (cnD l k).name s = false := by
        cases hs : sameS (cnD l k).name s
        · rfl
        · exact absurd (sameS_iff.1 hs).symm h
      rw [this, Bool.or_false]
end Go.Proofs.YtfpaihjcbpaneaaGreatDoor.D
namespace Go.Proofs.YtfpaihjcbpaneaaGreatDoor
open Go.RowKit D
set_option linter.unusedVariables false
set_option linter.unusedSimpArgs false
attribute [local go_sem high] run_minI run_maxI
attribute [local go_sem] upon2 cls_cell cls_frozen forall_const exists_eq_left'
attribute [local go_sem] FirstUpon run_makeMap
theorem zeroBool (w : World) : (zeroValue 4).run Tryz.prog w = .ok (.bool false) w := by kernel_rfl
theorem roomName_any (r : Rm) (w : World) : Calls Tryz.prog 74 #[.agg #[.string r.name, .int .i64 r.tlo, .int .i64 r.thi, .int .i64 r.dlo, .int .i64 r.dhi, .bool r.people, .bool r.allows, .int .i64 r.most, .int .i64 r.x, .int .i64 r.y]] w fun e w' => e = .returned (.string r.name) ∧ Below w.heap.size w w' := by
  go_enter Tryz.func74, Tryz.ntmps74
  go_wp2_with (fail)
  go_ret
  exact ⟨rfl, below_alloc _ _⟩
theorem canName_any (c : Cn) (w : World) : Calls Tryz.prog 77 #[.agg #[.string c.name, .int .i64 c.base, .int .i64 c.frames, .int .i64 c.room]] w fun e w' => e = .returned (.string c.name) ∧ Below w.heap.size w w' := by
  go_enter Tryz.func77, Tryz.ntmps77
  go_wp2_with (fail)
  go_ret
  exact ⟨rfl, below_alloc _ _⟩
set_option maxRecDepth 100000 in
set_option maxHeartbeats 2000000 in
theorem room_any (r : Rm) (w : World) : Calls Tryz.prog 75 #[.agg #[.string r.name, .int .i64 r.tlo, .int .i64 r.thi, .int .i64 r.dlo, .int .i64 r.dhi, .bool r.people, .bool r.allows, .int .i64 r.most, .int .i64 r.x, .int .i64 r.y]] w fun e w' => e = .returned (.int .i64 (roomE r)) ∧ Below w.heap.size w w' := by
  obtain ⟨E, hE⟩ : ∃ E, E = roomE r := ⟨_, rfl⟩
  rw [← hE]
  rw [← odd_room] at hE
  obtain ⟨A, hA⟩ : ∃ A, A = oddV r.tlo r.thi (-300) 600 := ⟨_, rfl⟩
  obtain ⟨B, hB⟩ : ∃ B, B = oddV r.dlo r.dhi 0 1000 := ⟨_, rfl⟩
  obtain ⟨v1, hv1⟩ : ∃ v, v = outB r.most 0 10000000 := ⟨_, rfl⟩
  obtain ⟨v2, hv2⟩ : ∃ v, v = outB r.x 0 10000 := ⟨_, rfl⟩
  obtain ⟨v3, hv3⟩ : ∃ v, v = outB r.y 0 10000 := ⟨_, rfl⟩
  rw [← hA, ← hB, ← hv1, ← hv2, ← hv3] at hE
  have HE := Lib.hid hE
  have HA : Hid (∀ W, Calls Tryz.prog 79 #[.agg #[.int .i64 r.tlo, .int .i64 r.thi], .int .i64 (-300), .int .i64 600] W fun e w' => e = .returned (.int .i64 A) ∧ Below W.heap.size W w') := Lib.hid fun W => by rw [hA]; exact odd_any _ _ _ _ W
  have HB : Hid (∀ W, Calls Tryz.prog 79 #[.agg #[.int .i64 r.dlo, .int .i64 r.dhi], .int .i64 0, .int .i64 1000] W fun e w' => e = .returned (.int .i64 B) ∧ Below W.heap.size W w') := Lib.hid fun W => by rw [hB]; exact odd_any _ _ _ _ W
  have HO1 : Hid (∀ W, Calls Tryz.prog 33 #[.int .i64 r.most, .int .i64 0, .int .i64 10000000] W fun e w' => e = .returned (.bool v1) ∧ W = w') := Lib.hid fun W => by rw [hv1]; exact out_any _ _ _ W
  have HO2 : Hid (∀ W, Calls Tryz.prog 33 #[.int .i64 r.x, .int .i64 0, .int .i64 10000] W fun e w' => e = .returned (.bool v2) ∧ W = w') := Lib.hid fun W => by rw [hv2]; exact out_any _ _ _ W
  have HO3 : Hid (∀ W, Calls Tryz.prog 33 #[.int .i64 r.y, .int .i64 0, .int .i64 10000] W fun e w' => e = .returned (.bool v3) ∧ W = w') := Lib.hid fun W => by rw [hv3]; exact out_any _ _ _ W
  clear hE hA hB hv1 hv2 hv3
  go_enter Tryz.func75, Tryz.ntmps75
  go_wp2_with (fail)
  refine wp_name ?_
  intro w1 h1
  have x1 : w1.heap[w.heap.size]? = some (Obj.cells #[.string r.name, .int .i64 r.tlo, .int .i64 r.thi, .int .i64 r.dlo, .int .i64 r.dhi, .bool r.people, .bool r.allows, .int .i64 r.most, .int .i64 r.x, .int .i64 r.y] 74) := by rw [h1]; exact blk_new _ _
  have hB1 : Below w.heap.size w w1 := by rw [h1]; exact below_alloc _ _
  obtain ⟨b1, hb1⟩ : ∃ b1, b1 = w.heap.size := ⟨_, rfl⟩
  rw [← hb1] at x1 ⊢
  have X1 := Lib.hid x1
  clear h1 hb1
  have q1c := cell_blk x1
  have q1f := frz_blk x1
  refine region_ev [] [0, 1, 2, 3, 4, 5, 6, 7] [] [] (by kernel_rfl) (by kernel_rfl) (by intro c a d v w h; cases d <;> exact h) ?_
  simp only [picks, List.drop_succ_cons, List.drop_zero]
  repeat (refine wpQ0_step (fun K hK => ?_); go_simp; (refine hK _ ?_; clear hK K))
  refine wpQ0_nil ?_
  repeat ((with_reducible refine wpQ2_step (fun K hK => ?_)); go_simp; first | ((with_reducible refine hK _ ?_); clear hK K) | (apply Exists.intro; refine ⟨fun x => ?_, hK _ ?_⟩; (first | (with_reducible exact HA.out x.1) | (with_reducible exact HB.out x.1)); clear hK K))
  refine wpQ2_nil ?_
  refine Events.none_ fun w2 hg2 => ?_
  simp only [picks, List.drop_succ_cons, List.drop_zero]
  have hB2 := below_ext hB1 hg2
  clear q1c q1f x1
  have x1 := Ext2.blk hg2 X1.out
  have q1c := cell_blk x1
  have q1f := frz_blk x1
  by_cases hA7 : A = 7
  · have hbA : (A == 7) = true := by simp [hA7]
    have hE2 : E = 7 := by rw [HE.out, decide_eq_true hA7]; rfl
    have HE2 := Lib.hid hE2
    clear hE2 hA7
    go_wp2_with (fail)
    go_ret
    exact ⟨ret_int HE2.out.symm, hB2⟩
  have hbA : (A == 7) = false := by simp [hA7]
  by_cases hB7 : B = 7
  · have hbB : (B == 7) = true := by simp [hB7]
    have hE2 : E = 7 := by rw [HE.out, decide_eq_true hB7]; simp
    have HE2 := Lib.hid hE2
    clear hE2 hA7 hB7
    go_wp2_with (fail)
    go_ret
    exact ⟨ret_int HE2.out.symm, hB2⟩
  have hbB : (B == 7) = false := by simp [hB7]
  have hE2 : E = if (v1 || v2 || v3) = true then 7 else if A ≠ 0 then A else B := by rw [HE.out, decide_eq_false hA7, decide_eq_false hB7]; rfl
  have HE2 := Lib.hid hE2
  clear hE2 hA7 hB7 HE
  go_wp2_with (fail)
  (with_reducible refine (HO1.out _).mono ?_)
  rintro e w' ⟨rfl, rfl⟩
  cases v1
  case true =>
    go_wp2_with (fail)
    go_ret
    exact ⟨ret_int (by rw [HE2.out]; rfl), hB2⟩
  case false =>
  go_wp2_with (fail)
  (with_reducible refine (HO2.out _).mono ?_)
  rintro e w' ⟨rfl, rfl⟩
  cases v2
  case true =>
    go_wp2_with (fail)
    go_ret
    exact ⟨ret_int (by rw [HE2.out]; rfl), hB2⟩
  case false =>
  go_wp2_with (fail)
  (with_reducible refine (HO3.out _).mono ?_)
  rintro e w' ⟨rfl, rfl⟩
  cases v3
  case true =>
    go_wp2_with (fail)
    go_ret
    exact ⟨ret_int (by rw [HE2.out]; rfl), hB2⟩
  case false =>
  by_cases hA0 : A = 0
  · have hb0 : (A != 0) = false := by simp [hA0]
    have HA0 := Lib.hid hA0
    clear hA0
    go_wp2_with (fail)
    go_ret
    exact ⟨ret_int (by rw [HE2.out, if_neg (by simp), if_neg (not_not_intro HA0.out)]), hB2⟩
  · have hb0 : (A != 0) = true := by simp [hA0]
    have HA0 := Lib.hid hA0
    clear hA0
    go_wp2_with (fail)
    go_ret
    exact ⟨ret_int (by rw [HE2.out, if_neg (by simp), if_pos HA0.out]), hB2⟩
set_option maxRecDepth 100000 in
set_option maxHeartbeats 2000000 in
theorem can_any {S : Site} {s : SSl} {b : Nat} {c : Cn} {w : World} (hb : w.heap[b]? = some (Obj.cells #[.slice s.r.a S.rooms.length s.r.cap, .slice s.c.a S.cans.length s.c.cap, .int .i64 S.rlo, .int .i64 S.rhi, .slice s.p.a S.steps.length s.p.cap] 28)) (hr : S.rooms.length ≤ 12) : Calls Tryz.prog 78 #[.agg #[.string c.name, .int .i64 c.base, .int .i64 c.frames, .int .i64 c.room], .pointer (some ⟨b, 0, none⟩)] w fun e w' => e = .returned (.int .i64 (canE S.rooms.length c)) ∧ Below w.heap.size w w' := by
  obtain ⟨E, hE⟩ : ∃ E, E = canE S.rooms.length c := ⟨_, rfl⟩
  rw [← hE]
  unfold canE at hE
  obtain ⟨n, hn⟩ : ∃ n, n = S.rooms.length := ⟨_, rfl⟩
  rw [← hn] at hE hr hb
  obtain ⟨v1, hv1⟩ : ∃ v, v = outB c.base 1 3 := ⟨_, rfl⟩
  obtain ⟨v2, hv2⟩ : ∃ v, v = outB c.frames 1 200000 := ⟨_, rfl⟩
  obtain ⟨v3, hv3⟩ : ∃ v, v = outB c.room 0 ((n : Int) - 1) := ⟨_, rfl⟩
  rw [show inB c.base 1 3 = !v1 by rw [hv1, outB_in, Bool.not_not], show inB c.frames 1 200000 = !v2 by rw [hv2, outB_in, Bool.not_not], show inB c.room 0 ((n : Int) - 1) = !v3 by rw [hv3, outB_in, Bool.not_not]] at hE
  have HE := Lib.hid hE
  have HO1 : Hid (∀ W, Calls Tryz.prog 33 #[.int .i64 c.base, .int .i64 1, .int .i64 3] W fun e w' => e = .returned (.bool v1) ∧ W = w') := Lib.hid fun W => by rw [hv1]; exact out_any _ _ _ W
  have HO2 : Hid (∀ W, Calls Tryz.prog 33 #[.int .i64 c.frames, .int .i64 1, .int .i64 200000] W fun e w' => e = .returned (.bool v2) ∧ W = w') := Lib.hid fun W => by rw [hv2]; exact out_any _ _ _ W
  have HO3 : Hid (∀ W, Calls Tryz.prog 33 #[.int .i64 c.room, .int .i64 0, .int .i64 ((n : Int) - 1)] W fun e w' => e = .returned (.bool v3) ∧ W = w') := Lib.hid fun W => by rw [hv3]; exact out_any _ _ _ W
  have hlt := blk_lt hb
  have hne : ¬ b = w.heap.size := by omega
  clear hE hv1 hv2 hv3 hn
  have q0c := cell_blk hb
  have q0f := frz_blk hb
  go_enter Tryz.func78, Tryz.ntmps78
  go_wp2_with (fail)
  (with_reducible refine (HO1.out _).mono ?_)
  rintro e w' ⟨rfl, rfl⟩
  cases v1
  case true =>
    go_wp2_with (fail)
    go_ret
    exact ⟨ret_int (by rw [HE.out]; rfl), below_alloc _ _⟩
  case false =>
  go_wp2_with (fail)
  (with_reducible refine (HO2.out _).mono ?_)
  rintro e w' ⟨rfl, rfl⟩
  cases v2
  case true =>
    go_wp2_with (fail)
    go_ret
    exact ⟨ret_int (by rw [HE.out]; rfl), below_alloc _ _⟩
  case false =>
  go_wp2_with (fail)
  (with_reducible refine (HO3.out _).mono ?_)
  rintro e w' ⟨rfl, rfl⟩
  cases v3
  case true =>
    go_wp2_with (fail)
    go_ret
    exact ⟨ret_int (by rw [HE.out]; rfl), below_alloc _ _⟩
  case false =>
    go_wp2_with (fail)
    go_ret
    exact ⟨ret_int (by rw [HE.out]; rfl), below_alloc _ _⟩
end Go.Proofs.YtfpaihjcbpaneaaGreatDoor
namespace Go.Proofs.YtfpaihjcbpaneaaGreatDoor
open Go.RowKit D
set_option linter.unusedVariables false
set_option linter.unusedSimpArgs false
attribute [local go_sem high] run_minI run_maxI
attribute [local go_sem] upon2 cls_cell cls_frozen forall_const exists_eq_left'
attribute [local go_sem] FirstUpon run_makeMap
set_option maxRecDepth 100000 in
set_option maxHeartbeats 8000000 in
theorem namedR_any {S : Site} {s : SSl}  {w : World} (hS : SiteAt w S s) (hm : MaxAt w) (hn : S.rooms.length ≤ 30) :
    Calls Tryz.prog 73 #[.slice s.r.a S.rooms.length s.r.cap, .func (.func 74) #[] #[], .func (.func 75) #[] #[]] w fun e w' => e = .returned (.tuple #[.int .i64 (if fstR S < S.rooms.length then ((fstR S : Nat) : Int) else 0), .int .i64 (if fstR S < S.rooms.length then rmE S.rooms (fstR S) else 0)]) ∧ Below w.heap.size w w' := by
  have HS := Lib.hid hS; have HM := Lib.hid hm
  have hrl := hS.rm.le; have hrm := hS.rm.max
  obtain ⟨E1, hE1⟩ : ∃ E : Int, E = (if fstR S < S.rooms.length then ((fstR S : Nat) : Int) else 0) := ⟨_, rfl⟩
  obtain ⟨E2, hE2⟩ : ∃ E : Int, E = (if fstR S < S.rooms.length then rmE S.rooms (fstR S) else 0) := ⟨_, rfl⟩
  rw [← hE1, ← hE2]
  have HE1 := Lib.hid hE1; have HE2 := Lib.hid hE2
  obtain ⟨⟨ra, rc⟩, cs, ps⟩ := s
  dsimp only at hrl hrm
  clear hS hm hE1 hE2
  go_enter Tryz.func73, Tryz.ntmps73
  go_wp2_with (fail)
  refine wp_name ?_
  intro w1 h1
  obtain ⟨tb, htb⟩ : ∃ b, b = w.heap.size := ⟨_, rfl⟩
  have hB1 : Below w.heap.size w w1 := by rw [h1]; exact below_alloc _ _
  have hm1 : MapV K1 w1 tb (seenR S.rooms 0) := MapV.made K1 (c := 0) (by rw [h1, htb]; exact blk_new _ _)
  have HM1 := Lib.hid hm1
  have hle : w.heap.size ≤ tb := by omega
  rw [← htb]
  clear h1 htb hm1
  go_loopw [16] (fun z wr => ∃ k : Nat, z = .int .i64 (k : Int) ∧ k ≤ S.rooms.length ∧ Below w.heap.size w wr ∧ MapV K1 wr tb (seenR S.rooms k) ∧ ∀ j, j < k → (rmE S.rooms j != 0) = false) (fun z _ => S.rooms.length - (intOf z).toNat)
  case atStart => exact ⟨0, rfl, by omega, hB1, HM1.out, fun j hj => absurd hj (Nat.not_lt_zero j)⟩
  case round =>
    obtain ⟨k, rfl, hk, hB, hmv, hall⟩ := hrel
    have HALL := Lib.hid hall; have HMV := Lib.hid hmv
    have hmlt := hmv.lt
    clear hall hmv
    by_cases hlt : k < S.rooms.length
    · go_light
      obtain ⟨rb, roff, hra, hc⟩ := rm_cells (HS.out.below hB).rm hlt
      dsimp only at hra
      subst hra
      obtain ⟨x, hx⟩ : ∃ x, x = rmD S.rooms k := ⟨_, rfl⟩
      obtain ⟨c0, c1, c2, c3, c4, c5, c6, c7, c8, c9⟩ := hc
      rw [← hx] at c0 c1 c2 c3 c4 c5 c6 c7 c8 c9
      have HX := Lib.hid hx
      have HSZ : Hid (x.name.size ≤ maxLen) := Lib.hid (by rw [hx]; exact HS.out.rsize k hlt)
      have r0 : (0 : Int) ≤ (k : Int) := by omega
      have r1 : (k : Int) < (S.rooms.length : Int) := by omega
      have w3' : IntKind.i64.wrap ((k : Int) + 1) = (k : Int) + 1 := IntWalk.i64_in _ (by omega)
      clear hx
      go_wp2_with (fail)
      refine calls_name ?_
      intro w3 h3
      have hE3 : Ext2 wr w3 := by rw [h3]; exact below_alloc' _ _
      have x7 : w3.heap[wr.heap.size]? = some (Obj.cells #[.string x.name, .int .i64 x.tlo, .int .i64 x.thi, .int .i64 x.dlo, .int .i64 x.dhi, .bool x.people, .bool x.allows, .int .i64 x.most, .int .i64 x.x, .int .i64 x.y] 74) := by rw [h3]; exact blk_new _ _
      obtain ⟨b7, hb7⟩ : ∃ b, b = wr.heap.size := ⟨_, rfl⟩
      rw [← hb7] at x7 ⊢
      have X7 := Lib.hid x7
      have HM3 := Lib.hid (HMV.out.kept (hE3.block tb HMV.out.lt))
      have hB3 := below_ext hB hE3
      clear h3 c0 c1 c2 c3 c4 c5 c6 c7 c8 c9 hb7 x7 hE3 hB HMV hmlt
      (with_reducible refine (roomName_any _ _).mono ?_)
      rintro e w4 ⟨rfl, hb4⟩
      have HM4 := Lib.hid (HM3.out.kept (hb4.block tb HM3.out.lt))
      have hB4 := below_ext hB3 hb4
      have X74 := Lib.hid (Ext2.blk hb4 X7.out)
      go_wp2_with (fail)
      (with_reducible refine (nameP_any HSZ.out (HM.out.below hB4)).mono ?_)
      rintro e w5 ⟨rfl, hb5⟩
      have HM5 := Lib.hid (HM4.out.kept (hb5.block tb HM4.out.lt))
      have hB5 := below_ext hB4 hb5
      have X75 := Lib.hid (Ext2.blk hb5 X74.out)
      obtain ⟨vn, hvn⟩ : ∃ v, v = okName x.name := ⟨_, rfl⟩
      rw [← hvn]
      have HVN := Lib.hid hvn
      clear hvn hb4 hb5 HM3 HM4 hB3 hB4
      cases vn
      case false =>
        have hg : rmE S.rooms k = 6 := by unfold rmE; rw [← HX.out, ← HVN.out]; rfl
        have HG := Lib.hid hg
        clear hg
        have hf : fstR S = k := firstN_at HALL.out (by rw [HG.out]; rfl) hlt
        have HF := Lib.hid hf
        clear hf
        go_wp2_with (fail)
        go_ret2
        exact ⟨by rw [HE1.out, HE2.out, HF.out, if_pos hlt, if_pos hlt, HG.out]; first | done | rfl, hB5⟩
      case true =>
      have hlk := HM5.out.lookup keyT_str Tryz.underlying145 (zeroBool w5) (k := .string x.name) (k1_str _) false
      obtain ⟨tw, htw⟩ : ∃ t, t = twiceR S.rooms k := ⟨_, rfl⟩
      have hsa := seenR_at S.rooms x.name k
      rw [show anyF (fun j => sameS (rmD S.rooms j).name x.name) k = tw by rw [htw, HX.out]; rfl] at hsa
      rw [if_neg (by simp), hsa] at hlk
      have HTW := Lib.hid htw
      clear htw hsa
      cases tw
      case true =>
        have hg : rmE S.rooms k = 5 := by unfold rmE; rw [← HX.out, ← HVN.out, ← HTW.out]; rfl
        have HG := Lib.hid hg
        clear hg
        have hf : fstR S = k := firstN_at HALL.out (by rw [HG.out]; rfl) hlt
        have HF := Lib.hid hf
        clear hf
        go_wp2_with (fail)
        go_ret2
        exact ⟨by rw [HE1.out, HE2.out, HF.out, if_pos hlt, if_pos hlt, HG.out]; first | done | rfl, hB5⟩
      case false =>
      have x75 := X75.out
      have q7c := cell_blk x75
      have q7f := frz_blk x75
      go_wp2_with (fail)
      (with_reducible refine (room_any x _).mono ?_)
      rintro e w6 ⟨rfl, hb6⟩
      have HM6 := Lib.hid (HM5.out.kept (hb6.block tb HM5.out.lt))
      have hB6 := below_ext hB5 hb6
      have hg : rmE S.rooms k = roomE x := by unfold rmE; rw [← HX.out, ← HVN.out, ← HTW.out]; rfl
      obtain ⟨W9, hW9⟩ : ∃ W, W = roomE x := ⟨_, rfl⟩
      rw [← hW9] at hg ⊢
      have HG := Lib.hid hg
      clear hg hW9 q7c q7f x75 hb6 hlk HM5 hB5
      by_cases hz : W9 = 0
      · have hzb : (W9 != 0) = false := by simp [hz]
        have HZ := Lib.hid hz
        clear hz
        go_wp2_with (at_mapUpdate; refine wpList_store rfl _ _ _ 145 rfl 9 4 keyT_str Tryz.underlying145 tb rfl HM6.out (.string x.name) (.bool true) rfl rfl (k1_str _) ?_; intro o' hm')
        go_roundw
        case rel =>
          refine ⟨k + 1, by go_num, by omega, below_setObj hB6 hle o', ?_, fun j hj => ?_⟩
          · rw [seenR, ← HX.out]; exact hm'
          · rcases Nat.lt_or_ge j k with h | h
            · exact HALL.out j h
            · obtain rfl : j = k := by omega
              rw [HG.out, HZ.out]; rfl
        case measure => simp [intOf]; omega
      · have hzb : (W9 != 0) = true := by simp [hz]
        have HZ := Lib.hid hz
        have hf : fstR S = k := firstN_at HALL.out (by rw [HG.out]; exact hzb) hlt
        have HF := Lib.hid hf
        clear hf hz
        go_wp2_with (fail)
        go_ret2
        exact ⟨by rw [HE1.out, HE2.out, HF.out, if_pos hlt, if_pos hlt, HG.out]; first | done | rfl, hB6⟩
    · obtain rfl : k = S.rooms.length := by omega
      have hf : fstR S = S.rooms.length := firstN_none HALL.out
      have HF := Lib.hid hf
      have r9 : ¬ (S.rooms.length : Int) < (S.rooms.length : Int) := by omega
      clear hf HALL
      go_wp2_with (fail)
      go_ret2
      exact ⟨by rw [HE1.out, HE2.out, HF.out, if_neg (Nat.lt_irrefl _), if_neg (Nat.lt_irrefl _)]; first | done | rfl, hB⟩
set_option maxRecDepth 100000 in
set_option maxHeartbeats 8000000 in
theorem namedC_any {S : Site} {s : SSl} {b : Nat} {w : World} (hS : SiteAt w S s) (hm : MaxAt w) (hn : S.cans.length ≤ 30) (hb : w.heap[b]? = some (Obj.cells #[.slice s.r.a S.rooms.length s.r.cap, .slice s.c.a S.cans.length s.c.cap, .int .i64 S.rlo, .int .i64 S.rhi, .slice s.p.a S.steps.length s.p.cap] 28)) (hr : S.rooms.length ≤ 12) :
    Calls Tryz.prog 76 #[.slice s.c.a S.cans.length s.c.cap, .func (.func 77) #[] #[], .func (.func 78) #[] #[.pointer (some ⟨b, 0, none⟩)]] w fun e w' => e = .returned (.tuple #[.int .i64 (if fstC S < S.cans.length then ((fstC S : Nat) : Int) else 0), .int .i64 (if fstC S < S.cans.length then cnE S (fstC S) else 0)]) ∧ Below w.heap.size w w' := by
  have HS := Lib.hid hS; have HM := Lib.hid hm
  have hrl := hS.cn.le; have hrm := hS.cn.max
  obtain ⟨E1, hE1⟩ : ∃ E : Int, E = (if fstC S < S.cans.length then ((fstC S : Nat) : Int) else 0) := ⟨_, rfl⟩
  obtain ⟨E2, hE2⟩ : ∃ E : Int, E = (if fstC S < S.cans.length then cnE S (fstC S) else 0) := ⟨_, rfl⟩
  rw [← hE1, ← hE2]
  have HE1 := Lib.hid hE1; have HE2 := Lib.hid hE2
  have HBX := Lib.hid hb
  clear hb
  obtain ⟨rs, ⟨ca, cc⟩, ps⟩ := s
  dsimp only at hrl hrm
  clear hS hm hE1 hE2
  go_enter Tryz.func76, Tryz.ntmps76
  go_wp2_with (fail)
  refine wp_name ?_
  intro w1 h1
  obtain ⟨tb, htb⟩ : ∃ b, b = w.heap.size := ⟨_, rfl⟩
  have hB1 : Below w.heap.size w w1 := by rw [h1]; exact below_alloc _ _
  have hm1 : MapV K1 w1 tb (seenC S.cans 0) := MapV.made K1 (c := 0) (by rw [h1, htb]; exact blk_new _ _)
  have HM1 := Lib.hid hm1
  have hle : w.heap.size ≤ tb := by omega
  rw [← htb]
  clear h1 htb hm1
  go_loopw [16] (fun z wr => ∃ k : Nat, z = .int .i64 (k : Int) ∧ k ≤ S.cans.length ∧ Below w.heap.size w wr ∧ MapV K1 wr tb (seenC S.cans k) ∧ ∀ j, j < k → (cnE S j != 0) = false) (fun z _ => S.cans.length - (intOf z).toNat)
  case atStart => exact ⟨0, rfl, by omega, hB1, HM1.out, fun j hj => absurd hj (Nat.not_lt_zero j)⟩
  case round =>
    obtain ⟨k, rfl, hk, hB, hmv, hall⟩ := hrel
    have HALL := Lib.hid hall; have HMV := Lib.hid hmv
    have hmlt := hmv.lt
    clear hall hmv
    by_cases hlt : k < S.cans.length
    · go_light
      obtain ⟨rb, roff, hra, c0, c1, c2, c3⟩ := cn_cells (HS.out.below hB).cn hlt
      dsimp only at hra
      subst hra
      obtain ⟨x, hx⟩ : ∃ x, x = cnD S.cans k := ⟨_, rfl⟩
      rw [← hx] at c0 c1 c2 c3
      have HX := Lib.hid hx
      have HSZ : Hid (x.name.size ≤ maxLen) := Lib.hid (by rw [hx]; exact HS.out.csize k hlt)
      have r0 : (0 : Int) ≤ (k : Int) := by omega
      have r1 : (k : Int) < (S.cans.length : Int) := by omega
      have w3' : IntKind.i64.wrap ((k : Int) + 1) = (k : Int) + 1 := IntWalk.i64_in _ (by omega)
      clear hx
      go_wp2_with (fail)
      refine calls_name ?_
      intro w3 h3
      have hE3 : Ext2 wr w3 := by rw [h3]; exact below_alloc' _ _
      have x7 : w3.heap[wr.heap.size]? = some (Obj.cells #[.string x.name, .int .i64 x.base, .int .i64 x.frames, .int .i64 x.room] 124) := by rw [h3]; exact blk_new _ _
      obtain ⟨b7, hb7⟩ : ∃ b, b = wr.heap.size := ⟨_, rfl⟩
      rw [← hb7] at x7 ⊢
      have X7 := Lib.hid x7
      have HM3 := Lib.hid (HMV.out.kept (hE3.block tb HMV.out.lt))
      have hB3 := below_ext hB hE3
      clear h3 c0 c1 c2 c3 hb7 x7 hE3 hB HMV hmlt
      (with_reducible refine (canName_any _ _).mono ?_)
      rintro e w4 ⟨rfl, hb4⟩
      have HM4 := Lib.hid (HM3.out.kept (hb4.block tb HM3.out.lt))
      have hB4 := below_ext hB3 hb4
      have X74 := Lib.hid (Ext2.blk hb4 X7.out)
      go_wp2_with (fail)
      (with_reducible refine (nameP_any HSZ.out (HM.out.below hB4)).mono ?_)
      rintro e w5 ⟨rfl, hb5⟩
      have HM5 := Lib.hid (HM4.out.kept (hb5.block tb HM4.out.lt))
      have hB5 := below_ext hB4 hb5
      have X75 := Lib.hid (Ext2.blk hb5 X74.out)
      obtain ⟨vn, hvn⟩ : ∃ v, v = okName x.name := ⟨_, rfl⟩
      rw [← hvn]
      have HVN := Lib.hid hvn
      clear hvn hb4 hb5 HM3 HM4 hB3 hB4
      cases vn
      case false =>
        have hg : cnE S k = 6 := by unfold cnE; rw [← HX.out, ← HVN.out]; rfl
        have HG := Lib.hid hg
        clear hg
        have hf : fstC S = k := firstN_at HALL.out (by rw [HG.out]; rfl) hlt
        have HF := Lib.hid hf
        clear hf
        go_wp2_with (fail)
        go_ret2
        exact ⟨by rw [HE1.out, HE2.out, HF.out, if_pos hlt, if_pos hlt, HG.out]; first | done | rfl, hB5⟩
      case true =>
      have hlk := HM5.out.lookup keyT_str Tryz.underlying145 (zeroBool w5) (k := .string x.name) (k1_str _) false
      obtain ⟨tw, htw⟩ : ∃ t, t = twiceC S.cans k := ⟨_, rfl⟩
      have hsa := seenC_at S.cans x.name k
      rw [show anyF (fun j => sameS (cnD S.cans j).name x.name) k = tw by rw [htw, HX.out]; rfl] at hsa
      rw [if_neg (by simp), hsa] at hlk
      have HTW := Lib.hid htw
      clear htw hsa
      cases tw
      case true =>
        have hg : cnE S k = 5 := by unfold cnE; rw [← HX.out, ← HVN.out, ← HTW.out]; rfl
        have HG := Lib.hid hg
        clear hg
        have hf : fstC S = k := firstN_at HALL.out (by rw [HG.out]; rfl) hlt
        have HF := Lib.hid hf
        clear hf
        go_wp2_with (fail)
        go_ret2
        exact ⟨by rw [HE1.out, HE2.out, HF.out, if_pos hlt, if_pos hlt, HG.out]; first | done | rfl, hB5⟩
      case false =>
      have x75 := X75.out
      have q7c := cell_blk x75
      have q7f := frz_blk x75
      go_wp2_with (fail)
      (with_reducible refine (can_any (s := ⟨rs, ⟨some ⟨rb, roff, none⟩, cc⟩, ps⟩) (below_blk hB5 HBX.out (blk_lt HBX.out)) hr).mono ?_)
      rintro e w6 ⟨rfl, hb6⟩
      have HM6 := Lib.hid (HM5.out.kept (hb6.block tb HM5.out.lt))
      have hB6 := below_ext hB5 hb6
      have hg : cnE S k = canE S.rooms.length x := by unfold cnE; rw [← HX.out, ← HVN.out, ← HTW.out]; rfl
      obtain ⟨W9, hW9⟩ : ∃ W, W = canE S.rooms.length x := ⟨_, rfl⟩
      rw [← hW9] at hg ⊢
      have HG := Lib.hid hg
      clear hg hW9 q7c q7f x75 hb6 hlk HM5 hB5
      by_cases hz : W9 = 0
      · have hzb : (W9 != 0) = false := by simp [hz]
        have HZ := Lib.hid hz
        clear hz
        go_wp2_with (at_mapUpdate; refine wpList_store rfl _ _ _ 145 rfl 9 4 keyT_str Tryz.underlying145 tb rfl HM6.out (.string x.name) (.bool true) rfl rfl (k1_str _) ?_; intro o' hm')
        go_roundw
        case rel =>
          refine ⟨k + 1, by go_num, by omega, below_setObj hB6 hle o', ?_, fun j hj => ?_⟩
          · rw [seenC, ← HX.out]; exact hm'
          · rcases Nat.lt_or_ge j k with h | h
            · exact HALL.out j h
            · obtain rfl : j = k := by omega
              rw [HG.out, HZ.out]; rfl
        case measure => simp [intOf]; omega
      · have hzb : (W9 != 0) = true := by simp [hz]
        have HZ := Lib.hid hz
        have hf : fstC S = k := firstN_at HALL.out (by rw [HG.out]; exact hzb) hlt
        have HF := Lib.hid hf
        clear hf hz
        go_wp2_with (fail)
        go_ret2
        exact ⟨by rw [HE1.out, HE2.out, HF.out, if_pos hlt, if_pos hlt, HG.out]; first | done | rfl, hB6⟩
    · obtain rfl : k = S.cans.length := by omega
      have hf : fstC S = S.cans.length := firstN_none HALL.out
      have HF := Lib.hid hf
      have r9 : ¬ (S.cans.length : Int) < (S.cans.length : Int) := by omega
      clear hf HALL
      go_wp2_with (fail)
      go_ret2
      exact ⟨by rw [HE1.out, HE2.out, HF.out, if_neg (Nat.lt_irrefl _), if_neg (Nat.lt_irrefl _)]; first | done | rfl, hB⟩
end Go.Proofs.YtfpaihjcbpaneaaGreatDoor
