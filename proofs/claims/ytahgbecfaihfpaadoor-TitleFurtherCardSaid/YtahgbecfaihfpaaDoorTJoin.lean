/-
  law.join; parts of slices.
-/
import Derived.Test.YtahgbecfaihfpaaDoorTPlFur
import Derived.Test.YtahgbecfaihfpaaDoorTRefX
namespace Go.Proofs.YtahgbecfaihfpaaDoor
open Go.RowKit D
set_option linter.unusedVariables false
set_option linter.unusedSimpArgs false
attribute [local go_sem high] run_minI run_maxI
attribute [local go_sem] upon2 cls_cell cls_frozen forall_const exists_eq_left'
attribute [local go_sem] FirstUpon
theorem joinW_app : ∀ (L : List (List UInt8)) (p : List UInt8), L ≠ [] → joinW (L ++ [p]) = joinW L ++ 32 :: p
  | [], _, h => absurd rfl h
  | [q], p, _ => by simp [joinW]
  | q :: r :: L, p, _ => by
    have ih := joinW_app (r :: L) p (by simp)
    rw [List.cons_append, List.cons_append, joinW, ← List.cons_append, ih, joinW]; simp
def joinP (Q : List ByteArray) (k : Nat) : ByteArray := joinS (Q.take k)
theorem take_next {Q : List ByteArray} {k : Nat} (hk : k < Q.length) : Q.take (k + 1) = Q.take k ++ [strD Q k] := by
  rw [List.take_add_one, List.getElem?_eq_getElem hk]
  unfold strD
  rw [List.getD_eq_getElem?_getD, List.getElem?_eq_getElem hk]; rfl
theorem baL_app (a b : List UInt8) : baL (a ++ b) = baL a ++ baL b := by
  unfold baL
  apply ByteArray.ext
  simp
theorem joinP_first {Q : List ByteArray} (h : 0 < Q.length) : joinP Q 1 = strD Q 0 := by
  unfold joinP
  rw [take_next h]
  simp [joinS, joinW, baL_data]
theorem joinP_next {Q : List ByteArray} {k : Nat} (hk : k < Q.length) (h0 : 0 < k) : joinP Q (k + 1) = joinP Q k ++ ⟨#[32]⟩ ++ strD Q k := by
  unfold joinP joinS
  rw [take_next hk, List.map_append, List.map_singleton, joinW_app _ _ (by
    intro h; have h1 := congrArg List.length h
    rw [List.length_map, List.length_take, List.length_nil] at h1; omega), show (32 :: (strD Q k).data.toList) = [32] ++ (strD Q k).data.toList from rfl, baL_app, baL_app, baL_data, ← ByteArray.append_assoc]
  rfl
theorem joinP_size {Q : List ByteArray} (hz : ∀ i, i < Q.length → (strD Q i).size ≤ 24) : ∀ k, k ≤ Q.length → (joinP Q k).size ≤ 25 * k
  | 0, _ => by simp [joinP, joinS, joinW, baL]; rfl
  | k + 1, hk => by
    have ih := joinP_size hz k (by omega)
    have h1 := hz k (by omega)
    rcases Nat.eq_zero_or_pos k with rfl | h0
    · rw [joinP_first (by omega)]; omega
    · rw [joinP_next (by omega) h0, ByteArray.size_append, ByteArray.size_append]
      have : (⟨#[32]⟩ : ByteArray).size = 1 := rfl
      omega
set_option maxRecDepth 100000 in
set_option maxHeartbeats 2000000 in
theorem joinL_any {Q : List ByteArray} {s : Sl} {w : World} (hs : StrsS w s Q) (hz : ∀ i, i < Q.length → (strD Q i).size ≤ 24) (hn : Q.length ≤ 40) (h0 : 0 < Q.length) : Calls Tryd.prog 37 #[.slice s.a Q.length s.cap] w fun e w' => e = .returned (.string (joinS Q)) ∧ Below w.heap.size w w' := by
  obtain ⟨sb, soff, hsa, -⟩ := str_cell hs h0
  have hsc := hs.le; have hsm := hs.max
  obtain ⟨sa, sc⟩ := s
  dsimp only at hsa hsc hsm
  subst hsa
  have HS := Lib.hid hs; have HZ := Lib.hid hz
  clear hs hz
  go_enter Tryd.func37, Tryd.ntmps37
  go_wp2_with (fail)
  go_loopw [3, 4] (fun v i wr => ∃ k : Nat, i = .int .i64 (k : Int) ∧ k ≤ Q.length ∧ v = .string (joinP Q k) ∧ Ext2 w wr) (fun _ i _ => Q.length - (intOf i).toNat)
  case atStart => exact ⟨0, rfl, Nat.zero_le _, rfl, Below.refl _ _⟩
  case round =>
    obtain ⟨k, rfl, hk, rfl, hEr⟩ := hrel
    have HEr := Lib.hid hEr
    by_cases hlt : k < Q.length
    · go_light
      obtain ⟨_, _, h1, c0⟩ := str_cell (HS.out.below hEr) hlt
      obtain ⟨rfl, rfl⟩ : sb = _ ∧ soff = _ := by simpa using h1
      have r0 : (0 : Int) ≤ (k : Int) := by omega
      have r1 : (k : Int) < (Q.length : Int) := by omega
      have w3' : IntKind.i64.wrap ((k : Int) + 1) = (k : Int) + 1 := IntWalk.i64_in _ (by omega)
      have hzk := HZ.out k hlt
      have hjs := joinP_size HZ.out k hk
      by_cases hk0 : k = 0
      · have r2 : ¬ (k : Int) > 0 := by omega
        have hj1 : joinP Q (k + 1) = joinP Q k ++ strD Q k := by
          subst hk0
          have hj0 : joinP Q 0 = ByteArray.empty := rfl
          rw [joinP_first h0, hj0]; simp
        obtain ⟨t, ht⟩ : ∃ t, t = strD Q k := ⟨_, rfl⟩
        rw [← ht] at c0 hj1 hzk
        obtain ⟨S, hS⟩ : ∃ S, S = joinP Q k := ⟨_, rfl⟩
        rw [← hS] at hjs hj1 ⊢
        have HJ1 := Lib.hid hj1
        have hov : ¬ 9223372036854775807 < S.size + t.size := by omega
        clear h1 hjs hj1 ht hS hEr hk0
        go_wp2_with (fail)
        go_roundw
        case rel => exact ⟨k + 1, by go_num, hlt, by rw [HJ1.out], HEr.out⟩
        case measure => simp [intOf]; omega
      · have hj1 := joinP_next hlt (by omega)
        have r2 : (k : Int) > 0 := by omega
        obtain ⟨t, ht⟩ : ∃ t, t = strD Q k := ⟨_, rfl⟩
        obtain ⟨S, hS⟩ : ∃ S, S = joinP Q k := ⟨_, rfl⟩
        rw [← ht] at c0 hj1 hzk
        rw [← hS] at hj1 hjs ⊢
        have HJ1 := Lib.hid hj1
        have hov0 : ¬ 9223372036854775807 < S.size + 1 := by omega
        have hov : ¬ 9223372036854775807 < S.size + 1 + t.size := by omega
        have hs1 : (⟨#[32]⟩ : ByteArray).size = 1 := rfl
        have hs2 : (S ++ ⟨#[32]⟩).size = S.size + 1 := by rw [ByteArray.size_append]; rfl
        clear h1 hjs hj1 ht hS hk0 hEr
        go_wp2_with (fail)
        go_roundw
        case rel => exact ⟨k + 1, by go_num, hlt, by rw [HJ1.out], HEr.out⟩
        case measure => simp [intOf]; omega
    · obtain rfl : k = Q.length := by omega
      have r1 : ¬ (Q.length : Int) < (Q.length : Int) := by omega
      have hj : joinP Q Q.length = joinS Q := by unfold joinP; rw [List.take_length]
      rw [hj]
      clear hlt hj hEr
      go_wp2_with (fail)
      go_ret
      exact ⟨rfl, HEr.out⟩
def dropA (a : Option Addr) (cap m sz : Nat) : Option Addr := if cap = m then a else a.map (·.add (m * sz))
theorem addr_addA (b o k : Nat) : (⟨b, o, none⟩ : Addr).add k = ⟨b, o + k, none⟩ := by
  unfold Addr.add; split
  · rename_i h; rw [h]; rfl
  · rfl
theorem row_drop {w : World} {s : Sl} {sz n m : Nat} {c : Nat → Nat → Value} (h : RowS w s sz n c) (hm : m ≤ n) : RowS w ⟨dropA s.a s.cap m sz, s.cap - m⟩ sz (n - m) (fun i j => c (m + i) j) := by
  have h1 := h.le; have h2 := h.max
  refine ⟨by simp only; omega, by simp only; omega, fun i j hi hj => ?_⟩
  obtain ⟨b, off, ha, hc⟩ := h.cell (m + i) j (by omega) hj
  refine ⟨b, off + m * sz, ?_, ?_⟩
  · unfold dropA
    rw [if_neg (by omega), ha, Option.map_some, addr_addA]
  · rw [← hc]
    congr 2
    rw [Nat.add_mul]; omega
theorem run_strs_from (a : Option Addr) (len cap m : Nat) (hm : m ≤ len) (w : World) : (Instr.slice 49 (.slice a len cap) (some (.int .i64 (m : Int))) none none).run Tryd.prog w = .ok (.slice (dropA a cap m 1) (len - m) (cap - m)) w := by
  rw [run_slice_l w 49 a len cap (by kernel_rfl) .i64 (m : Int) (by omega) (by omega)]
  have h : (sizeOf (Tryd.prog.elem 49)).run Tryd.prog w = .ok 1 w := by kernel_rfl
  rw [h]; rfl
theorem run_ints_from (a : Option Addr) (len cap m : Nat) (hm : m ≤ len) (w : World) : (Instr.slice 26 (.slice a len cap) (some (.int .i64 (m : Int))) none none).run Tryd.prog w = .ok (.slice (dropA a cap m 1) (len - m) (cap - m)) w := by
  rw [run_slice_l w 26 a len cap (by kernel_rfl) .i64 (m : Int) (by omega) (by omega)]
  have h : (sizeOf (Tryd.prog.elem 26)).run Tryd.prog w = .ok 1 w := by kernel_rfl
  rw [h]; rfl
theorem strs_drop {w : World} {s : Sl} {l : List ByteArray} {m : Nat} (h : StrsS w s l) (hm : m ≤ l.length) : StrsS w ⟨dropA s.a s.cap m 1, s.cap - m⟩ (l.drop m) := by
  have h1 := row_drop h hm
  unfold StrsS
  rw [List.length_drop]
  refine ⟨h1.le, h1.max, fun i j hi hj => ?_⟩
  obtain ⟨b, off, e1, e2⟩ := h1.cell i j hi hj
  exact ⟨b, off, e1, e2.trans (by simp only [strC, drop_at])⟩
theorem ints_drop {w : World} {s : Sl} {l : List Int} {m : Nat} (h : IntsS w s l) (hm : m ≤ l.length) : IntsS w ⟨dropA s.a s.cap m 1, s.cap - m⟩ (l.drop m) := by
  have h1 := row_drop h hm
  unfold IntsS
  rw [List.length_drop]
  refine ⟨h1.le, h1.max, fun i j hi hj => ?_⟩
  obtain ⟨b, off, e1, e2⟩ := h1.cell i j hi hj
  refine ⟨b, off, e1, e2.trans ?_⟩
  simp only [intC, intD]
  rw [List.getD_eq_getElem?_getD, List.getD_eq_getElem?_getD, List.getElem?_drop]
end Go.Proofs.YtahgbecfaihfpaaDoor
