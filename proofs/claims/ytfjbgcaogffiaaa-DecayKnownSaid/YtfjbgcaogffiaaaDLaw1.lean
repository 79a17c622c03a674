/-
  Small functions of the laws: span, has, later, struckIs.
-/
import Derived.Test.YtfjbgcaogffiaaaDHeap
namespace Go.Proofs.Ytfjbgcaogffiaaa
open Go.RowKit D
set_option linter.unusedVariables false
set_option linter.unusedSimpArgs false
attribute [local go_sem high] run_minI run_maxI
theorem span_any (lo hi : Int) (w : World) : Calls Try.prog 25 #[.int .i64 lo, .int .i64 hi] w fun e w' => e = .returned (.agg #[.int .i64 lo, .int .i64 hi]) ∧ Below w.heap.size w w' := by
  go_enter Try.func25, Try.ntmps25
  go_wp2
  exact bodyPost_ret (v := .agg #[.int .i64 lo, .int .i64 hi]) (by simp [results, Try.results25, go_sem]) rfl ⟨rfl, by repeat' (first | exact Below.refl _ _ | assumption | refine below_drewN ?_ _ | refine Below.drew ?_ | refine Below.alloc ?_ (by first | assumption | omega | (simp <;> omega)) _ | refine Below.setCell ?_ (by first | assumption | omega | (simp <;> omega)) _)⟩
def hasB (s : Span) (n : Int) : Bool := decide (s.lo ≤ n ∧ n ≤ s.hi)
theorem has_any (s : Span) (n : Int) (w : World) : Calls Try.prog 30 #[.agg #[.int .i64 s.lo, .int .i64 s.hi], .int .i64 n] w fun e w' => e = .returned (.bool (hasB s n)) ∧ Below w.heap.size w w' := by
  by_cases h1 : s.lo ≤ n
  · by_cases h2 : n ≤ s.hi
    · go_enter Try.func30, Try.ntmps30
      go_wp2
      go_ret
      exact ⟨ret_bool (by simp [hasB]; omega), by repeat' (first | exact Below.refl _ _ | assumption | refine below_drewN ?_ _ | refine Below.drew ?_ | refine Below.alloc ?_ (by first | assumption | omega | (simp <;> omega)) _ | refine Below.setCell ?_ (by first | assumption | omega | (simp <;> omega)) _)⟩
    · go_enter Try.func30, Try.ntmps30
      go_wp2
      go_ret
      exact ⟨ret_bool (by simp [hasB]; omega), by repeat' (first | exact Below.refl _ _ | assumption | refine below_drewN ?_ _ | refine Below.drew ?_ | refine Below.alloc ?_ (by first | assumption | omega | (simp <;> omega)) _ | refine Below.setCell ?_ (by first | assumption | omega | (simp <;> omega)) _)⟩
  · go_enter Try.func30, Try.ntmps30
    go_wp2
    go_ret
    exact ⟨ret_bool (by simp [hasB]; omega), by repeat' (first | exact Below.refl _ _ | assumption | refine below_drewN ?_ _ | refine Below.drew ?_ | refine Below.alloc ?_ (by first | assumption | omega | (simp <;> omega)) _ | refine Below.setCell ?_ (by first | assumption | omega | (simp <;> omega)) _)⟩
def laterB (a b : Int) : Bool := decide (a < 0 ∨ (0 ≤ b ∧ b ≤ a))
theorem later_any (a b : Int) (w : World) : Calls Try.prog 33 #[.int .i64 a, .int .i64 b] w fun e w' => e = .returned (.bool (laterB a b)) ∧ Below w.heap.size w w' := by
  by_cases h1 : a < 0
  · go_enter Try.func33, Try.ntmps33
    go_wp2
    go_ret
    exact ⟨ret_bool (by simp [laterB]; omega), by repeat' (first | exact Below.refl _ _ | assumption | refine below_drewN ?_ _ | refine Below.drew ?_ | refine Below.alloc ?_ (by first | assumption | omega | (simp <;> omega)) _ | refine Below.setCell ?_ (by first | assumption | omega | (simp <;> omega)) _)⟩
  · by_cases h2 : 0 ≤ b
    · by_cases h3 : b ≤ a
      · go_enter Try.func33, Try.ntmps33
        go_wp2
        go_ret
        exact ⟨ret_bool (by simp [laterB]; omega), by repeat' (first | exact Below.refl _ _ | assumption | refine below_drewN ?_ _ | refine Below.drew ?_ | refine Below.alloc ?_ (by first | assumption | omega | (simp <;> omega)) _ | refine Below.setCell ?_ (by first | assumption | omega | (simp <;> omega)) _)⟩
      · go_enter Try.func33, Try.ntmps33
        go_wp2
        go_ret
        exact ⟨ret_bool (by simp [laterB]; omega), by repeat' (first | exact Below.refl _ _ | assumption | refine below_drewN ?_ _ | refine Below.drew ?_ | refine Below.alloc ?_ (by first | assumption | omega | (simp <;> omega)) _ | refine Below.setCell ?_ (by first | assumption | omega | (simp <;> omega)) _)⟩
    · go_enter Try.func33, Try.ntmps33
      go_wp2
      go_ret
      exact ⟨ret_bool (by simp [laterB]; omega), by repeat' (first | exact Below.refl _ _ | assumption | refine below_drewN ?_ _ | refine Below.drew ?_ | refine Below.alloc ?_ (by first | assumption | omega | (simp <;> omega)) _ | refine Below.setCell ?_ (by first | assumption | omega | (simp <;> omega)) _)⟩
def struckB (l : List Strike) (n : Int) : Bool := l.any fun s => s.test == n
theorem struckB_t {l : List Strike} {n : Int} {k : Nat} (hk : k < l.length) (h : (strikeD l k).test = n) : struckB l n = true := by
  rw [struckB, List.any_eq_true]
  refine ⟨l[k], List.getElem_mem hk, ?_⟩
  rw [strikeD, List.getD_eq_getElem?_getD, List.getElem?_eq_getElem hk] at h
  simpa using h
theorem struckB_f {l : List Strike} {n : Int} (h : ∀ j, j < l.length → (strikeD l j).test ≠ n) : struckB l n = false := by
  rw [struckB, List.any_eq_false]
  intro s hs
  obtain ⟨j, hj, rfl⟩ := List.getElem_of_mem hs
  have := h j hj
  rw [strikeD, List.getD_eq_getElem?_getD, List.getElem?_eq_getElem hj] at this
  simpa using this
set_option maxRecDepth 100000 in
set_option maxHeartbeats 2000000 in
theorem struckIs_any {s : Sl} {l : List Strike} (n : Int) {w : World} (hl : StrikesS w s l) : Calls Try.prog 26 #[.slice s.a l.length s.cap, .int .i64 n] w fun e w' => e = .returned (.bool (struckB l n)) ∧ ∃ q, w' = w.drewN q := by
  obtain ⟨a, cap⟩ := s
  have hc : l.length ≤ cap := hl.le
  have hcm : cap ≤ 9223372036854775807 := hl.max
  have HL := Lib.hid hl; clear hl
  go_enter Try.func26, Try.ntmps26
  go_wp2_with (fail)
  go_loopw [5] (fun i wr => ∃ k q : Nat, k ≤ l.length ∧ i = .int .i64 (k : Int) ∧ wr = w.drewN q ∧ ∀ j, j < k → (strikeD l j).test ≠ n) (fun i _ => l.length - (intOf i).toNat)
  case atStart => exact ⟨0, 0, by omega, rfl, rfl, fun j h => absurd h (by omega)⟩
  case round =>
    obtain ⟨k, q, hk, rfl, rfl, hall⟩ := hrel
    have HA := Lib.hid hall; clear hall
    by_cases hlt : k < l.length
    · obtain ⟨b, off, rfl, x0, x1⟩ := strikes_at HL.out hlt
      obtain ⟨y, hy⟩ : ∃ y, y = (strikeD l k).test := ⟨_, rfl⟩
      rw [← hy] at x0
      have i1 : (k : Int) < (l.length : Int) := by omega
      by_cases hq : y = n
      · have hf : struckB l n = true := struckB_t hlt (hy.symm.trans hq)
        have HF := Lib.hid hf
        have hb : (y == n) = true := by rw [hq]; simp
        clear hf hq hy
        go_wp2_with (fail)
        first
          | (go_quiet (fail); go_wp2_with (fail))
          | skip
        go_ret
        exact ⟨ret_bool HF.out.symm, _, rfl⟩
      · have hb : (y == n) = false := by simpa using hq
        have HQ := Lib.hid (fun h : (strikeD l k).test = n => hq (hy.trans h))
        clear hq hy
        go_wp2_with (fail)
        first
          | (go_quiet (fail); go_wp2_with (fail))
          | skip
        go_roundw
        case rel =>
          refine ⟨k + 1, _, by omega, by go_num, rfl, fun j hj => ?_⟩
          rcases Nat.lt_or_ge j k with h | h
          · exact HA.out j h
          · obtain rfl : j = k := by omega
            exact HQ.out
        case measure => simp [intOf]; omega
    · obtain rfl : k = l.length := by omega
      have hf : struckB l n = false := struckB_f HA.out
      have HF := Lib.hid hf; clear hf
      go_wp2_with (fail)
      go_ret
      exact ⟨ret_bool HF.out.symm, _, rfl⟩
end Go.Proofs.Ytfjbgcaogffiaaa
