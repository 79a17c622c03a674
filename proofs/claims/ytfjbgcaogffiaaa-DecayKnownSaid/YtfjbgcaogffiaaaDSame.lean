/-
  The reference's Spans and Strikes: are two lists equal?
  The reference's Strikes: are two lists equal?
-/
import Derived.Test.YtfjbgcaogffiaaaDBase
namespace Go.Proofs.Ytfjbgcaogffiaaa
open Go.RowKit D
set_option linter.unusedVariables false
set_option linter.unusedSimpArgs false
attribute [local go_sem high] run_minI run_maxI
theorem spanD_ext {l m : List Span} (h : l.length = m.length) (h' : ∀ j, j < l.length → spanD l j = spanD m j) : l = m := by
  refine List.ext_getElem h fun i h1 h2 => ?_
  have := h' i h1
  rwa [spanD, spanD, List.getD_eq_getElem?_getD, List.getD_eq_getElem?_getD, List.getElem?_eq_getElem h1, List.getElem?_eq_getElem h2] at this
theorem run_neq_span (w : World) (x0 x1 y0 y1 : Int) : (binOp .neq 28 (.agg #[.int .i64 x0, .int .i64 x1]) (.agg #[.int .i64 y0, .int .i64 y1])).run Try.prog w = .ok (.bool (!(decide (x0 = y0 ∧ x1 = y1)))) w := by
  go_simp
  by_cases h0 : x0 = y0 <;> by_cases h1 : x1 = y1 <;> simp [h0, h1]
set_option maxHeartbeats 800000 in
theorem spans_any {s t : Sl} {l m : List Span} {w : World} (hl : SpansS w s l) (hm : SpansS w t m) :
    Calls Try.prog 19 #[.slice s.a l.length s.cap, .slice t.a m.length t.cap] w fun e w' => e = .returned (.bool (decide (l = m))) ∧ ∃ q, w' = w.drewN q := by
  obtain ⟨a, cap⟩ := s
  obtain ⟨a', cap'⟩ := t
  have hc : l.length ≤ cap := hl.le
  have hcm : cap ≤ 9223372036854775807 := hl.max
  have hc' : m.length ≤ cap' := hm.le
  have hcm' : cap' ≤ 9223372036854775807 := hm.max
  have HL := Lib.hid hl; have HM := Lib.hid hm; clear hl hm
  by_cases hne : l.length = m.length
  · have HN := Lib.hid hne
    have hb : ((l.length : Int) != (m.length : Int)) = false := by simp [hne]
    clear hne
    go_enter Try.func19, Try.ntmps19
    go_wp2_with (fail)
    go_loopw [5] (fun i wr => ∃ k q : Nat, k ≤ l.length ∧ i = .int .i64 k ∧ wr = w.drewN q ∧ ∀ j, j < k → spanD l j = spanD m j) (fun i _ => l.length - (intOf i).toNat)
    case atStart => exact ⟨0, 0, by omega, rfl, rfl, fun j h => absurd h (by omega)⟩
    case round =>
      obtain ⟨k, q, hk, rfl, rfl, hall⟩ := hrel
      have HA := Lib.hid hall; clear hall
      by_cases hlt : k < l.length
      · obtain ⟨b, off, rfl, x0, x1⟩ := spans_at HL.out hlt
        obtain ⟨b', off', rfl, y0, y1⟩ := spans_at HM.out (i := k) (by have := HN.out; omega)
        have i1 : (k : Int) < (l.length : Int) := by omega
        have i2 : (k : Int) < (m.length : Int) := by have := HN.out; omega
        go_wp2_with (fail)
        have he := run_neq_span
        by_cases hq : (spanD l k).lo = (spanD m k).lo ∧ (spanD l k).hi = (spanD m k).hi
        · have hd : decide ((spanD l k).lo = (spanD m k).lo ∧ (spanD l k).hi = (spanD m k).hi) = true := decide_eq_true hq
          have HQ := Lib.hid hq; clear hq
          obtain ⟨x, hx⟩ : ∃ x, x = (spanD l k).lo := ⟨_, rfl⟩
          obtain ⟨x', hx'⟩ : ∃ x, x = (spanD l k).hi := ⟨_, rfl⟩
          obtain ⟨y, hy⟩ : ∃ x, x = (spanD m k).lo := ⟨_, rfl⟩
          obtain ⟨y', hy'⟩ : ∃ x, x = (spanD m k).hi := ⟨_, rfl⟩
          rw [← hx] at x0; rw [← hx'] at x1; rw [← hy] at y0; rw [← hy'] at y1
          rw [← hx, ← hx', ← hy, ← hy'] at hd
          have hd0 := of_decide_eq_true hd
          obtain ⟨rfl, rfl⟩ := hd0
          clear hx hx' hy hy' hd
          go_quiet (fail)
          go_wp2_with (fail)
          go_roundw
          case rel => exact ⟨k + 1, _, by omega, by go_num, rfl, below_succ HA.out (by have := HQ.out; cases h1 : spanD l k; cases h2 : spanD m k; rw [h1, h2] at this; obtain ⟨rfl, rfl⟩ := this; rfl)⟩
          case measure => simp [intOf]; omega
        · obtain ⟨x, hx⟩ : ∃ x, x = (spanD l k).lo := ⟨_, rfl⟩
          obtain ⟨x', hx'⟩ : ∃ x, x = (spanD l k).hi := ⟨_, rfl⟩
          obtain ⟨y, hy⟩ : ∃ x, x = (spanD m k).lo := ⟨_, rfl⟩
          obtain ⟨y', hy'⟩ : ∃ x, x = (spanD m k).hi := ⟨_, rfl⟩
          rw [← hx] at x0; rw [← hx'] at x1; rw [← hy] at y0; rw [← hy'] at y1
          have hne : l ≠ m := by rintro rfl; exact hq ⟨rfl, rfl⟩
          have HNE := Lib.hid hne; clear hne
          rw [← hx, ← hx', ← hy, ← hy'] at hq
          have hd := decide_eq_false hq
          have HE : ∀ W : World, (binOp .neq 28 (.agg #[.int .i64 x, .int .i64 x']) (.agg #[.int .i64 y, .int .i64 y'])).run Try.prog W = .ok (.bool true) W := fun W => by rw [run_neq_span, hd]; rfl
          clear hx hx' hy hy' hd hq he
          go_quiet (fail)
          go_wp2_with (fail)
          go_ret
          exact ⟨ret_bool (by rw [decide_eq_false HNE.out]), _, World.drewN_drewN _ _ _⟩
      · obtain rfl : k = l.length := by omega
        go_wp2_with (fail)
        go_ret
        exact ⟨ret_bool (decide_eq_true (spanD_ext HN.out HA.out)).symm, _, rfl⟩
  · have hb : ((l.length : Int) != (m.length : Int)) = true := by simp; omega
    have hne' : l ≠ m := by rintro rfl; exact hne rfl
    have HNE := Lib.hid hne'; clear hne' hne
    go_enter Try.func19, Try.ntmps19
    go_wp2_with (fail)
    go_ret
    exact ⟨ret_bool (by rw [decide_eq_false HNE.out]), 0, rfl⟩
end Go.Proofs.Ytfjbgcaogffiaaa
namespace Go.Proofs.Ytfjbgcaogffiaaa
open Go.RowKit D
set_option linter.unusedVariables false
set_option linter.unusedSimpArgs false
attribute [local go_sem high] run_minI run_maxI
theorem strikeD_ext {l m : List Strike} (h : l.length = m.length) (h' : ∀ j, j < l.length → strikeD l j = strikeD m j) : l = m := by
  refine List.ext_getElem h fun i h1 h2 => ?_
  have := h' i h1
  rwa [strikeD, strikeD, List.getD_eq_getElem?_getD, List.getD_eq_getElem?_getD, List.getElem?_eq_getElem h1, List.getElem?_eq_getElem h2] at this
theorem run_neq_strike (w : World) (x0 x1 y0 y1 : Int) : (binOp .neq 65 (.agg #[.int .i64 x0, .int .i64 x1]) (.agg #[.int .i64 y0, .int .i64 y1])).run Try.prog w = .ok (.bool (!(decide (x0 = y0 ∧ x1 = y1)))) w := by
  go_simp
  by_cases h0 : x0 = y0 <;> by_cases h1 : x1 = y1 <;> simp [h0, h1]
set_option maxHeartbeats 800000 in
theorem strikes_any {s t : Sl} {l m : List Strike} {w : World} (hl : StrikesS w s l) (hm : StrikesS w t m) :
    Calls Try.prog 20 #[.slice s.a l.length s.cap, .slice t.a m.length t.cap] w fun e w' => e = .returned (.bool (decide (l = m))) ∧ ∃ q, w' = w.drewN q := by
  obtain ⟨a, cap⟩ := s
  obtain ⟨a', cap'⟩ := t
  have hc : l.length ≤ cap := hl.le
  have hcm : cap ≤ 9223372036854775807 := hl.max
  have hc' : m.length ≤ cap' := hm.le
  have hcm' : cap' ≤ 9223372036854775807 := hm.max
  have HL := Lib.hid hl; have HM := Lib.hid hm; clear hl hm
  by_cases hne : l.length = m.length
  · have HN := Lib.hid hne
    have hb : ((l.length : Int) != (m.length : Int)) = false := by simp [hne]
    clear hne
    go_enter Try.func20, Try.ntmps20
    go_wp2_with (fail)
    go_loopw [5] (fun i wr => ∃ k q : Nat, k ≤ l.length ∧ i = .int .i64 k ∧ wr = w.drewN q ∧ ∀ j, j < k → strikeD l j = strikeD m j) (fun i _ => l.length - (intOf i).toNat)
    case atStart => exact ⟨0, 0, by omega, rfl, rfl, fun j h => absurd h (by omega)⟩
    case round =>
      obtain ⟨k, q, hk, rfl, rfl, hall⟩ := hrel
      have HA := Lib.hid hall; clear hall
      by_cases hlt : k < l.length
      · obtain ⟨b, off, rfl, x0, x1⟩ := strikes_at HL.out hlt
        obtain ⟨b', off', rfl, y0, y1⟩ := strikes_at HM.out (i := k) (by have := HN.out; omega)
        have i1 : (k : Int) < (l.length : Int) := by omega
        have i2 : (k : Int) < (m.length : Int) := by have := HN.out; omega
        go_wp2_with (fail)
        have he := run_neq_strike
        by_cases hq : (strikeD l k).test = (strikeD m k).test ∧ (strikeD l k).by_ = (strikeD m k).by_
        · have hd : decide ((strikeD l k).test = (strikeD m k).test ∧ (strikeD l k).by_ = (strikeD m k).by_) = true := decide_eq_true hq
          have HQ := Lib.hid hq; clear hq
          obtain ⟨x, hx⟩ : ∃ x, x = (strikeD l k).test := ⟨_, rfl⟩
          obtain ⟨x', hx'⟩ : ∃ x, x = (strikeD l k).by_ := ⟨_, rfl⟩
          obtain ⟨y, hy⟩ : ∃ x, x = (strikeD m k).test := ⟨_, rfl⟩
          obtain ⟨y', hy'⟩ : ∃ x, x = (strikeD m k).by_ := ⟨_, rfl⟩
          rw [← hx] at x0; rw [← hx'] at x1; rw [← hy] at y0; rw [← hy'] at y1
          rw [← hx, ← hx', ← hy, ← hy'] at hd
          have hd0 := of_decide_eq_true hd
          obtain ⟨rfl, rfl⟩ := hd0
          clear hx hx' hy hy' hd
          go_quiet (fail)
          go_wp2_with (fail)
          go_roundw
          case rel => exact ⟨k + 1, _, by omega, by go_num, rfl, below_succ HA.out (by have := HQ.out; cases h1 : strikeD l k; cases h2 : strikeD m k; rw [h1, h2] at this; obtain ⟨rfl, rfl⟩ := this; rfl)⟩
          case measure => simp [intOf]; omega
        · obtain ⟨x, hx⟩ : ∃ x, x = (strikeD l k).test := ⟨_, rfl⟩
          obtain ⟨x', hx'⟩ : ∃ x, x = (strikeD l k).by_ := ⟨_, rfl⟩
          obtain ⟨y, hy⟩ : ∃ x, x = (strikeD m k).test := ⟨_, rfl⟩
          obtain ⟨y', hy'⟩ : ∃ x, x = (strikeD m k).by_ := ⟨_, rfl⟩
          rw [← hx] at x0; rw [← hx'] at x1; rw [← hy] at y0; rw [← hy'] at y1
          have hne : l ≠ m := by rintro rfl; exact hq ⟨rfl, rfl⟩
          have HNE := Lib.hid hne; clear hne
          rw [← hx, ← hx', ← hy, ← hy'] at hq
          have hd := decide_eq_false hq
          have HE : ∀ W : World, (binOp .neq 65 (.agg #[.int .i64 x, .int .i64 x']) (.agg #[.int .i64 y, .int .i64 y'])).run Try.prog W = .ok (.bool true) W := fun W => by rw [run_neq_strike, hd]; rfl
          clear hx hx' hy hy' hd hq he
          go_quiet (fail)
          go_wp2_with (fail)
          go_ret
          exact ⟨ret_bool (by rw [decide_eq_false HNE.out]), _, World.drewN_drewN _ _ _⟩
      · obtain rfl : k = l.length := by omega
        go_wp2_with (fail)
        go_ret
        exact ⟨ret_bool (decide_eq_true (strikeD_ext HN.out HA.out)).symm, _, rfl⟩
  · have hb : ((l.length : Int) != (m.length : Int)) = true := by simp; omega
    have hne' : l ≠ m := by rintro rfl; exact hne rfl
    have HNE := Lib.hid hne'; clear hne' hne
    go_enter Try.func20, Try.ntmps20
    go_wp2_with (fail)
    go_ret
    exact ⟨ret_bool (by rw [decide_eq_false HNE.out]), 0, rfl⟩
end Go.Proofs.Ytfjbgcaogffiaaa
