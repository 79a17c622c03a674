/-
  The reference's order: the tests by day.
-/
import Derived.Test.YtfjbgcaogffiaaaDOwn
import Derived.Test.YtfjbgcaogffiaaaDPlainA
import Derived.BigRegion
import Derived.RegionTactic
namespace Go.Proofs.Ytfjbgcaogffiaaa
open Go.RowKit D
set_option linter.unusedVariables false
set_option linter.unusedSimpArgs false
attribute [local go_sem high] run_minI run_maxI
attribute [local go_sem] upon2 cls_cell cls_frozen forall_const exists_eq_left'
def natC (l : List Nat) (i : Nat) (_ : Nat) : Value := .int .i64 ((l.getD i 0 : Nat) : Int)
theorem elInt : Elem Try.prog 44 3 (.int .i64 0) 1 8 := ⟨by kernel_rfl, by kernel_rfl, rfl, by omega, by omega⟩
theorem insAt_lt {l : List Nat} {m x i : Nat} (hm : m ≤ l.length) (h : i < m) : (insAt l m x).getD i 0 = l.getD i 0 := by
  rw [insAt, List.getD_eq_getElem?_getD, List.getD_eq_getElem?_getD, List.getElem?_append_left (by simp; omega), List.getElem?_take_of_lt h]
theorem insAt_at {l : List Nat} {m x : Nat} (hm : m ≤ l.length) : (insAt l m x).getD m 0 = x := by
  rw [insAt, List.getD_eq_getElem?_getD, List.getElem?_append_right (by simp; omega), show m - (l.take m).length = 0 by simp; omega]; rfl
theorem insAt_gt {l : List Nat} {m x i : Nat} (hm : m ≤ l.length) (h : m ≤ i) : (insAt l m x).getD (i + 1) 0 = l.getD i 0 := by
  rw [insAt, List.getD_eq_getElem?_getD, List.getD_eq_getElem?_getD, List.getElem?_append_right (by simp; omega), show i + 1 - (l.take m).length = (i - m) + 1 by simp; omega, List.getElem?_cons_succ, List.getElem?_drop, show m + (i - m) = i by omega]
theorem slide_eq {d : Nat → Int} {l : List Nat} {x m : Nat} (h1 : m = 0 ∨ ¬ d x < d (l.getD (m - 1) 0)) : ∀ {k : Nat}, m ≤ k → (∀ j, m ≤ j → j < k → d x < d (l.getD j 0)) → slide d l x k = m
  | 0, hk, _ => by have : m = 0 := by omega
                   rw [this]; rfl
  | k + 1, hk, h => by
    rcases Nat.lt_or_ge k m with h2 | h2
    · obtain rfl : m = k + 1 := by omega
      rw [slide, if_neg]
      rcases h1 with h1 | h1
      · omega
      · exact h1
    · rw [slide, if_pos (h k h2 (by omega))]
      exact slide_eq h1 h2 (fun j hj1 hj2 => h j hj1 (by omega))
/-- The exchange of two neighbours. -/
theorem swap_cells {l : List Nat} {m x : Nat} (hm : m + 1 ≤ l.length) (i : Nat) : (if i = m then x else if i = m + 1 then l.getD m 0 else (insAt l (m + 1) x).getD i 0) = (insAt l m x).getD i 0 := by
  by_cases h1 : i = m
  · rw [if_pos h1, h1, insAt_at (by omega)]
  · rw [if_neg h1]
    by_cases h2 : i = m + 1
    · rw [if_pos h2, h2, insAt_gt (by omega) (Nat.le_refl _)]
    · rw [if_neg h2]
      rcases Nat.lt_or_ge i m with h3 | h3
      · rw [insAt_lt hm (by omega), insAt_lt (by omega) h3]
      · obtain ⟨i, rfl⟩ : ∃ i', i = i' + 1 := ⟨i - 1, by omega⟩
        rw [insAt_gt hm (by omega), insAt_gt (by omega) (by omega)]
set_option maxRecDepth 100000 in
set_option maxHeartbeats 3200000 in
theorem orderR_any {s : Sl} {l : List Test} {w : World} (hl : TestsS w s l) (hn : l.length ≤ 20) :
    Calls Try.prog 108 #[.slice s.a l.length s.cap] w fun e w' => (∃ v, e = .returned v ∧ OwnR w' w.heap.size 3 1 v l.length (natC (insSort (fun j => (testD l j).day) l.length))) ∧ Below w.heap.size w w' := by
  obtain ⟨n, hn'⟩ : ∃ n, n = l.length := ⟨_, rfl⟩
  obtain ⟨d, hd⟩ : ∃ d : Nat → Int, d = fun j => (testD l j).day := ⟨_, rfl⟩
  obtain ⟨a, cap⟩ := s
  have hn2 : n ≤ 20 := by rw [hn']; exact hn
  have hc1 : n ≤ cap := by rw [hn']; exact hl.le
  have hc2 : cap ≤ 9223372036854775807 := hl.max
  have hrow : 0 < n → ∃ b off, a = some ⟨b, off, none⟩ ∧ RowC w b off 3 n (testC l) := fun h => by rw [hn'] at h ⊢; exact hl.row h (by omega)
  have hcell : ∀ i, testC l i 0 = .int .i64 (d i) := fun i => by rw [hd]; rfl
  rw [← hd, ← hn'] at *
  simp only [← hn']
  have HR := Lib.hid hrow; have HC := Lib.hid hcell
  clear hl hd hn' hrow hcell
  rcases Nat.eq_zero_or_pos n with h0 | h0
  · subst h0
    clear HR
    go_enter Try.func108, Try.ntmps108
    go_wp2_with (fail)
    refine wp_loop_rounds 1 ?_
    rw [rounds_succ]
    go_wp2_with (fail)
    go_ret
    exact ⟨⟨_, rfl, own_nil _ _ _ _ _⟩, by repeat' (first | exact Below.refl _ _ | assumption | refine below_drewN ?_ _ | refine Below.drew ?_ | refine Below.alloc ?_ (by first | assumption | omega | (simp <;> omega)) _ | refine Below.setCell ?_ (by first | assumption | omega | (simp <;> omega)) _ | refine Ext2.on (by assumption) ?_)⟩
  obtain ⟨b, off, rfl, hr⟩ := HR.out h0
  have HR := Lib.hid hr; clear hr
  go_enter Try.func108, Try.ntmps108
  go_wp2_with (fail)
  go_loopw [3, 4] (fun v i wr => ∃ k : Nat, i = .int .i64 (k : Int) ∧ k ≤ n ∧ Below w.heap.size w wr ∧ OwnR wr w.heap.size 3 1 v k (natC (insSort d k))) (fun _ i _ => n - (intOf i).toNat)
  case atStart => exact ⟨0, rfl, by omega, by repeat' (first | exact Below.refl _ _ | assumption | refine below_drewN ?_ _ | refine Below.drew ?_ | refine Below.alloc ?_ (by first | assumption | omega | (simp <;> omega)) _ | refine Below.setCell ?_ (by first | assumption | omega | (simp <;> omega)) _ | refine Ext2.on (by assumption) ?_), own_nil _ _ _ _ _⟩
  case round =>
    obtain ⟨k, rfl, hk, hB, hO⟩ := hrel
    have HO := Lib.hid hO; clear hO
    by_cases hlt : k < n
    · have hlt' : (k : Int) < (n : Int) := by omega
      go_wp2_with (at_builtin; refine app_one [.int .i64 (k : Int)] elInt rfl _ _ rfl w.heap.size rfl (HO.out.below (below_alloc' _ _)) wr.heap.size 1 rfl (blk_new _ _) (by simp [Value.oneCell']) (by omega) (by have := hB.size; simp; omega) ?_; intro v' w1 hO1 hg1)
      have hB1 := below_app hB HO.out hB.size hg1
      have hz1 := hg1.size; rw [World.size_alloc] at hz1
      rcases hO1.forms with ⟨_, h⟩ | ⟨g, cp, rfl, hbg, hcp1, hcp2, -, -, -⟩
      · omega
      have hO2 : OwnR w1 w.heap.size 3 1 (.slice (some ⟨g, 0, none⟩) (k + 1) cp) (k + 1) (natC (insAt (insSort d k) k k)) := hO1.congr fun i j hi hj => by
        have hk' : k ≤ (insSort d k).length := by rw [insSort_len]; omega
        replace hj : j < 1 := by simpa using hj
        rcases Nat.lt_or_ge i k with h | h
        · rw [upd_lt h]; simp only [natC]; rw [insAt_lt hk' h]
        · obtain rfl : i = k := by omega
          rw [upd_at]; simp only [natC]; rw [insAt_at hk']
          obtain rfl : j = 0 := by omega
          rfl
      have HO2 := Lib.hid hO2
      clear hO1 hO2 hg1
      obtain ⟨wo, hwo⟩ : ∃ wo, wo = wr := ⟨_, rfl⟩
      go_loopw [5] (fun v wi => ∃ m : Nat, v = .int .i64 (m : Int) ∧ m ≤ k ∧ Below w.heap.size w wi ∧ OwnR wi w.heap.size 3 1 (.slice (some ⟨g, 0, none⟩) (k + 1) cp) (k + 1) (natC (insAt (insSort d k) m k)) ∧ Hid (∀ j, m ≤ j → j < k → d k < d ((insSort d k).getD j 0))) (fun v _ => (intOf v).toNat)
      case atStart => exact ⟨k, rfl, by omega, hB1, HO2.out, Lib.hid fun j h1 h2 => by omega⟩
      case round =>
        obtain ⟨m, rfl, hm, hBi, hOi, HS⟩ := hrel
        have HOi := Lib.hid hOi
        rcases hOi.forms with ⟨_, h⟩ | ⟨g', cp', he, -, -, -, hr, hfz, -⟩
        · omega
        obtain ⟨rfl, rfl⟩ : g = g' ∧ cp = cp' := by simpa using he
        clear he hOi
        by_cases hm0 : 0 < m
        · have e0 := hr.one (i := m) (by omega)
          have e1 := hr.one (i := m - 1) (by omega)
          rw [Nat.zero_add] at e0 e1
          simp only [natC] at e0 e1
          have hk' : m ≤ (insSort d k).length := by rw [insSort_len]; omega
          rw [insAt_at hk'] at e0
          rw [insAt_lt hk' (by omega)] at e1
          obtain ⟨y, hy⟩ : ∃ y, y = (insSort d k).getD (m - 1) 0 := ⟨_, rfl⟩
          rw [← hy] at e1
          have hyn : y < k := by rw [hy]; exact insSort_lt (by omega)
          have t0 := ((HR.out.below hBi).three (i := k) (by omega)).1
          have t1 := ((HR.out.below hBi).three (i := y) (by omega)).1
          rw [HC.out] at t0 t1
          have HY := Lib.hid hy
          clear hy hk'
          have pw1 : IntKind.i64.wrap ((m : Int) - 1) = (m : Int) - 1 := IntWalk.i64_in _ (by omega)
          have pw2 : (1 : Int) ≤ (m : Int) := by omega
          have pw3 : ((m : Int) - 1).toNat = m - 1 := by omega
          have pz0 : (0 : Int) < (m : Int) := by omega
          have pz1 : (m : Int) < ((k + 1 : Nat) : Int) := by omega
          have pz2 : (m : Int) - 1 < ((k + 1 : Nat) : Int) := by omega
          have pz3 : (0 : Int) ≤ (k : Int) := by omega
          have pz4 : (0 : Int) ≤ (y : Int) := by omega
          have pz5 : (y : Int) < (n : Int) := by omega
          by_cases hday : d k < d y
          · go_wp2_with (fail)
            go_quiet (fail)
            go_wp2_with (fail)
            go_region
            all_goals go_wp2_with (fail)
            go_roundw
            case rel =>
              obtain ⟨m, rfl⟩ : ∃ m', m = m' + 1 := ⟨m - 1, by omega⟩
              have hk' : m + 1 ≤ (insSort d k).length := by rw [insSort_len]; omega
              rw [Nat.add_sub_cancel] at HY ⊢
              have h1 := HOi.out.set (i := m + 1) (j := 0) (by omega) (by omega) (.int .i64 (y : Int))
              rw [Nat.mul_one, Nat.add_zero] at h1
              have h2 := h1.set (i := m) (j := 0) (by omega) (by omega) (.int .i64 (k : Int))
              rw [Nat.mul_one, Nat.add_zero] at h2
              refine ⟨m, by go_num, by omega, below_set (below_set (below_drewN hBi _) hbg) hbg, ?_, Lib.hid fun j h3 h4 => ?_⟩
              · refine OwnR.congr (w := ((_ : World).setCell _ _).setCell _ _) h2 fun i j hi hj => ?_
                obtain rfl : j = 0 := by omega
                simp only [and_true, natC]
                rw [← swap_cells hk' i, ← HY.out]
                split
                · rfl
                · split <;> rfl
              · rcases Nat.lt_or_ge m j with h5 | h5
                · exact HS.out j (by omega) h4
                · obtain rfl : j = m := by omega
                  rw [← HY.out]; exact hday
            case measure => simp [intOf]; omega
          · have hf : ins d (insSort d k) k = insAt (insSort d k) m k := by
              rw [ins, insSort_len, slide_eq (m := m) (.inr (by rw [← HY.out]; exact hday)) hm HS.out]
            have HF := Lib.hid hf; clear hf
            have hday' : d y ≤ d k := by omega
            go_wp2_with (fail)
            go_quiet (fail)
            go_wp2_with (fail)
            go_roundw
            case rel => exact ⟨k + 1, by go_num, by omega, below_drewN hBi _, by rw [insSort, HF.out]; exact HOi.out⟩
            case measure => simp [intOf]; omega
        · obtain rfl : m = 0 := by omega
          have hf : ins d (insSort d k) k = insAt (insSort d k) 0 k := by
            rw [ins, insSort_len, slide_eq (m := 0) (.inl rfl) hm HS.out]
          have HF := Lib.hid hf; clear hf
          go_wp2_with (fail)
          go_quiet (fail)
          go_wp2_with (fail)
          go_roundw
          case rel => exact ⟨k + 1, by go_num, by omega, below_drewN hBi _, by rw [insSort, HF.out]; exact HOi.out⟩
          case measure => simp [intOf]; omega
    · obtain rfl : k = n := by omega
      go_wp2_with (fail)
      go_ret
      exact ⟨⟨_, rfl, HO.out⟩, hB⟩
end Go.Proofs.Ytfjbgcaogffiaaa
