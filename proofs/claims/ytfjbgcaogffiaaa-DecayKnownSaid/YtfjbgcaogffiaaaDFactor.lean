/-
  decay.factor: the factor of a curve at a number.
-/
import Derived.Test.YtfjbgcaogffiaaaDSearch
import Derived.Test.YtfjbgcaogffiaaaDPlainA
import Derived.Test.YtfjbgcaogffiaaaDMustA
import Derived.Shelf.Abstract
import Derived.Deep.RegionHeld3
namespace Go.Proofs.Ytfjbgcaogffiaaa
open Go.RowKit D
set_option linter.unusedVariables false
set_option linter.unusedSimpArgs false
attribute [local go_sem high] run_minI run_maxI
theorem factor1_any {s : Sl} {l : List Pt} (B1 B2 : Nat) (n : Int) {i : Nat} {w : World} (hl : PtsS w s l) (hi : i < l.length) (h1 : w.cell? ⟨B1, 0, none⟩ = some (.slice s.a l.length s.cap)) (h2 : w.cell? ⟨B2, 0, none⟩ = some (.int .i64 n)) :
    Calls Try.prog 111 #[.int .i64 (i : Int), .pointer (some ⟨B1, 0, none⟩), .pointer (some ⟨B2, 0, none⟩)] w fun e w' => e = .returned (.bool (decide (n ≤ (ptD l i).at_))) ∧ ∃ q, w' = w.drewN q := by
  obtain ⟨a, cap⟩ := s
  have hc : l.length ≤ cap := hl.le
  have hm : cap ≤ 9223372036854775807 := hl.max
  obtain ⟨b, off, rfl, hc0, hc1⟩ := pts_at hl hi
  clear hl
  have hi0 : (0 : Int) ≤ (i : Int) := by omega
  have hi1 : (i : Int) < (l.length : Int) := by omega
  go_enter Try.func111, Try.ntmps111
  go_wp2_with (fail)
  go_quiet (fail)
  go_wp2_with (fail)
  go_ret
  exact ⟨rfl, _, rfl⟩
def FacOk (lo hi n : Int) : Prop := -300 ≤ lo ∧ hi ≤ 1000 ∧ lo ≤ n ∧ n ≤ hi
theorem interp_bounds {lo hi n : Int} {l : List Pt} (h : CurveOk lo hi l) (hn : FacOk lo hi n) {k : Nat} (hk : k + 1 < l.length) (h1 : ¬ n ≤ (ptD l k).at_) :
    (0 ≤ (ptD l (k + 1)).fac - (ptD l k).fac ∧ (ptD l (k + 1)).fac - (ptD l k).fac ≤ 1000) ∧ (0 ≤ n - (ptD l k).at_ ∧ n - (ptD l k).at_ ≤ 1300) ∧ (1 ≤ (ptD l (k + 1)).at_ - (ptD l k).at_ ∧ (ptD l (k + 1)).at_ - (ptD l k).at_ ≤ 1300) ∧
    (0 ≤ ((ptD l (k + 1)).fac - (ptD l k).fac) * (n - (ptD l k).at_) ∧ ((ptD l (k + 1)).fac - (ptD l k).fac) * (n - (ptD l k).at_) ≤ 1000 * 1300) := by
  have r0 := h.rng (k := k) (by omega)
  have r1 := h.rng (k := k + 1) hk
  have st := h.step hk
  obtain ⟨a1, a2, a3, a4⟩ := hn
  refine ⟨by omega, by omega, by omega, Int.mul_nonneg (by omega) (by omega), Int.mul_le_mul (by omega) (by omega) (by omega) (by omega)⟩
def slO (s : Sl) (n : Nat) : Obj := .cells #[.slice s.a n s.cap] 22 (0, 0)
def intO (n : Int) : Obj := .cells #[.int .i64 n] 3 (0, 0)
theorem sl_at {w W : World} {s : Sl} {k : Nat} {n : Int} (h : Below (w.heap.size + 2) ((w.alloc (slO s k)).alloc (intO n)) W) :
    W.cell? ⟨w.heap.size, 0, none⟩ = some (.slice s.a k s.cap) ∧ W.cell? ⟨w.heap.size + 1, 0, none⟩ = some (.int .i64 n) := by
  have h0 := (h.block w.heap.size (by omega)).trans (heap_two w _ _).1
  have h1 := (h.block (w.heap.size + 1) (by omega)).trans (heap_two w _ _).2
  simp [World.cell?, h0, h1, slO, intO]
set_option maxRecDepth 100000 in
set_option maxHeartbeats 1600000 in
theorem factor_any {lo hi n : Int} {s : Sl} {l : List Pt} {w : World} (hl : PtsS w s l) (hk : CurveOk lo hi l) (hn : FacOk lo hi n) :
    Calls Try.prog 99 #[.slice s.a l.length s.cap, .int .i64 n] w fun e w' => e = .returned (.int .i64 (factor l n)) ∧ Below w.heap.size w w' := by
  have hlen := hk.len
  have hX : ∀ W, Below (w.heap.size + 2) ((w.alloc (slO s l.length)).alloc (intO n)) W → Below w.heap.size w W := fun W h => (two_below w _ _).trans (h.mono (by omega))
  have C : ∀ W, Below (w.heap.size + 2) ((w.alloc (slO s l.length)).alloc (intO n)) W → Calls Try.prog 85 #[.int .i64 (l.length : Int), .func (.func 111) #[] #[.pointer (some ⟨w.heap.size, 0, none⟩), .pointer (some ⟨w.heap.size + 1, 0, none⟩)]] W fun e w' => e = .returned (.int .i64 (ge l n : Int)) ∧ Below W.heap.size W w' := fun W hW => by
    refine (search_any (p := fun i => decide (n ≤ (ptD l i).at_)) (by omega) (enters_of Try.func111 (by kernel_rfl) rfl) (fun i W1 hi hW1 => ?_)).mono ?_
    · have hW2 : Below (w.heap.size + 2) ((w.alloc (slO s l.length)).alloc (intO n)) W1 := hW.trans (hW1.mono (by have := hW.size; simp at this; omega))
      obtain ⟨h1, h2⟩ := sl_at hW2
      refine (factor1_any (s := s) (l := l) w.heap.size (w.heap.size + 1) n (hl.below (hX _ hW2)) hi h1 h2).mono ?_
      rintro e w' ⟨rfl, q, rfl⟩
      exact ⟨rfl, below_drewN (Below.refl _ _) _⟩
    · rintro e w' ⟨⟨k, rfl, ht⟩, hb⟩
      obtain rfl := turns_eq ht (ge_le l n) (fun i hi => by simpa using ge_before hi) (fun i h1 h2 => by simpa using ge_behind hk h1 h2)
      exact ⟨rfl, hb⟩
  have HC := Lib.hid C; clear C
  obtain ⟨a, cap⟩ := s
  have hc : l.length ≤ cap := hl.le
  have hm : cap ≤ 9223372036854775807 := hl.max
  have HL0 := Lib.hid hl; clear hl
  have HX := Lib.hid hX; clear hX
  have hgl := ge_le l n
  obtain ⟨k, hkk⟩ : ∃ k, ge l n = k := ⟨_, rfl⟩
  rw [hkk] at HC hgl
  have HK := Lib.hid hkk; clear hkk
  by_cases z : k = 0
  · have hf : factor l n = (ptD l 0).fac := by rw [factor, if_pos (by rw [HK.out]; exact z)]
    have HR := Lib.hid hf; clear hf
    subst z
    go_enter Try.func99, Try.ntmps99
    go_wp2_with (fail)
    refine (HC.out _ (Below.refl _ _)).mono ?_
    rintro e w1 ⟨rfl, hb⟩
    have B1 : Below (w.heap.size + 2) ((w.alloc (slO ⟨a, cap⟩ l.length)).alloc (intO n)) w1 := hb.mono (by simp)
    clear hb
    obtain ⟨h1, h2⟩ := sl_at B1
    obtain ⟨b, off, rfl, hc0, hc1⟩ := pts_at (HL0.out.below (HX.out _ B1)) (i := 0) (by omega)
    have pw7 : (0 : Int) < (l.length : Int) := by omega
    simp only [Nat.zero_mul, Nat.add_zero] at hc0 hc1
    go_wp2_with (fail)
    go_ret
    exact ⟨ret_int HR.out.symm, HX.out _ B1⟩
  · by_cases z2 : k = l.length
    · have hf : factor l n = (ptD l (l.length - 1)).fac := by rw [factor, if_neg (by rw [HK.out]; exact z), if_pos (by rw [HK.out]; exact z2)]
      have HR := Lib.hid hf; clear hf
      subst z2
      have hkz : ((l.length : Int) == 0) = false := beq_eq_false_iff_ne.2 (by omega)
      have pw1 : IntKind.i64.wrap ((l.length : Int) - 1) = (l.length : Int) - 1 := IntWalk.i64_in _ (by omega)
      have pw2 : (1 : Int) ≤ (l.length : Int) := by omega
      have pw3 : ((l.length : Int) - 1).toNat = l.length - 1 := by omega
      have pw8 : (l.length : Int) - 1 < (l.length : Int) := by omega
      go_enter Try.func99, Try.ntmps99
      go_wp2_with (fail)
      refine (HC.out _ (Below.refl _ _)).mono ?_
      rintro e w1 ⟨rfl, hb⟩
      have B1 : Below (w.heap.size + 2) ((w.alloc (slO ⟨a, cap⟩ l.length)).alloc (intO n)) w1 := hb.mono (by simp)
      clear hb
      obtain ⟨h1, h2⟩ := sl_at B1
      obtain ⟨b, off, rfl, hc0, hc1⟩ := pts_at (HL0.out.below (HX.out _ B1)) (i := l.length - 1) (by omega)
      go_wp2_with (fail)
      go_ret
      exact ⟨ret_int HR.out.symm, HX.out _ B1⟩
    · have hkz : ((k : Int) == 0) = false := by simp; omega
      have hkl : ((k : Int) == (l.length : Int)) = false := by simp; omega
      have hlt : k < l.length := by omega
      have hf : factor l n = interp (ptD l (k - 1)) (ptD l k) n := by rw [factor, if_neg (by rw [HK.out]; exact z), if_neg (by rw [HK.out]; exact z2), HK.out]
      have HR := Lib.hid hf; clear hf
      have hbn := interp_bounds hk hn (k := k - 1) (by omega) (ge_before (by rw [HK.out]; omega))
      rw [show k - 1 + 1 = k by omega] at hbn
      go_enter Try.func99, Try.ntmps99
      go_wp2_with (fail)
      refine (HC.out _ (Below.refl _ _)).mono ?_
      rintro e w1 ⟨rfl, hb⟩
      have B1 : Below (w.heap.size + 2) ((w.alloc (slO ⟨a, cap⟩ l.length)).alloc (intO n)) w1 := hb.mono (by simp)
      clear hb
      obtain ⟨h1, h2⟩ := sl_at B1
      obtain ⟨b, off, rfl, hc0, hc1⟩ := pts_at (HL0.out.below (HX.out _ B1)) (i := k) (by omega)
      obtain ⟨b', off', he, hd0, hd1⟩ := pts_at (HL0.out.below (HX.out _ B1)) (i := k - 1) (by omega)
      obtain ⟨rfl, rfl⟩ : b' = b ∧ off' = off := by simpa using he.symm
      clear he
      have pw1 : IntKind.i64.wrap ((k : Int) - 1) = (k : Int) - 1 := IntWalk.i64_in _ (by omega)
      have pw2 : (1 : Int) ≤ (k : Int) := by omega
      have pw3 : ((k : Int) - 1).toNat = k - 1 := by omega
      have pw8 : (k : Int) - 1 < (l.length : Int) := by omega
      have pw9 : (k : Int) < (l.length : Int) := by omega
      go_wp2_with (fail)
      obtain ⟨Aa, hAa⟩ : ∃ x, x = (ptD l (k - 1)).at_ := ⟨_, rfl⟩
      obtain ⟨Af, hAf⟩ : ∃ x, x = (ptD l (k - 1)).fac := ⟨_, rfl⟩
      obtain ⟨Ba, hBa⟩ : ∃ x, x = (ptD l k).at_ := ⟨_, rfl⟩
      obtain ⟨Bf, hBf⟩ : ∃ x, x = (ptD l k).fac := ⟨_, rfl⟩
      have hAr := hk.rng (k := k - 1) (by omega)
      rw [← hAa, ← hAf] at hAr
      rw [← hAa, ← hAf, ← hBa, ← hBf] at hbn
      have hR2 : factor l n = Af + (Bf - Af) * (n - Aa) / (Ba - Aa) := by rw [HR.out, interp, hAa, hAf, hBa, hBf]
      have HR2 := Lib.hid hR2; clear hR2 HR
      rw [← hAa] at hd0; rw [← hAf] at hd1; rw [← hBa] at hc0; rw [← hBf] at hc1
      clear hAa hAf hBa hBf
      have X0 := Lib.hid hbn
      have Y0 := Lib.hid hAr
      obtain ⟨pq1, pq2, pq3, pq4⟩ := hbn
      go_region_held3 (fun w' => w'.cell? ⟨w.heap.size, 0, none⟩ = some (.slice (some ⟨b', off', none⟩) l.length cap) ∧ w'.cell? ⟨b', off' + (k - 1) * 2, none⟩ = some (.int .i64 Aa) ∧ w'.cell? ⟨b', off' + (k - 1) * 2 + 1, none⟩ = some (.int .i64 Af) ∧ w'.cell? ⟨b', off' + k * 2, none⟩ = some (.int .i64 Ba) ∧ w'.cell? ⟨b', off' + k * 2 + 1, none⟩ = some (.int .i64 Bf)) (go_keep) (fail)
      all_goals (have pd1 : 0 ≤ (Bf - Af) * (n - Aa) / (Ba - Aa) := Int.ediv_nonneg pq4.1 (by omega))
      all_goals (have pd2 : (Bf - Af) * (n - Aa) / (Ba - Aa) ≤ (Bf - Af) * (n - Aa) := Int.ediv_le_self _ pq4.1)
      all_goals (have pd3 : ((Bf - Af) * (n - Aa)).tdiv (Ba - Aa) = (Bf - Af) * (n - Aa) / (Ba - Aa) := Int.tdiv_eq_ediv_of_nonneg pq4.1)
      all_goals (have pw1 : IntKind.i64.wrap (Bf - Af) = Bf - Af := IntWalk.i64_in _ (by omega))
      all_goals (have pw2 : IntKind.i64.wrap (n - Aa) = n - Aa := IntWalk.i64_in _ (by omega))
      all_goals (have pw3 : IntKind.i64.wrap (Ba - Aa) = Ba - Aa := IntWalk.i64_in _ (by omega))
      all_goals (have pw4 : IntKind.i64.wrap ((Bf - Af) * (n - Aa)) = (Bf - Af) * (n - Aa) := IntWalk.i64_in _ (by omega))
      all_goals (have pw5 : IntKind.i64.wrap ((Bf - Af) * (n - Aa) / (Ba - Aa)) = (Bf - Af) * (n - Aa) / (Ba - Aa) := IntWalk.i64_in _ (by omega))
      all_goals (have pw6 : IntKind.i64.wrap (Af + (Bf - Af) * (n - Aa) / (Ba - Aa)) = Af + (Bf - Af) * (n - Aa) / (Ba - Aa) := IntWalk.i64_in _ (by omega))
      all_goals (have pz1 : ¬ Ba - Aa = 0 := by omega)
      all_goals (clear pd1 pd2 pq1 pq2 pq3 pq4 hAr)
      all_goals (have hB1 := HX.out _ B1)
      all_goals (have hzB := hB1.size)
      all_goals (have hlt0 : w.heap.size < w1.heap.size := by have := B1.size; simp at this; omega)
      all_goals (have hlt1 : w.heap.size + 1 < w1.heap.size := by have := B1.size; simp at this; omega)
      all_goals (clear B1)
      all_goals go_wp2_with (fail)
      all_goals go_quiet (fail)
      all_goals go_wp2_with (fail)
      all_goals go_ret
      all_goals exact ⟨ret_int HR2.out.symm, by repeat' (first | exact Below.refl _ _ | assumption | refine below_drewN ?_ _ | refine Below.drew ?_ | refine Below.alloc ?_ (by first | assumption | omega | (simp <;> omega)) _ | refine Below.setCell ?_ (by first | assumption | omega | (simp <;> omega)) _)⟩
end Go.Proofs.Ytfjbgcaogffiaaa
