/-
  The reference's factor of the decay layer.
  The reference's strength of the decay layer.
-/
import Derived.Test.YtfjbgcaogffiaaaDFactor
import Derived.Test.YtfjbgcaogffiaaaDStrength
namespace Go.Proofs.Ytfjbgcaogffiaaa
open Go.RowKit D
set_option linter.unusedVariables false
set_option linter.unusedSimpArgs false
attribute [local go_sem high] run_minI run_maxI
theorem ge_eq {l : List Pt} {n : Int} {k : Nat} (hk : k < l.length) (h : ∀ j, j < k → (ptD l j).at_ < n) (h' : n ≤ (ptD l k).at_) : ge l n = k := by
  rcases Nat.lt_trichotomy (ge l n) k with h1 | h1 | h1
  · have := ge_at (l := l) (n := n) (by omega); have := h _ h1; omega
  · exact h1
  · exact absurd h' (ge_before h1)
theorem ge_all {l : List Pt} {n : Int} (h : ∀ j, j < l.length → (ptD l j).at_ < n) : ge l n = l.length := by
  rcases Nat.lt_or_ge (ge l n) l.length with h1 | h1
  · have := ge_at h1; have := h _ h1; omega
  · have := ge_le l n; omega
set_option maxRecDepth 100000 in
set_option maxHeartbeats 1600000 in
theorem factorR_any {lo hi n : Int} {s : Sl} {l : List Pt} {w : World} (hl : PtsS w s l) (hk : CurveOk lo hi l) (hn : FacOk lo hi n) :
    Calls Try.prog 98 #[.slice s.a l.length s.cap, .int .i64 n] w fun e w' => e = .returned (.int .i64 (factor l n)) ∧ Below w.heap.size w w' := by
  have hlen := hk.len
  obtain ⟨a, cap⟩ := s
  have hc : l.length ≤ cap := hl.le
  have hm : cap ≤ 9223372036854775807 := hl.max
  have HL0 := Lib.hid hl; clear hl
  obtain ⟨b, off, rfl, x0, x1⟩ := pts_at HL0.out (i := 0) (by omega)
  have pw7 : (0 : Int) < (l.length : Int) := by omega
  simp only [Nat.zero_mul, Nat.add_zero] at x0 x1
  by_cases g0 : n ≤ (ptD l 0).at_
  · have hf : factor l n = (ptD l 0).fac := by rw [factor, if_pos (ge_eq (by omega) (fun j h => absurd h (by omega)) g0)]
    have HR := Lib.hid hf; clear hf
    go_enter Try.func98, Try.ntmps98
    go_wp2_with (fail)
    go_ret
    exact ⟨ret_int HR.out.symm, Below.refl _ _⟩
  · have h00 : ∀ j, j < 1 → (ptD l j).at_ < n := fun j hj => by
      obtain rfl : j = 0 := by omega
      omega
    have H00 := Lib.hid h00; clear h00
    go_enter Try.func98, Try.ntmps98
    go_wp2_with (fail)
    go_loopw [5] (fun i wr => ∃ k : Nat, 1 ≤ k ∧ k ≤ l.length ∧ i = .int .i64 k ∧ Below w.heap.size w wr ∧ ∀ j, j < k → (ptD l j).at_ < n) (fun i _ => l.length - (intOf i).toNat)
    case atStart => exact ⟨1, by omega, by omega, rfl, Below.refl _ _, H00.out⟩
    case round =>
      obtain ⟨k, hk1, hkl, rfl, hB, hall⟩ := hrel
      have HA := Lib.hid hall; clear hall x0 x1
      have hzB := hB.size
      by_cases hlt : k < l.length
      · have hbn := interp_bounds hk hn (k := k - 1) (by omega) (by have := HA.out (k - 1) (by omega); omega)
        rw [show k - 1 + 1 = k by omega] at hbn
        obtain ⟨b0, off0, he0, hc0, hc1⟩ := pts_at (HL0.out.below hB) hlt
        obtain ⟨rfl, rfl⟩ : b0 = b ∧ off0 = off := by simpa using he0.symm
        obtain ⟨b', off', he, hd0, hd1⟩ := pts_at (HL0.out.below hB) (i := k - 1) (by omega)
        obtain ⟨rfl, rfl⟩ : b' = b0 ∧ off' = off0 := by simpa using he.symm
        clear he he0
        have pw1 : IntKind.i64.wrap ((k : Int) - 1) = (k : Int) - 1 := IntWalk.i64_in _ (by omega)
        have pw2 : (1 : Int) ≤ (k : Int) := by omega
        have pw3 : ((k : Int) - 1).toNat = k - 1 := by omega
        have pw8 : (k : Int) - 1 < (l.length : Int) := by omega
        have pw9 : (k : Int) < (l.length : Int) := by omega
        obtain ⟨Aa, hAa⟩ : ∃ x, x = (ptD l (k - 1)).at_ := ⟨_, rfl⟩
        obtain ⟨Af, hAf⟩ : ∃ x, x = (ptD l (k - 1)).fac := ⟨_, rfl⟩
        obtain ⟨Ba, hBa⟩ : ∃ x, x = (ptD l k).at_ := ⟨_, rfl⟩
        obtain ⟨Bf, hBf⟩ : ∃ x, x = (ptD l k).fac := ⟨_, rfl⟩
        have hAr := hk.rng (k := k - 1) (by omega)
        rw [← hAa, ← hAf] at hAr
        rw [← hAa, ← hAf, ← hBa, ← hBf] at hbn
        rw [← hAa] at hd0; rw [← hAf] at hd1; rw [← hBa] at hc0; rw [← hBf] at hc1
        have hRk : n ≤ Ba → factor l n = Af + (Bf - Af) * (n - Aa) / (Ba - Aa) := fun h => by
          have hg := ge_eq hlt HA.out (by rw [← hBa]; exact h)
          rw [factor, if_neg (by omega), if_neg (by omega), hg, interp, hAa, hAf, hBa, hBf]
        have HRk := Lib.hid hRk; clear hRk
        have HBa := Lib.hid hBa
        clear hAa hAf hBa hBf
        go_wp2_with (fail)
        go_region_held3 (fun w' => w'.cell? ⟨b', off' + (k - 1) * 2, none⟩ = some (.int .i64 Aa) ∧ w'.cell? ⟨b', off' + (k - 1) * 2 + 1, none⟩ = some (.int .i64 Af) ∧ w'.cell? ⟨b', off' + k * 2, none⟩ = some (.int .i64 Ba) ∧ w'.cell? ⟨b', off' + k * 2 + 1, none⟩ = some (.int .i64 Bf)) (go_keep) (fail)
        all_goals (clear pw1 pw2 pw3 pw8 pw9 hd0 hd1 hc0 hc1)
        all_goals (obtain ⟨pq1, pq2, pq3, pq4⟩ := hbn)
        all_goals (have pd1 : 0 ≤ (Bf - Af) * (n - Aa) / (Ba - Aa) := Int.ediv_nonneg pq4.1 (by omega))
        all_goals (have pd2 : (Bf - Af) * (n - Aa) / (Ba - Aa) ≤ (Bf - Af) * (n - Aa) := Int.ediv_le_self _ pq4.1)
        all_goals (have pd3 : ((Bf - Af) * (n - Aa)).tdiv (Ba - Aa) = (Bf - Af) * (n - Aa) / (Ba - Aa) := Int.tdiv_eq_ediv_of_nonneg pq4.1)
        all_goals (have pw1 : IntKind.i64.wrap (Bf - Af) = Bf - Af := IntWalk.i64_in _ (by omega))
        all_goals (have pw2 : IntKind.i64.wrap (n - Aa) = n - Aa := IntWalk.i64_in _ (by omega))
        all_goals (have pw3 : IntKind.i64.wrap (Ba - Aa) = Ba - Aa := IntWalk.i64_in _ (by omega))
        all_goals (have pw4 : IntKind.i64.wrap ((Bf - Af) * (n - Aa)) = (Bf - Af) * (n - Aa) := IntWalk.i64_in _ (by omega))
        all_goals (have pw5 : IntKind.i64.wrap ((Bf - Af) * (n - Aa) / (Ba - Aa)) = (Bf - Af) * (n - Aa) / (Ba - Aa) := IntWalk.i64_in _ (by omega))
        all_goals (have pw6 : IntKind.i64.wrap (Af + (Bf - Af) * (n - Aa) / (Ba - Aa)) = Af + (Bf - Af) * (n - Aa) / (Ba - Aa) := IntWalk.i64_in _ (by omega))
        all_goals (have pz1 : ¬ Ba - Aa = 0 := by omega)
        all_goals (clear pd1 pd2 pq1 pq2 pq3 pq4 hAr)
        all_goals (by_cases hy : n ≤ Ba)
        all_goals go_wp2_with (fail)
        all_goals (first | (go_quiet (fail); go_wp2_with (fail); go_ret; exact ⟨ret_int (HRk.out hy).symm, by repeat' (first | exact Below.refl _ _ | assumption | refine below_drewN ?_ _ | refine Below.drew ?_ | refine Below.alloc ?_ (by first | assumption | omega | (simp <;> omega)) _ | refine Below.setCell ?_ (by first | assumption | omega | (simp <;> omega)) _)⟩) | skip)
        all_goals go_roundw
        all_goals (first | (simp [intOf]; omega) | exact ⟨k + 1, by omega, by omega, by go_num, by repeat' (first | exact Below.refl _ _ | assumption | refine below_drewN ?_ _ | refine Below.drew ?_ | refine Below.alloc ?_ (by first | assumption | omega | (simp <;> omega)) _ | refine Below.setCell ?_ (by first | assumption | omega | (simp <;> omega)) _), below_succ HA.out (by rw [← HBa.out]; omega)⟩)
      · obtain rfl : k = l.length := by omega
        have hf : factor l n = (ptD l (l.length - 1)).fac := by rw [factor, if_neg (by rw [ge_all HA.out]; omega), if_pos (ge_all HA.out)]
        have HR := Lib.hid hf; clear hf
        obtain ⟨b', off', he, hd0, hd1⟩ := pts_at (HL0.out.below hB) (i := l.length - 1) (by omega)
        obtain ⟨rfl, rfl⟩ : b' = b ∧ off' = off := by simpa using he.symm
        clear he
        have pw1 : IntKind.i64.wrap ((l.length : Int) - 1) = (l.length : Int) - 1 := IntWalk.i64_in _ (by omega)
        have pw2 : (1 : Int) ≤ (l.length : Int) := by omega
        have pw3 : ((l.length : Int) - 1).toNat = l.length - 1 := by omega
        have pw8 : (l.length : Int) - 1 < (l.length : Int) := by omega
        go_wp2_with (fail)
        go_ret
        exact ⟨ret_int HR.out.symm, hB⟩
end Go.Proofs.Ytfjbgcaogffiaaa
namespace Go.Proofs.Ytfjbgcaogffiaaa
open Go.RowKit D
set_option linter.unusedVariables false
set_option linter.unusedSimpArgs false
attribute [local go_sem high] run_minI run_maxI
attribute [local go_sem ↓] Go.wp_at_zero Go.wp_at_succ
set_option maxRecDepth 100000 in
set_option maxHeartbeats 3200000 in
theorem strengthR_any {R : Rule} {hh hv : Sl} {d : Day} {w : World} (hR : RuleAt w R hh hv) (hk : RuleOk R) (hd : DayOk d) :
    Calls Try.prog 66 #[.agg #[.slice hh.a R.heat.length hh.cap, .slice hv.a R.wet.length hv.cap, .int .i64 R.own, .int .i64 R.feed, .int .i64 R.g0, .int .i64 R.g1, .int .i64 R.g2, .int .i64 R.lost], .agg #[.int .i64 d.tlo, .int .i64 d.thi, .int .i64 d.dlo, .int .i64 d.dhi]] w fun e w' => e = .returned (.agg #[.int .i64 (strength R d).lo, .int .i64 (strength R d).hi]) ∧ Below w.heap.size w w' := by
  obtain ⟨x0, hx0⟩ : ∃ x, x = factor R.heat d.tlo := ⟨_, rfl⟩
  obtain ⟨x1, hx1⟩ : ∃ x, x = factor R.wet d.dlo := ⟨_, rfl⟩
  obtain ⟨x2, hx2⟩ : ∃ x, x = factor R.heat d.thi := ⟨_, rfl⟩
  obtain ⟨x3, hx3⟩ : ∃ x, x = factor R.wet d.dhi := ⟨_, rfl⟩
  have n0 : FacOk (-300) 600 d.tlo := ⟨by omega, by omega, hd.t0.1, hd.t0.2⟩
  have n1 : FacOk 0 1000 d.dlo := ⟨by omega, by omega, hd.d0.1, hd.d0.2⟩
  have n2 : FacOk (-300) 600 d.thi := ⟨by omega, by omega, hd.t1.1, hd.t1.2⟩
  have n3 : FacOk 0 1000 d.dhi := ⟨by omega, by omega, hd.d1.1, hd.d1.2⟩
  have r0 := factor_rng hk.heat n0
  have r1 := factor_rng hk.wet n1
  have r2 := factor_rng hk.heat n2
  have r3 := factor_rng hk.wet n3
  rw [← hx0] at r0; rw [← hx1] at r1; rw [← hx2] at r2; rw [← hx3] at r3
  have m0 : 0 ≤ x0 * x1 ∧ x0 * x1 ≤ 1000 * 1000 := ⟨Int.mul_nonneg r0.1 r1.1, Int.mul_le_mul r0.2 r1.2 r1.1 (by omega)⟩
  have m1 : 0 ≤ x2 * x3 ∧ x2 * x3 ≤ 1000 * 1000 := ⟨Int.mul_nonneg r2.1 r3.1, Int.mul_le_mul r2.2 r3.2 r3.1 (by omega)⟩
  have hst : strength R d = ⟨x0 * x1 / 1000, x2 * x3 / 1000⟩ := by rw [strength, hx0, hx1, hx2, hx3]
  have C0 : ∀ W, Below w.heap.size w W → Calls Try.prog 98 #[.slice hh.a R.heat.length hh.cap, .int .i64 d.tlo] W fun e w' => e = .returned (.int .i64 x0) ∧ Below W.heap.size W w' := fun W h => by rw [hx0]; exact factorR_any (hR.heat.below h) hk.heat n0
  have C1 : ∀ W, Below w.heap.size w W → Calls Try.prog 98 #[.slice hv.a R.wet.length hv.cap, .int .i64 d.dlo] W fun e w' => e = .returned (.int .i64 x1) ∧ Below W.heap.size W w' := fun W h => by rw [hx1]; exact factorR_any (hR.wet.below h) hk.wet n1
  have C2 : ∀ W, Below w.heap.size w W → Calls Try.prog 98 #[.slice hh.a R.heat.length hh.cap, .int .i64 d.thi] W fun e w' => e = .returned (.int .i64 x2) ∧ Below W.heap.size W w' := fun W h => by rw [hx2]; exact factorR_any (hR.heat.below h) hk.heat n2
  have C3 : ∀ W, Below w.heap.size w W → Calls Try.prog 98 #[.slice hv.a R.wet.length hv.cap, .int .i64 d.dhi] W fun e w' => e = .returned (.int .i64 x3) ∧ Below W.heap.size W w' := fun W h => by rw [hx3]; exact factorR_any (hR.wet.below h) hk.wet n3
  have H0 := Lib.hid C0; have H1 := Lib.hid C1; have H2 := Lib.hid C2; have H3 := Lib.hid C3
  clear C0 C1 C2 C3 hR hk hd n0 n1 n2 n3 r0 r1 r2 r3 hx0 hx1 hx2 hx3
  rw [hst]; clear hst
  have t0 : (x0 * x1).tdiv 1000 = x0 * x1 / 1000 := Int.tdiv_eq_ediv_of_nonneg m0.1
  have t1 : (x2 * x3).tdiv 1000 = x2 * x3 / 1000 := Int.tdiv_eq_ediv_of_nonneg m1.1
  have u0 : IntKind.i64.wrap (x0 * x1) = x0 * x1 := IntWalk.i64_in _ (by omega)
  have u1 : IntKind.i64.wrap (x2 * x3) = x2 * x3 := IntWalk.i64_in _ (by omega)
  have v0 : IntKind.i64.wrap (x0 * x1 / 1000) = x0 * x1 / 1000 := IntWalk.i64_in _ (by omega)
  have v1 : IntKind.i64.wrap (x2 * x3 / 1000) = x2 * x3 / 1000 := IntWalk.i64_in _ (by omega)
  have m0' := m0.1; have m1' := m1.1
  clear m0 m1
  go_enter Try.func66, Try.ntmps66
  go_wp2_with (fail)
  have hS : ∀ W : World, Below (w.heap.size + 2) (((w.alloc (.cells #[.slice hh.a R.heat.length hh.cap, .slice hv.a R.wet.length hv.cap, .int .i64 R.own, .int .i64 R.feed, .int .i64 R.g0, .int .i64 R.g1, .int .i64 R.g2, .int .i64 R.lost] 25)).alloc (.cells #[.int .i64 d.tlo, .int .i64 d.thi, .int .i64 d.dlo, .int .i64 d.dhi] 48)).alloc (.cells #[.int .i64 0, .int .i64 0] 28)) W → (Below w.heap.size w W ∧ W.cell? ⟨w.heap.size, 0, none⟩ = some (.slice hh.a R.heat.length hh.cap) ∧ W.cell? ⟨w.heap.size, 1, none⟩ = some (.slice hv.a R.wet.length hv.cap) ∧ W.cell? ⟨w.heap.size + 1, 0, none⟩ = some (.int .i64 d.tlo) ∧ W.cell? ⟨w.heap.size + 1, 1, none⟩ = some (.int .i64 d.thi) ∧ W.cell? ⟨w.heap.size + 1, 2, none⟩ = some (.int .i64 d.dlo) ∧ W.cell? ⟨w.heap.size + 1, 3, none⟩ = some (.int .i64 d.dhi)) := by
    intro W h
    refine ⟨Below.trans (by repeat' (first | exact Below.refl _ _ | assumption | refine below_drewN ?_ _ | refine Below.drew ?_ | refine Below.alloc ?_ (by first | assumption | omega | (simp <;> omega)) _ | refine Below.setCell ?_ (by first | assumption | omega | (simp <;> omega)) _)) (h.mono (by omega)), ?_, ?_, ?_, ?_, ?_, ?_⟩
    · exact (h.cell (p := ⟨w.heap.size, 0, none⟩) (by simp)).trans (by go_simp)
    · exact (h.cell (p := ⟨w.heap.size, 1, none⟩) (by simp)).trans (by go_simp)
    · exact (h.cell (p := ⟨w.heap.size + 1, 0, none⟩) (by simp)).trans (by go_simp)
    · exact (h.cell (p := ⟨w.heap.size + 1, 1, none⟩) (by simp)).trans (by go_simp)
    · exact (h.cell (p := ⟨w.heap.size + 1, 2, none⟩) (by simp)).trans (by go_simp)
    · exact (h.cell (p := ⟨w.heap.size + 1, 3, none⟩) (by simp)).trans (by go_simp)
  have HS := Lib.hid hS; clear hS
  have hT : ∃ v0 v1 : Int, (((w.alloc (.cells #[.slice hh.a R.heat.length hh.cap, .slice hv.a R.wet.length hv.cap, .int .i64 R.own, .int .i64 R.feed, .int .i64 R.g0, .int .i64 R.g1, .int .i64 R.g2, .int .i64 R.lost] 25)).alloc (.cells #[.int .i64 d.tlo, .int .i64 d.thi, .int .i64 d.dlo, .int .i64 d.dhi] 48)).alloc (.cells #[.int .i64 0, .int .i64 0] 28)).heap[w.heap.size + 2]? = some (.cells #[.int .i64 v0, .int .i64 v1] 28 (0, 0)) := ⟨0, 0, by have := heap_alloc_new ((w.alloc (.cells #[.slice hh.a R.heat.length hh.cap, .slice hv.a R.wet.length hv.cap, .int .i64 R.own, .int .i64 R.feed, .int .i64 R.g0, .int .i64 R.g1, .int .i64 R.g2, .int .i64 R.lost] 25)).alloc (.cells #[.int .i64 d.tlo, .int .i64 d.thi, .int .i64 d.dlo, .int .i64 d.dhi] 48)) (.cells #[.int .i64 0, .int .i64 0] 28); simpa using this⟩
  have HT := Lib.hid hT; clear hT
  have hstep : ∀ W W1 : World, (Below (w.heap.size + 2) (((w.alloc (.cells #[.slice hh.a R.heat.length hh.cap, .slice hv.a R.wet.length hv.cap, .int .i64 R.own, .int .i64 R.feed, .int .i64 R.g0, .int .i64 R.g1, .int .i64 R.g2, .int .i64 R.lost] 25)).alloc (.cells #[.int .i64 d.tlo, .int .i64 d.thi, .int .i64 d.dlo, .int .i64 d.dhi] 48)).alloc (.cells #[.int .i64 0, .int .i64 0] 28)) W ∧ ∃ v0 v1 : Int, W.heap[w.heap.size + 2]? = some (.cells #[.int .i64 v0, .int .i64 v1] 28 (0, 0))) → Below W.heap.size W W1 → (Below (w.heap.size + 2) (((w.alloc (.cells #[.slice hh.a R.heat.length hh.cap, .slice hv.a R.wet.length hv.cap, .int .i64 R.own, .int .i64 R.feed, .int .i64 R.g0, .int .i64 R.g1, .int .i64 R.g2, .int .i64 R.lost] 25)).alloc (.cells #[.int .i64 d.tlo, .int .i64 d.thi, .int .i64 d.dlo, .int .i64 d.dhi] 48)).alloc (.cells #[.int .i64 0, .int .i64 0] 28)) W1 ∧ ∃ v0 v1 : Int, W1.heap[w.heap.size + 2]? = some (.cells #[.int .i64 v0, .int .i64 v1] 28 (0, 0))) := by
    rintro W W1 ⟨h, v0, v1, hv⟩ hb
    have hz := (Array.getElem?_eq_some_iff.1 hv).1
    exact ⟨h.trans (hb.mono (by omega)), v0, v1, (hb.block _ hz).trans hv⟩
  have HP := Lib.hid hstep; clear hstep
  have hcell : ∀ W : World, (∃ v0 v1 : Int, W.heap[w.heap.size + 2]? = some (.cells #[.int .i64 v0, .int .i64 v1] 28 (0, 0))) → ∃ v0 v1 : Int, W.cell? ⟨w.heap.size + 2, 0, none⟩ = some (.int .i64 v0) ∧ W.cell? ⟨w.heap.size + 2, 1, none⟩ = some (.int .i64 v1) ∧ W.frozen? ⟨w.heap.size + 2, 0, none⟩ = false ∧ W.frozen? ⟨w.heap.size + 2, 1, none⟩ = false := by
    rintro W ⟨v0, v1, hv⟩
    exact ⟨v0, v1, by simp [World.cell?, hv], by simp [World.cell?, hv], by simp [World.frozen?, hv], by simp [World.frozen?, hv]⟩
  have HCL := Lib.hid hcell; clear hcell
  have hst4 : ∀ W : World, (Below (w.heap.size + 2) (((w.alloc (.cells #[.slice hh.a R.heat.length hh.cap, .slice hv.a R.wet.length hv.cap, .int .i64 R.own, .int .i64 R.feed, .int .i64 R.g0, .int .i64 R.g1, .int .i64 R.g2, .int .i64 R.lost] 25)).alloc (.cells #[.int .i64 d.tlo, .int .i64 d.thi, .int .i64 d.dlo, .int .i64 d.dhi] 48)).alloc (.cells #[.int .i64 0, .int .i64 0] 28)) W ∧ ∃ v0 v1 : Int, W.heap[w.heap.size + 2]? = some (.cells #[.int .i64 v0, .int .i64 v1] 28 (0, 0))) → ∀ a b : Int, (Below (w.heap.size + 2) (((w.alloc (.cells #[.slice hh.a R.heat.length hh.cap, .slice hv.a R.wet.length hv.cap, .int .i64 R.own, .int .i64 R.feed, .int .i64 R.g0, .int .i64 R.g1, .int .i64 R.g2, .int .i64 R.lost] 25)).alloc (.cells #[.int .i64 d.tlo, .int .i64 d.thi, .int .i64 d.dlo, .int .i64 d.dhi] 48)).alloc (.cells #[.int .i64 0, .int .i64 0] 28)) ((W.setCell ⟨w.heap.size + 1 + 1, 0, none⟩ (.int .i64 a)).setCell ⟨w.heap.size + 1 + 1, 1, none⟩ (.int .i64 b)) ∧ ∃ v0 v1 : Int, ((W.setCell ⟨w.heap.size + 1 + 1, 0, none⟩ (.int .i64 a)).setCell ⟨w.heap.size + 1 + 1, 1, none⟩ (.int .i64 b)).heap[w.heap.size + 2]? = some (.cells #[.int .i64 v0, .int .i64 v1] 28 (0, 0))) := by
    rintro W ⟨h, v0, v1, hv⟩ a b
    exact ⟨(h.setCell (by simp) _).setCell (by simp) _, a, b, by simp [World.setCell, Array.getElem?_modify, hv]⟩
  have HST := Lib.hid hst4; clear hst4
  go_region_held3 (fun w' => Below (w.heap.size + 2) (((w.alloc (.cells #[.slice hh.a R.heat.length hh.cap, .slice hv.a R.wet.length hv.cap, .int .i64 R.own, .int .i64 R.feed, .int .i64 R.g0, .int .i64 R.g1, .int .i64 R.g2, .int .i64 R.lost] 25)).alloc (.cells #[.int .i64 d.tlo, .int .i64 d.thi, .int .i64 d.dlo, .int .i64 d.dhi] 48)).alloc (.cells #[.int .i64 0, .int .i64 0] 28)) w' ∧ (∃ v0 v1 : Int, w'.heap[w.heap.size + 2]? = some (.cells #[.int .i64 v0, .int .i64 v1] 28 (0, 0))) ∧ Below w.heap.size w w' ∧ w'.cell? ⟨w.heap.size, 0, none⟩ = some (.slice hh.a R.heat.length hh.cap) ∧ w'.cell? ⟨w.heap.size, 1, none⟩ = some (.slice hv.a R.wet.length hv.cap) ∧ w'.cell? ⟨w.heap.size + 1, 0, none⟩ = some (.int .i64 d.tlo) ∧ w'.cell? ⟨w.heap.size + 1, 1, none⟩ = some (.int .i64 d.thi) ∧ w'.cell? ⟨w.heap.size + 1, 2, none⟩ = some (.int .i64 d.dlo) ∧ w'.cell? ⟨w.heap.size + 1, 3, none⟩ = some (.int .i64 d.dhi))
    ((first | exact ⟨(Below.refl _ _).drew, HT.out, HS.out _ (Below.refl _ _).drew⟩ | exact ⟨q0.1, q0.2, HS.out _ q0.1⟩ | exact ⟨q1.1, q1.2, HS.out _ q1.1⟩ | exact ⟨q2.1, q2.2, HS.out _ q2.1⟩ | exact ⟨q3.1, q3.2, HS.out _ q3.1⟩ | exact ⟨(HST.out _ q3 _ _).1, (HST.out _ q3 _ _).2, HS.out _ (HST.out _ q3 _ _).1⟩))
    ((first
      | (go_at_call 98; go_split_ands; have _t := H0; refine (H0.out _ (by assumption)).mono ?_; clear H0; rintro e w1 ⟨rfl, hb1⟩; have q0 := HP.out _ _ ⟨by assumption, by assumption⟩ hb1)
      | (go_at_call 98; go_split_ands; have _t := H1; refine (H1.out _ (by assumption)).mono ?_; clear H1; rintro e w2 ⟨rfl, hb2⟩; have q1 := HP.out _ _ ⟨by assumption, by assumption⟩ hb2)
      | (go_at_call 98; go_split_ands; have _t := H2; refine (H2.out _ (by assumption)).mono ?_; clear H2; rintro e w3 ⟨rfl, hb3⟩; have q2 := HP.out _ _ ⟨by assumption, by assumption⟩ hb3)
      | (go_at_call 98; go_split_ands; have _t := H3; refine (H3.out _ (by assumption)).mono ?_; clear H3; rintro e w4 ⟨rfl, hb4⟩; have q3 := HP.out _ _ ⟨by assumption, by assumption⟩ hb4; obtain ⟨v0, v1, k0, k1, f0, f1⟩ := HCL.out _ q3.2)))
  go_wp2_with (fail)
  refine bodyPost_ret (v := .agg #[.int .i64 (x0 * x1 / 1000), .int .i64 (x2 * x3 / 1000)]) ?_ rfl ⟨rfl, (HS.out _ (HST.out _ q3 _ _).1).1⟩
  simp [results, Try.results66, go_sem, k0, k1]
end Go.Proofs.Ytfjbgcaogffiaaa
