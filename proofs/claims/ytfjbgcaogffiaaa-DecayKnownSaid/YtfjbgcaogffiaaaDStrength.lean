/-
  decay.strength: the strength of a climate.
-/
import Derived.Test.YtfjbgcaogffiaaaDFactor
namespace Go.Proofs.Ytfjbgcaogffiaaa
open Go.RowKit D
set_option linter.unusedVariables false
set_option linter.unusedSimpArgs false
attribute [local go_sem high] run_minI run_maxI
attribute [local go_sem ↓] Go.wp_at_zero Go.wp_at_succ
structure RuleOk (R : Rule) : Prop where
  heat : CurveOk (-300) 600 R.heat
  wet : CurveOk 0 1000 R.wet
  own : 0 ≤ R.own ∧ R.own ≤ 100000
  feed : 0 ≤ R.feed ∧ R.feed ≤ 999999
  g0 : 1 ≤ R.g0 ∧ R.g0 ≤ 1000000
  g1 : R.g0 < R.g1 ∧ R.g1 ≤ 1000000
  g2 : R.g1 < R.g2 ∧ R.g2 ≤ 1000000
  lost : 1 ≤ R.lost ∧ R.lost ≤ 1000000
structure DayOk (d : Day) : Prop where
  t0 : -300 ≤ d.tlo ∧ d.tlo ≤ 600
  t1 : -300 ≤ d.thi ∧ d.thi ≤ 600
  d0 : 0 ≤ d.dlo ∧ d.dlo ≤ 1000
  d1 : 0 ≤ d.dhi ∧ d.dhi ≤ 1000
  t : d.tlo ≤ d.thi
  d : d.dlo ≤ d.dhi
theorem factor_rng {lo hi n : Int} {l : List Pt} (h : CurveOk lo hi l) (hn : FacOk lo hi n) : 0 ≤ factor l n ∧ factor l n ≤ 1000 := by
  have hl := h.len
  rw [factor]
  split
  · exact (h.rng (by omega)).2
  · split
    · exact (h.rng (by omega)).2
    · rename_i h1 h2
      have hg := ge_le l n
      have hb := interp_bounds h hn (k := ge l n - 1) (by omega) (ge_before (by omega))
      have r0 := (h.rng (k := ge l n - 1) (by omega)).2
      have r1 := (h.rng (k := ge l n) (by omega)).2
      have hat := ge_at (l := l) (n := n) (by omega)
      rw [show ge l n - 1 + 1 = ge l n by omega] at hb
      obtain ⟨b1, b2, b3, b4⟩ := hb
      rw [interp]
      have q0 := Int.ediv_nonneg b4.1 (show 0 ≤ (ptD l (ge l n)).at_ - (ptD l (ge l n - 1)).at_ by omega)
      have q1 : ((ptD l (ge l n)).fac - (ptD l (ge l n - 1)).fac) * (n - (ptD l (ge l n - 1)).at_) / ((ptD l (ge l n)).at_ - (ptD l (ge l n - 1)).at_) ≤ (ptD l (ge l n)).fac - (ptD l (ge l n - 1)).fac := by
        refine Int.ediv_le_of_le_mul (by omega) ?_
        exact Int.mul_le_mul_of_nonneg_left (by omega) b1.1
      omega
set_option maxRecDepth 100000 in
set_option maxHeartbeats 3200000 in
theorem strength_any {R : Rule} {hh hv : Sl} {d : Day} {w : World} (hR : RuleAt w R hh hv) (hk : RuleOk R) (hd : DayOk d) :
    Calls Try.prog 70 #[.agg #[.slice hh.a R.heat.length hh.cap, .slice hv.a R.wet.length hv.cap, .int .i64 R.own, .int .i64 R.feed, .int .i64 R.g0, .int .i64 R.g1, .int .i64 R.g2, .int .i64 R.lost], .agg #[.int .i64 d.tlo, .int .i64 d.thi, .int .i64 d.dlo, .int .i64 d.dhi]] w fun e w' => e = .returned (.agg #[.int .i64 (strength R d).lo, .int .i64 (strength R d).hi]) ∧ Below w.heap.size w w' := by
  obtain ⟨x0, hx0⟩ : ∃ x, x = factor R.heat d.tlo := ⟨_, rfl⟩
  obtain ⟨x1, hx1⟩ : ∃ x, x = factor R.wet d.dlo := ⟨_, rfl⟩
  obtain ⟨x2, hx2⟩ : ∃ x, x = factor R.heat d.thi := ⟨_, rfl⟩
  obtain ⟨x3, hx3⟩ : ∃ x, x = factor R.wet d.dhi := ⟨_, rfl⟩
  have n0 : FacOk (-300) 600 d.tlo := ⟨by omega, by omega, hd.t0.1, hd.t0.2⟩
  have n1 : FacOk 0 1000 d.dlo := ⟨by omega, by omega, hd.d0.1, hd.d0.2⟩
  have n2 : FacOk (-300) 600 d.thi := ⟨by omega, by omega, hd.t1.1, hd.t1.2⟩
  have n3 : FacOk 0 1000 d.dhi := ⟨by omega, by omega, hd.d1.1, hd.d1.2⟩
  have r0 := factor_rng hk.heat n0
  have r1 := factor_rng hk.wet n1
  have r2 := factor_rng hk.heat n2
  have r3 := factor_rng hk.wet n3
  rw [← hx0] at r0; rw [← hx1] at r1; rw [← hx2] at r2; rw [← hx3] at r3
  have m0 : 0 ≤ x0 * x1 ∧ x0 * x1 ≤ 1000 * 1000 := ⟨Int.mul_nonneg r0.1 r1.1, Int.mul_le_mul r0.2 r1.2 r1.1 (by omega)⟩
  have m1 : 0 ≤ x2 * x3 ∧ x2 * x3 ≤ 1000 * 1000 := ⟨Int.mul_nonneg r2.1 r3.1, Int.mul_le_mul r2.2 r3.2 r3.1 (by omega)⟩
  have hst : strength R d = ⟨x0 * x1 / 1000, x2 * x3 / 1000⟩ := by rw [strength, hx0, hx1, hx2, hx3]
  have C0 : ∀ W, Below w.heap.size w W → Calls Try.prog 99 #[.slice hh.a R.heat.length hh.cap, .int .i64 d.tlo] W fun e w' => e = .returned (.int .i64 x0) ∧ Below W.heap.size W w' := fun W h => by rw [hx0]; exact factor_any (hR.heat.below h) hk.heat n0
  have C1 : ∀ W, Below w.heap.size w W → Calls Try.prog 99 #[.slice hv.a R.wet.length hv.cap, .int .i64 d.dlo] W fun e w' => e = .returned (.int .i64 x1) ∧ Below W.heap.size W w' := fun W h => by rw [hx1]; exact factor_any (hR.wet.below h) hk.wet n1
  have C2 : ∀ W, Below w.heap.size w W → Calls Try.prog 99 #[.slice hh.a R.heat.length hh.cap, .int .i64 d.thi] W fun e w' => e = .returned (.int .i64 x2) ∧ Below W.heap.size W w' := fun W h => by rw [hx2]; exact factor_any (hR.heat.below h) hk.heat n2
  have C3 : ∀ W, Below w.heap.size w W → Calls Try.prog 99 #[.slice hv.a R.wet.length hv.cap, .int .i64 d.dhi] W fun e w' => e = .returned (.int .i64 x3) ∧ Below W.heap.size W w' := fun W h => by rw [hx3]; exact factor_any (hR.wet.below h) hk.wet n3
  have H0 := Lib.hid C0; have H1 := Lib.hid C1; have H2 := Lib.hid C2; have H3 := Lib.hid C3
  clear C0 C1 C2 C3 hR hk hd n0 n1 n2 n3 r0 r1 r2 r3 hx0 hx1 hx2 hx3
  rw [hst]; clear hst
  have t0 : (x0 * x1).tdiv 1000 = x0 * x1 / 1000 := Int.tdiv_eq_ediv_of_nonneg m0.1
  have t1 : (x2 * x3).tdiv 1000 = x2 * x3 / 1000 := Int.tdiv_eq_ediv_of_nonneg m1.1
  have u0 : IntKind.i64.wrap (x0 * x1) = x0 * x1 := IntWalk.i64_in _ (by omega)
  have u1 : IntKind.i64.wrap (x2 * x3) = x2 * x3 := IntWalk.i64_in _ (by omega)
  have v0 : IntKind.i64.wrap (x0 * x1 / 1000) = x0 * x1 / 1000 := IntWalk.i64_in _ (by omega)
  have v1 : IntKind.i64.wrap (x2 * x3 / 1000) = x2 * x3 / 1000 := IntWalk.i64_in _ (by omega)
  have m0' := m0.1; have m1' := m1.1
  clear m0 m1
  go_enter Try.func70, Try.ntmps70
  go_wp2_with (fail)
  have hS : ∀ W : World, Below (w.heap.size + 2) (((w.alloc (.cells #[.slice hh.a R.heat.length hh.cap, .slice hv.a R.wet.length hv.cap, .int .i64 R.own, .int .i64 R.feed, .int .i64 R.g0, .int .i64 R.g1, .int .i64 R.g2, .int .i64 R.lost] 25)).alloc (.cells #[.int .i64 d.tlo, .int .i64 d.thi, .int .i64 d.dlo, .int .i64 d.dhi] 48)).alloc (.cells #[.int .i64 0, .int .i64 0] 28)) W → (Below w.heap.size w W ∧ W.cell? ⟨w.heap.size, 0, none⟩ = some (.slice hh.a R.heat.length hh.cap) ∧ W.cell? ⟨w.heap.size, 1, none⟩ = some (.slice hv.a R.wet.length hv.cap) ∧ W.cell? ⟨w.heap.size + 1, 0, none⟩ = some (.int .i64 d.tlo) ∧ W.cell? ⟨w.heap.size + 1, 1, none⟩ = some (.int .i64 d.thi) ∧ W.cell? ⟨w.heap.size + 1, 2, none⟩ = some (.int .i64 d.dlo) ∧ W.cell? ⟨w.heap.size + 1, 3, none⟩ = some (.int .i64 d.dhi)) := by
    intro W h
    refine ⟨Below.trans (by repeat' (first | exact Below.refl _ _ | assumption | refine below_drewN ?_ _ | refine Below.drew ?_ | refine Below.alloc ?_ (by first | assumption | omega | (simp <;> omega)) _ | refine Below.setCell ?_ (by first | assumption | omega | (simp <;> omega)) _)) (h.mono (by omega)), ?_, ?_, ?_, ?_, ?_, ?_⟩
    · exact (h.cell (p := ⟨w.heap.size, 0, none⟩) (by simp)).trans (by go_simp)
    · exact (h.cell (p := ⟨w.heap.size, 1, none⟩) (by simp)).trans (by go_simp)
    · exact (h.cell (p := ⟨w.heap.size + 1, 0, none⟩) (by simp)).trans (by go_simp)
    · exact (h.cell (p := ⟨w.heap.size + 1, 1, none⟩) (by simp)).trans (by go_simp)
    · exact (h.cell (p := ⟨w.heap.size + 1, 2, none⟩) (by simp)).trans (by go_simp)
    · exact (h.cell (p := ⟨w.heap.size + 1, 3, none⟩) (by simp)).trans (by go_simp)
  have HS := Lib.hid hS; clear hS
  have hT : ∃ v0 v1 : Int, (((w.alloc (.cells #[.slice hh.a R.heat.length hh.cap, .slice hv.a R.wet.length hv.cap, .int .i64 R.own, .int .i64 R.feed, .int .i64 R.g0, .int .i64 R.g1, .int .i64 R.g2, .int .i64 R.lost] 25)).alloc (.cells #[.int .i64 d.tlo, .int .i64 d.thi, .int .i64 d.dlo, .int .i64 d.dhi] 48)).alloc (.cells #[.int .i64 0, .int .i64 0] 28)).heap[w.heap.size + 2]? = some (.cells #[.int .i64 v0, .int .i64 v1] 28 (0, 0)) := ⟨0, 0, by have := heap_alloc_new ((w.alloc (.cells #[.slice hh.a R.heat.length hh.cap, .slice hv.a R.wet.length hv.cap, .int .i64 R.own, .int .i64 R.feed, .int .i64 R.g0, .int .i64 R.g1, .int .i64 R.g2, .int .i64 R.lost] 25)).alloc (.cells #[.int .i64 d.tlo, .int .i64 d.thi, .int .i64 d.dlo, .int .i64 d.dhi] 48)) (.cells #[.int .i64 0, .int .i64 0] 28); simpa using this⟩
  have HT := Lib.hid hT; clear hT
  have hstep : ∀ W W1 : World, (Below (w.heap.size + 2) (((w.alloc (.cells #[.slice hh.a R.heat.length hh.cap, .slice hv.a R.wet.length hv.cap, .int .i64 R.own, .int .i64 R.feed, .int .i64 R.g0, .int .i64 R.g1, .int .i64 R.g2, .int .i64 R.lost] 25)).alloc (.cells #[.int .i64 d.tlo, .int .i64 d.thi, .int .i64 d.dlo, .int .i64 d.dhi] 48)).alloc (.cells #[.int .i64 0, .int .i64 0] 28)) W ∧ ∃ v0 v1 : Int, W.heap[w.heap.size + 2]? = some (.cells #[.int .i64 v0, .int .i64 v1] 28 (0, 0))) → Below W.heap.size W W1 → (Below (w.heap.size + 2) (((w.alloc (.cells #[.slice hh.a R.heat.length hh.cap, .slice hv.a R.wet.length hv.cap, .int .i64 R.own, .int .i64 R.feed, .int .i64 R.g0, .int .i64 R.g1, .int .i64 R.g2, .int .i64 R.lost] 25)).alloc (.cells #[.int .i64 d.tlo, .int .i64 d.thi, .int .i64 d.dlo, .int .i64 d.dhi] 48)).alloc (.cells #[.int .i64 0, .int .i64 0] 28)) W1 ∧ ∃ v0 v1 : Int, W1.heap[w.heap.size + 2]? = some (.cells #[.int .i64 v0, .int .i64 v1] 28 (0, 0))) := by
    rintro W W1 ⟨h, v0, v1, hv⟩ hb
    have hz := (Array.getElem?_eq_some_iff.1 hv).1
    exact ⟨h.trans (hb.mono (by omega)), v0, v1, (hb.block _ hz).trans hv⟩
  have HP := Lib.hid hstep; clear hstep
  have hcell : ∀ W : World, (∃ v0 v1 : Int, W.heap[w.heap.size + 2]? = some (.cells #[.int .i64 v0, .int .i64 v1] 28 (0, 0))) → ∃ v0 v1 : Int, W.cell? ⟨w.heap.size + 2, 0, none⟩ = some (.int .i64 v0) ∧ W.cell? ⟨w.heap.size + 2, 1, none⟩ = some (.int .i64 v1) ∧ W.frozen? ⟨w.heap.size + 2, 0, none⟩ = false ∧ W.frozen? ⟨w.heap.size + 2, 1, none⟩ = false := by
    rintro W ⟨v0, v1, hv⟩
    exact ⟨v0, v1, by simp [World.cell?, hv], by simp [World.cell?, hv], by simp [World.frozen?, hv], by simp [World.frozen?, hv]⟩
  have HCL := Lib.hid hcell; clear hcell
  have hst4 : ∀ W : World, (Below (w.heap.size + 2) (((w.alloc (.cells #[.slice hh.a R.heat.length hh.cap, .slice hv.a R.wet.length hv.cap, .int .i64 R.own, .int .i64 R.feed, .int .i64 R.g0, .int .i64 R.g1, .int .i64 R.g2, .int .i64 R.lost] 25)).alloc (.cells #[.int .i64 d.tlo, .int .i64 d.thi, .int .i64 d.dlo, .int .i64 d.dhi] 48)).alloc (.cells #[.int .i64 0, .int .i64 0] 28)) W ∧ ∃ v0 v1 : Int, W.heap[w.heap.size + 2]? = some (.cells #[.int .i64 v0, .int .i64 v1] 28 (0, 0))) → ∀ a b : Int, (Below (w.heap.size + 2) (((w.alloc (.cells #[.slice hh.a R.heat.length hh.cap, .slice hv.a R.wet.length hv.cap, .int .i64 R.own, .int .i64 R.feed, .int .i64 R.g0, .int .i64 R.g1, .int .i64 R.g2, .int .i64 R.lost] 25)).alloc (.cells #[.int .i64 d.tlo, .int .i64 d.thi, .int .i64 d.dlo, .int .i64 d.dhi] 48)).alloc (.cells #[.int .i64 0, .int .i64 0] 28)) ((W.setCell ⟨w.heap.size + 1 + 1, 0, none⟩ (.int .i64 a)).setCell ⟨w.heap.size + 1 + 1, 1, none⟩ (.int .i64 b)) ∧ ∃ v0 v1 : Int, ((W.setCell ⟨w.heap.size + 1 + 1, 0, none⟩ (.int .i64 a)).setCell ⟨w.heap.size + 1 + 1, 1, none⟩ (.int .i64 b)).heap[w.heap.size + 2]? = some (.cells #[.int .i64 v0, .int .i64 v1] 28 (0, 0))) := by
    rintro W ⟨h, v0, v1, hv⟩ a b
    exact ⟨(h.setCell (by simp) _).setCell (by simp) _, a, b, by simp [World.setCell, Array.getElem?_modify, hv]⟩
  have HST := Lib.hid hst4; clear hst4
  go_region_held3 (fun w' => Below (w.heap.size + 2) (((w.alloc (.cells #[.slice hh.a R.heat.length hh.cap, .slice hv.a R.wet.length hv.cap, .int .i64 R.own, .int .i64 R.feed, .int .i64 R.g0, .int .i64 R.g1, .int .i64 R.g2, .int .i64 R.lost] 25)).alloc (.cells #[.int .i64 d.tlo, .int .i64 d.thi, .int .i64 d.dlo, .int .i64 d.dhi] 48)).alloc (.cells #[.int .i64 0, .int .i64 0] 28)) w' ∧ (∃ v0 v1 : Int, w'.heap[w.heap.size + 2]? = some (.cells #[.int .i64 v0, .int .i64 v1] 28 (0, 0))) ∧ Below w.heap.size w w' ∧ w'.cell? ⟨w.heap.size, 0, none⟩ = some (.slice hh.a R.heat.length hh.cap) ∧ w'.cell? ⟨w.heap.size, 1, none⟩ = some (.slice hv.a R.wet.length hv.cap) ∧ w'.cell? ⟨w.heap.size + 1, 0, none⟩ = some (.int .i64 d.tlo) ∧ w'.cell? ⟨w.heap.size + 1, 1, none⟩ = some (.int .i64 d.thi) ∧ w'.cell? ⟨w.heap.size + 1, 2, none⟩ = some (.int .i64 d.dlo) ∧ w'.cell? ⟨w.heap.size + 1, 3, none⟩ = some (.int .i64 d.dhi))
    ((first | exact ⟨(Below.refl _ _).drew, HT.out, HS.out _ (Below.refl _ _).drew⟩ | exact ⟨q0.1, q0.2, HS.out _ q0.1⟩ | exact ⟨q1.1, q1.2, HS.out _ q1.1⟩ | exact ⟨q2.1, q2.2, HS.out _ q2.1⟩ | exact ⟨q3.1, q3.2, HS.out _ q3.1⟩ | exact ⟨(HST.out _ q3 _ _).1, (HST.out _ q3 _ _).2, HS.out _ (HST.out _ q3 _ _).1⟩))
    ((first
      | (go_at_call 99; go_split_ands; have _t := H0; refine (H0.out _ (by assumption)).mono ?_; clear H0; rintro e w1 ⟨rfl, hb1⟩; have q0 := HP.out _ _ ⟨by assumption, by assumption⟩ hb1)
      | (go_at_call 99; go_split_ands; have _t := H1; refine (H1.out _ (by assumption)).mono ?_; clear H1; rintro e w2 ⟨rfl, hb2⟩; have q1 := HP.out _ _ ⟨by assumption, by assumption⟩ hb2)
      | (go_at_call 99; go_split_ands; have _t := H2; refine (H2.out _ (by assumption)).mono ?_; clear H2; rintro e w3 ⟨rfl, hb3⟩; have q2 := HP.out _ _ ⟨by assumption, by assumption⟩ hb3)
      | (go_at_call 99; go_split_ands; have _t := H3; refine (H3.out _ (by assumption)).mono ?_; clear H3; rintro e w4 ⟨rfl, hb4⟩; have q3 := HP.out _ _ ⟨by assumption, by assumption⟩ hb4; obtain ⟨v0, v1, k0, k1, f0, f1⟩ := HCL.out _ q3.2)))
  go_wp2_with (fail)
  refine bodyPost_ret (v := .agg #[.int .i64 (x0 * x1 / 1000), .int .i64 (x2 * x3 / 1000)]) ?_ rfl ⟨rfl, (HS.out _ (HST.out _ q3 _ _).1).1⟩
  simp [results, Try.results70, go_sem, k0, k1]
end Go.Proofs.Ytfjbgcaogffiaaa
