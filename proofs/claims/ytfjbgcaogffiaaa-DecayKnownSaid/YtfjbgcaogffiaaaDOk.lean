/-
  What a check that finds nothing says of a rule and of a task.
-/
import Derived.Test.YtfjbgcaogffiaaaDStrength
import Derived.Test.YtfjbgcaogffiaaaDKeep
namespace Go.Proofs.Ytfjbgcaogffiaaa
open Go.RowKit D
theorem check_ok {R : Rule} (h : (check R).2.2 = 0) : RuleOk R ∧ check R = (0, 0, 0) := by
  have h' := h
  rw [check] at h
  split at h
  · rename_i h1; exact absurd h h1
  · rename_i h1
    split at h
    · rename_i h2; exact absurd h h2
    · rename_i h2
      split at h
      · cases h
      · rename_i h3
        split at h
        · rename_i h4; exact absurd h h4
        · rename_i h4
          split at h
          · cases h
          · rename_i h5
            have z1 := Classical.not_not.1 h1
            have z2 := Classical.not_not.1 h2
            have z3 := Classical.not_not.1 h3
            have z4 := Classical.not_not.1 h4
            have z5 := Classical.not_not.1 h5
            have g : ∀ j, j < 3 → badGrade R j = 0 := fun j hj => firstBad_zero z4 j (by omega) (by omega)
            have r0 := badGrade_rng (g 0 (by omega))
            have r1 := badGrade_rng (g 1 (by omega))
            have r2 := badGrade_rng (g 2 (by omega))
            have s1 := g 1 (by omega)
            have s2 := g 2 (by omega)
            simp only [gr0, gr1, gr2] at r0 r1 r2
            have t1 : R.g0 < R.g1 := by
              rw [badGrade, if_pos (by simpa only [gr1] using r1)] at s1
              split at s1
              · cases s1
              · rename_i q; simp only [gr1, gr0, Nat.sub_self] at q; omega
            have t2 : R.g1 < R.g2 := by
              rw [badGrade, if_pos (by simpa only [gr2] using r2)] at s2
              split at s2
              · cases s2
              · rename_i q; simp only [gr1, gr2, Nat.reduceSub] at q; omega
            refine ⟨⟨curveOk_of z1, curveOk_of z2, z3.1, z3.2, r0, ⟨t1, r1.2⟩, ⟨t2, r2.2⟩, z5⟩, ?_⟩
            rw [check, if_neg h1, if_neg h2, if_neg h3, if_neg h4, if_neg h5]
theorem day_ok {d : Day} (h : climateE d = 0) : DayOk d := by
  rw [climateE] at h
  split at h
  · rename_i g
    split at h
    · cases h
    · rename_i g2
      exact ⟨g.1.1.1, g.1.1.2, g.1.2, g.2, by omega, by omega⟩
  · cases h
theorem levels_ok {lo hi : Int} (h : levelsE lo hi = 0) : (0 ≤ lo ∧ lo ≤ 1000000) ∧ (0 ≤ hi ∧ hi ≤ 1000000) ∧ lo ≤ hi := by
  rw [levelsE] at h
  split at h
  · rename_i g
    split at h
    · cases h
    · exact ⟨g.1, g.2, by omega⟩
  · cases h
structure TaskOk (T : Task) : Prop where
  rule : RuleOk T.rule
  nd : T.days.length ≤ 400
  nt : T.tests.length ≤ 20
  first : 0 ≤ T.first ∧ T.first + T.days.length ≤ 80000
  days : ∀ j, j < T.days.length → DayOk (dayD T.days j)
  start : (0 ≤ T.start.lo ∧ T.start.lo ≤ 1000000) ∧ (0 ≤ T.start.hi ∧ T.start.hi ≤ 1000000) ∧ T.start.lo ≤ T.start.hi
  tests : ∀ j, j < T.tests.length → TestOk (testD T.tests j) ∧ T.first ≤ (testD T.tests j).day ∧ (testD T.tests j).day ≤ T.first + T.days.length
theorem task_ok {T : Task} (h : (checkTask T).2.2 = 0) : TaskOk T ∧ checkTask T = (0, 0, 0) := by
  have h' := h
  rw [checkTask] at h
  split at h
  · rename_i h1; exact absurd h h1
  · rename_i h1
    split at h
    · cases h
    · rename_i h2
      split at h
      · cases h
      · rename_i h3
        split at h
        · rename_i h4; exact absurd h h4
        · rename_i h4
          split at h
          · rename_i h5; exact absurd h h5
          · rename_i h5
            split at h
            · rename_i h6; exact absurd h h6
            · rename_i h6
              have z1 := Classical.not_not.1 h1
              have z3 := Classical.not_not.1 h3
              have z4 := Classical.not_not.1 h4
              have z5 := Classical.not_not.1 h5
              have z6 := Classical.not_not.1 h6
              refine ⟨⟨(check_ok z1).1, by omega, by omega, ⟨z3.1.1, z3.2⟩, fun j hj => day_ok (firstBad_zero z4 j (by omega) (by omega)), levels_ok z5, fun j hj => ?_⟩, ?_⟩
              · have hb := firstBad_zero z6 j (by omega) (by omega)
                rw [badTest] at hb
                split at hb
                · rename_i g; exact ⟨⟨g.1.2, g.2⟩, g.1.1⟩
                · cases hb
              · rw [checkTask, if_neg h1, if_neg h2, if_neg h3, if_neg h4, if_neg h5, if_neg h6]
theorem grow_ok {R : Rule} {d : Day} (hR : RuleOk R) (hd : DayOk d) : GrowOk R (strength R d) := by
  have n0 : FacOk (-300) 600 d.tlo := ⟨by omega, by omega, hd.t0.1, hd.t0.2⟩
  have n1 : FacOk 0 1000 d.dlo := ⟨by omega, by omega, hd.d0.1, hd.d0.2⟩
  have n2 : FacOk (-300) 600 d.thi := ⟨by omega, by omega, hd.t1.1, hd.t1.2⟩
  have n3 : FacOk 0 1000 d.dhi := ⟨by omega, by omega, hd.d1.1, hd.d1.2⟩
  have r0 := factor_rng hR.heat n0
  have r1 := factor_rng hR.wet n1
  have r2 := factor_rng hR.heat n2
  have r3 := factor_rng hR.wet n3
  have m0 : 0 ≤ factor R.heat d.tlo * factor R.wet d.dlo ∧ factor R.heat d.tlo * factor R.wet d.dlo ≤ 1000 * 1000 := ⟨Int.mul_nonneg r0.1 r1.1, Int.mul_le_mul r0.2 r1.2 r1.1 (by omega)⟩
  have m1 : 0 ≤ factor R.heat d.thi * factor R.wet d.dhi ∧ factor R.heat d.thi * factor R.wet d.dhi ≤ 1000 * 1000 := ⟨Int.mul_nonneg r2.1 r3.1, Int.mul_le_mul r2.2 r3.2 r3.1 (by omega)⟩
  have s0 := hR.own; have s1 := hR.feed
  exact ⟨s0.1, s0.2, s1.1, s1.2, by rw [strength]; show 0 ≤ _ / 1000; omega, by rw [strength]; show _ / 1000 ≤ _; omega, by rw [strength]; show 0 ≤ _ / 1000; omega, by rw [strength]; show _ / 1000 ≤ _; omega⟩
end Go.Proofs.Ytfjbgcaogffiaaa
