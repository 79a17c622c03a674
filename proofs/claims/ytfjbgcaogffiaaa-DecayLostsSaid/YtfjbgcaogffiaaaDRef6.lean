/-
  The reference's Grade of the decay layer.
-/
import Derived.Test.YtfjbgcaogffiaaaDRefA
import Derived.Test.YtfjbgcaogffiaaaDRef4
import Derived.Test.YtfjbgcaogffiaaaDGradeA
namespace Go.Proofs.Ytfjbgcaogffiaaa
open Go.RowKit D
set_option linter.unusedVariables false
set_option linter.unusedSimpArgs false
attribute [local go_sem high] run_minI run_maxI
set_option maxHeartbeats 800000 in
theorem gradeRef_any {R : Rule} {hh hv : Sl} {w : World} (hR : RuleAt w R hh hv) (n : Int) :
    Calls Try.prog 29 #[.agg #[.slice hh.a R.heat.length hh.cap, .slice hv.a R.wet.length hv.cap, .int .i64 R.own, .int .i64 R.feed, .int .i64 R.g0, .int .i64 R.g1, .int .i64 R.g2, .int .i64 R.lost], .int .i64 n] w fun e w' => e = .returned (.tuple #[.int .i64 (gradeV R n).1, .int .i64 (gradeV R n).2]) ∧ Below w.heap.size w w' := by
  have C : Calls Try.prog 36 #[.agg #[.slice hh.a R.heat.length hh.cap, .slice hv.a R.wet.length hv.cap, .int .i64 R.own, .int .i64 R.feed, .int .i64 R.g0, .int .i64 R.g1, .int .i64 R.g2, .int .i64 R.lost]] (w.alloc (ruleCells R hh hv)) _ := check_any (hR.below (below_alloc w _))
  obtain ⟨p1, p2, p3, hp⟩ : ∃ a b c, D.check R = (a, b, c) := ⟨_, _, _, rfl⟩
  rw [hp] at C
  have HC := Lib.hid C; clear C hR
  have hg : gradeV R n = if p3 ≠ 0 then (0, p3) else if n < 0 ∨ 1000000 < n then (0, 7) else (grade R n, 0) := by rw [gradeV, hp]
  clear hp
  have hcells : ∀ W, Below (w.heap.size + 1) (w.alloc (ruleCells R hh hv)) W → W.cell? ⟨w.heap.size, 0, none⟩ = some (.slice hh.a R.heat.length hh.cap) ∧ W.cell? ⟨w.heap.size, 1, none⟩ = some (.slice hv.a R.wet.length hv.cap) ∧ W.cell? ⟨w.heap.size, 2, none⟩ = some (.int .i64 R.own) ∧ W.cell? ⟨w.heap.size, 3, none⟩ = some (.int .i64 R.feed) ∧ W.cell? ⟨w.heap.size, 4, none⟩ = some (.int .i64 R.g0) ∧ W.cell? ⟨w.heap.size, 5, none⟩ = some (.int .i64 R.g1) ∧ W.cell? ⟨w.heap.size, 6, none⟩ = some (.int .i64 R.g2) ∧ W.cell? ⟨w.heap.size, 7, none⟩ = some (.int .i64 R.lost) := fun W hb => by
    have h := (hb.block w.heap.size (by omega)).trans (heap_alloc_new w _)
    simp [World.cell?, h, ruleCells]
  have HCE := Lib.hid hcells; clear hcells
  by_cases z1 : p3 = 0
  · subst z1
    by_cases z2 : inB n 0 1000000 = true
    · have z3 := inB_of z2
      have H : Hid (gradeV R n = (grade R n, 0)) := by show _ = _; rw [hg, if_neg (fun h => h rfl), if_neg (by omega)]
      clear hg
      go_enter Try.func29, Try.ntmps29
      go_wp2_with (fail)
      refine HC.out.mono ?_
      rintro e w1 ⟨rfl, hb⟩
      have G1 : Below (w.heap.size + 1) (w.alloc (ruleCells R hh hv)) w1 := hb.mono (by simp)
      have B1 : Below w.heap.size w w1 := (below_alloc w _).trans (hb.mono (by simp))
      clear hb
      obtain ⟨k0, k1, k2, k3, k4, k5, k6, k7⟩ := HCE.out _ G1
      go_wp2_with (go_at_call 59; refine (level_any _ _).mono ?_; rintro e w' ⟨rfl, rfl⟩)
      refine (gradeR_any n _).mono ?_
      rintro e w2 ⟨rfl, hb⟩
      have B2 := below_trans B1 hb
      go_wp2_with (fail)
      go_ret2
      rw [H.out]
      exact ⟨rfl, B2⟩
    · have z3 := inB_not (by simpa using z2)
      have H : Hid (gradeV R n = (0, 7)) := by show _ = _; rw [hg, if_neg (fun h => h rfl), if_pos (by omega)]
      clear hg
      go_enter Try.func29, Try.ntmps29
      go_wp2_with (fail)
      refine HC.out.mono ?_
      rintro e w1 ⟨rfl, hb⟩
      have B1 : Below w.heap.size w w1 := (below_alloc w _).trans (hb.mono (by simp))
      clear hb
      go_wp2_with (go_at_call 59; refine (level_any _ _).mono ?_; rintro e w' ⟨rfl, rfl⟩)
      go_ret2
      rw [H.out]
      exact ⟨rfl, B1⟩
  · have H : Hid (gradeV R n = (0, p3)) := by show _ = _; rw [hg, if_pos z1]
    have b1 : (p3 != 0) = true := by simpa using z1
    have b2 : (p3 == 0) = false := by simpa using z1
    clear hg
    go_enter Try.func29, Try.ntmps29
    go_wp2_with (fail)
    refine HC.out.mono ?_
    rintro e w1 ⟨rfl, hb⟩
    have B1 : Below w.heap.size w w1 := (below_alloc w _).trans (hb.mono (by simp))
    clear hb
    go_wp2_with (fail)
    go_ret2
    rw [H.out]
    exact ⟨rfl, B1⟩
end Go.Proofs.Ytfjbgcaogffiaaa
