/-
  decay's reel in memory; keep: the levels that keep to a test.
-/
import Derived.Test.YtfjbgcaogffiaaaDStrength
import Derived.Test.YtfjbgcaogffiaaaDApi1
namespace Go.Proofs.Ytfjbgcaogffiaaa
open Go.RowKit D
set_option linter.unusedVariables false
set_option linter.unusedSimpArgs false
attribute [local go_sem high] run_minI run_maxI
def reelO (T : Task) (s : TSl) (f : Sl) (n : Nat) : Obj := .cells #[.slice s.h.a T.rule.heat.length s.h.cap, .slice s.w.a T.rule.wet.length s.w.cap, .int .i64 T.rule.own, .int .i64 T.rule.feed, .int .i64 T.rule.g0, .int .i64 T.rule.g1, .int .i64 T.rule.g2, .int .i64 T.rule.lost,
  .slice s.h.a T.rule.heat.length s.h.cap, .slice s.w.a T.rule.wet.length s.w.cap, .int .i64 T.rule.own, .int .i64 T.rule.feed, .int .i64 T.rule.g0, .int .i64 T.rule.g1, .int .i64 T.rule.g2, .int .i64 T.rule.lost, .int .i64 T.first, .slice s.d.a T.days.length s.d.cap, .int .i64 T.start.lo, .int .i64 T.start.hi, .slice s.t.a T.tests.length s.t.cap, .slice f.a n f.cap] 108 (0, 0)
theorem gr_at {w : World} {B : Nat} {T : Task} {s : TSl} {f : Sl} {n : Nat} (h : w.heap[B]? = some (reelO T s f n)) {i : Nat} (hi : i < 3) : w.cell? ⟨B, 4 + i, none⟩ = some (.int .i64 (T.rule.gr i)) := by
  rcases (by omega : i = 0 ∨ i = 1 ∨ i = 2) with rfl | rfl | rfl <;> simp [World.cell?, h, reelO, Rule.gr]
structure TestOk (x : Test) : Prop where
  g : 0 ≤ x.grade ∧ x.grade ≤ 3
  e : 0 ≤ x.err ∧ x.err ≤ 3
set_option maxRecDepth 100000 in
set_option maxHeartbeats 800000 in
theorem keep_any {B : Nat} {T : Task} {s : TSl} {f : Sl} {n : Nat} {x : Test} {w : World} (hB : w.heap[B]? = some (reelO T s f n)) (hx : TestOk x) (hr : RuleOk T.rule) :
    Calls Try.prog 80 #[.pointer (some ⟨B, 0, none⟩), .agg #[.int .i64 x.day, .int .i64 x.grade, .int .i64 x.err]] w fun e w' => e = .returned (.agg #[.int .i64 (keep T.rule x).lo, .int .i64 (keep T.rule x).hi]) ∧ Below w.heap.size w w' := by
  obtain ⟨⟨a0, a1⟩, ⟨b0, b1⟩⟩ := hx
  have hlt : B < w.heap.size := (Array.getElem?_eq_some_iff.1 hB).1
  have hlt1 : B < w.heap.size + 1 := by omega
  have hlt2 : B < w.heap.size + 1 + 1 := by omega
  have hlt3 : ¬ B = w.heap.size := by omega
  have hlt4 : ¬ B = w.heap.size + 1 := by omega
  have hlt5 : ¬ B = w.heap.size + 1 + 1 := by omega
  have g0 := hr.g0; have g1 := hr.g1; have g2 := hr.g2
  have grr : ∀ i, 1 ≤ T.rule.gr i ∧ T.rule.gr i ≤ 1000000 := fun i => by
    match i with
    | 0 => exact g0
    | 1 => exact ⟨by simp only [gr1]; omega, g1.2⟩
    | k + 2 => exact ⟨by show 1 ≤ T.rule.g2; omega, g2.2⟩
  clear g0 g1 g2 hr
  obtain ⟨xlo, hxlo⟩ : ∃ v, v = (keep T.rule x).lo := ⟨_, rfl⟩
  obtain ⟨xhi, hxhi⟩ : ∃ v, v = (keep T.rule x).hi := ⟨_, rfl⟩
  rw [← hxlo, ← hxhi]
  by_cases h1 : x.err < x.grade
  · by_cases h2 : x.grade + x.err < 3
    · skip
      have e1 : xlo = T.rule.gr ((x.grade - x.err).toNat - 1) := by rw [hxlo, keep, show (x.grade - x.err).toNat - 1 = (x.grade - x.err - 1).toNat by omega]; exact if_neg (by omega)
      have c1 := gr_at hB (i := (x.grade - x.err).toNat - 1) (by omega)
      rw [← e1] at c1
      have i1 : (0 : Int) ≤ x.grade - x.err - 1 := by omega
      have i2 : x.grade - x.err - 1 < 3 := by omega
      have i3 : (1 : Int) ≤ x.grade - x.err := by omega
      clear e1
      have e2 : xhi = T.rule.gr (x.grade + x.err).toNat - 1 := by rw [hxhi, keep]; exact if_neg (by omega)
      have c2 := gr_at hB (i := (x.grade + x.err).toNat) (by omega)
      have gq := grr (x.grade + x.err).toNat
      obtain ⟨z, hz⟩ : ∃ z, z = T.rule.gr (x.grade + x.err).toNat := ⟨_, rfl⟩
      rw [← hz] at c2 e2 gq
      have E2 := Lib.hid e2
      have j1 : (0 : Int) ≤ x.grade + x.err := by omega
      clear e2 hz
      clear hxlo hxhi grr hB
      go_enter Try.func80, Try.ntmps80
      go_wp2

      refine bodyPost_ret (v := .agg #[.int .i64 (xlo), .int .i64 (z - 1)]) ?_ rfl ⟨?_, by repeat' (first | exact Below.refl _ _ | assumption | refine below_drewN ?_ _ | refine Below.drew ?_ | refine Below.alloc ?_ (by first | assumption | omega | (simp <;> omega)) _ | refine Below.setCell ?_ (by first | assumption | omega | (simp <;> omega)) _)⟩
      · simp [results, Try.results80, go_sem]
      · rw [E2.out]
    · skip
      have e1 : xlo = T.rule.gr ((x.grade - x.err).toNat - 1) := by rw [hxlo, keep, show (x.grade - x.err).toNat - 1 = (x.grade - x.err - 1).toNat by omega]; exact if_neg (by omega)
      have c1 := gr_at hB (i := (x.grade - x.err).toNat - 1) (by omega)
      rw [← e1] at c1
      have i1 : (0 : Int) ≤ x.grade - x.err - 1 := by omega
      have i2 : x.grade - x.err - 1 < 3 := by omega
      have i3 : (1 : Int) ≤ x.grade - x.err := by omega
      clear e1
      have e2 : xhi = 1000000 := by rw [hxhi, keep]; exact if_pos (by omega)
      have E2 := Lib.hid e2; clear e2
      clear hxlo hxhi grr hB
      go_enter Try.func80, Try.ntmps80
      go_wp2
      refine bodyPost_ret (v := .agg #[.int .i64 (xlo), .int .i64 (1000000)]) ?_ rfl ⟨?_, by repeat' (first | exact Below.refl _ _ | assumption | refine below_drewN ?_ _ | refine Below.drew ?_ | refine Below.alloc ?_ (by first | assumption | omega | (simp <;> omega)) _ | refine Below.setCell ?_ (by first | assumption | omega | (simp <;> omega)) _)⟩
      · simp [results, Try.results80, go_sem]
      · rw [E2.out]
  · by_cases h2 : x.grade + x.err < 3
    · skip
      have e1 : xlo = 0 := by rw [hxlo, keep]; exact if_pos (by omega)
      have E1 := Lib.hid e1; clear e1
      have e2 : xhi = T.rule.gr (x.grade + x.err).toNat - 1 := by rw [hxhi, keep]; exact if_neg (by omega)
      have c2 := gr_at hB (i := (x.grade + x.err).toNat) (by omega)
      have gq := grr (x.grade + x.err).toNat
      obtain ⟨z, hz⟩ : ∃ z, z = T.rule.gr (x.grade + x.err).toNat := ⟨_, rfl⟩
      rw [← hz] at c2 e2 gq
      have E2 := Lib.hid e2
      have j1 : (0 : Int) ≤ x.grade + x.err := by omega
      clear e2 hz
      clear hxlo hxhi grr hB
      go_enter Try.func80, Try.ntmps80
      go_wp2
      refine bodyPost_ret (v := .agg #[.int .i64 (0), .int .i64 (z - 1)]) ?_ rfl ⟨?_, by repeat' (first | exact Below.refl _ _ | assumption | refine below_drewN ?_ _ | refine Below.drew ?_ | refine Below.alloc ?_ (by first | assumption | omega | (simp <;> omega)) _ | refine Below.setCell ?_ (by first | assumption | omega | (simp <;> omega)) _)⟩
      · simp [results, Try.results80, go_sem]
      · rw [E1.out, E2.out]
    · skip
      have e1 : xlo = 0 := by rw [hxlo, keep]; exact if_pos (by omega)
      have E1 := Lib.hid e1; clear e1
      have e2 : xhi = 1000000 := by rw [hxhi, keep]; exact if_pos (by omega)
      have E2 := Lib.hid e2; clear e2
      clear hxlo hxhi grr hB
      go_enter Try.func80, Try.ntmps80
      go_wp2
      refine bodyPost_ret (v := .agg #[.int .i64 (0), .int .i64 (1000000)]) ?_ rfl ⟨?_, by repeat' (first | exact Below.refl _ _ | assumption | refine below_drewN ?_ _ | refine Below.drew ?_ | refine Below.alloc ?_ (by first | assumption | omega | (simp <;> omega)) _ | refine Below.setCell ?_ (by first | assumption | omega | (simp <;> omega)) _)⟩
      · simp [results, Try.results80, go_sem]
      · rw [E1.out, E2.out]
end Go.Proofs.Ytfjbgcaogffiaaa
