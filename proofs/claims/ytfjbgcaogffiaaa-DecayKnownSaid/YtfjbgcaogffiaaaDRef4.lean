/-
  The reference's least, most, both, grade of the decay layer.
  The reference's Grade of the decay layer.
-/
import Derived.Test.YtfjbgcaogffiaaaDApi1
import Derived.Test.YtfjbgcaogffiaaaDOk
import Derived.Test.YtfjbgcaogffiaaaDRefA
import Derived.Test.YtfjbgcaogffiaaaDGradeA
namespace Go.Proofs.Ytfjbgcaogffiaaa
open Go.RowKit D
set_option linter.unusedVariables false
set_option linter.unusedSimpArgs false
attribute [local go_sem high] run_minI run_maxI
theorem least_any {R : Rule} {s : Span} {hh hv : Sl} (h : GrowOk R s) {n : Int} (n0 : 0 ≤ n) (n1 : n ≤ 1000000) (w : World) :
    Calls Try.prog 57 #[.agg #[.slice hh.a R.heat.length hh.cap, .slice hv.a R.wet.length hv.cap, .int .i64 R.own, .int .i64 R.feed, .int .i64 R.g0, .int .i64 R.g1, .int .i64 R.g2, .int .i64 R.lost], .agg #[.int .i64 s.lo, .int .i64 s.hi], .int .i64 n] w fun e w' =>
      e = .returned (.int .i64 (least R s n)) ∧ Below w.heap.size w w' := by
  obtain ⟨⟨a0, a1⟩, ⟨b0, b1⟩, ⟨c0, c1⟩⟩ := grow_bounds h n0 n1
  obtain ⟨o0, o1, f0, f1, l0, l1, s0, s1⟩ := h
  go_enter Try.func57, Try.ntmps57
  go_wp2
  go_ret
  exact ⟨ret_int (by rw [least]), by repeat' (first | exact Below.refl _ _ | assumption | refine below_drewN ?_ _ | refine Below.drew ?_ | refine Below.alloc ?_ (by first | assumption | omega | (simp <;> omega)) _ | refine Below.setCell ?_ (by first | assumption | omega | (simp <;> omega)) _)⟩
theorem most_any {R : Rule} {s : Span} {hh hv : Sl} (h : GrowOk R s) {n : Int} (n0 : 0 ≤ n) (n1 : n ≤ 1000000) (w : World) :
    Calls Try.prog 58 #[.agg #[.slice hh.a R.heat.length hh.cap, .slice hv.a R.wet.length hv.cap, .int .i64 R.own, .int .i64 R.feed, .int .i64 R.g0, .int .i64 R.g1, .int .i64 R.g2, .int .i64 R.lost], .agg #[.int .i64 s.lo, .int .i64 s.hi], .int .i64 n] w fun e w' =>
      e = .returned (.int .i64 (most R s n)) ∧ Below w.heap.size w w' := by
  obtain ⟨⟨a0, a1⟩, ⟨b0, b1⟩, ⟨c0, c1⟩⟩ := grow_bounds h n0 n1
  obtain ⟨o0, o1, f0, f1, l0, l1, s0, s1⟩ := h
  go_enter Try.func58, Try.ntmps58
  go_wp2
  go_ret
  exact ⟨ret_int (by rw [most]), by repeat' (first | exact Below.refl _ _ | assumption | refine below_drewN ?_ _ | refine Below.drew ?_ | refine Below.alloc ?_ (by first | assumption | omega | (simp <;> omega)) _ | refine Below.setCell ?_ (by first | assumption | omega | (simp <;> omega)) _)⟩
theorem both_any (alo ahi blo bhi : Int) (w : World) :
    Calls Try.prog 90 #[.agg #[.int .i64 alo, .int .i64 ahi], .agg #[.int .i64 blo, .int .i64 bhi]] w fun e w' =>
      e = .returned (.agg #[.int .i64 (max alo blo), .int .i64 (min ahi bhi)]) ∧ Below w.heap.size w w' := by
  go_enter Try.func90, Try.ntmps90
  go_wp2
  exact bodyPost_ret (v := .agg #[.int .i64 (max alo blo), .int .i64 (min ahi bhi)]) (by simp [results, Try.results90, go_sem]) rfl ⟨rfl, by repeat' (first | exact Below.refl _ _ | assumption | refine below_drewN ?_ _ | refine Below.drew ?_ | refine Below.alloc ?_ (by first | assumption | omega | (simp <;> omega)) _ | refine Below.setCell ?_ (by first | assumption | omega | (simp <;> omega)) _)⟩
def cntTo (R : Rule) (n : Int) : Nat → Int
  | 0 => 0
  | k + 1 => cntTo R n k + b1 (R.gr k ≤ n)
theorem cntTo_3 (R : Rule) (n : Int) : cntTo R n 3 = grade R n := by
  show 0 + b1 (R.g0 ≤ n) + b1 (R.g1 ≤ n) + b1 (R.g2 ≤ n) = _
  rw [Int.zero_add]; rfl
theorem cntTo_rng (R : Rule) (n : Int) : ∀ k, 0 ≤ cntTo R n k ∧ cntTo R n k ≤ k
  | 0 => ⟨Int.le_refl _, Int.le_refl _⟩
  | k + 1 => by
    have := cntTo_rng R n k
    rw [cntTo, b1]; split <;> omega
set_option maxHeartbeats 800000 in
theorem gradeR_any {R : Rule} {hh hv : Sl} (n : Int) (w : World) :
    Calls Try.prog 60 #[.agg #[.slice hh.a R.heat.length hh.cap, .slice hv.a R.wet.length hv.cap, .int .i64 R.own, .int .i64 R.feed, .int .i64 R.g0, .int .i64 R.g1, .int .i64 R.g2, .int .i64 R.lost], .int .i64 n] w fun e w' => e = .returned (.int .i64 (grade R n)) ∧ Below w.heap.size w w' := by
  go_enter Try.func60, Try.ntmps60
  go_wp2_with (fail)
  go_loop [5, 6] (fun g i => ∃ k : Nat, k ≤ 3 ∧ i = .int .i64 k ∧ g = .int .i64 (cntTo R n k)) (fun _ i => 3 - (intOf i).toNat)
  case atStart => exact ⟨0, by omega, rfl, rfl⟩
  case round =>
    obtain ⟨k, hk, rfl, rfl⟩ := hrel
    have hrg := cntTo_rng R n k
    obtain ⟨c, hc⟩ : ∃ c, c = cntTo R n k := ⟨_, rfl⟩
    rw [← hc] at hrg ⊢
    have HC := Lib.hid hc; clear hc
    rcases (by omega : k = 0 ∨ k = 1 ∨ k = 2 ∨ k = 3) with rfl | rfl | rfl | rfl
    · by_cases g : R.g0 ≤ n
      · go_wp2_with (fail)
        go_round
        case rel => exact ⟨1, by omega, by go_num, by rw [cntTo, ← HC.out, b1, gr0, if_pos g]⟩
        case measure => simp [intOf]
      · go_wp2_with (fail)
        go_round
        case rel => exact ⟨1, by omega, by go_num, by rw [cntTo, ← HC.out, b1, gr0, if_neg (by omega)]; go_num⟩
        case measure => simp [intOf]
    · by_cases g : R.g1 ≤ n
      · go_wp2_with (fail)
        go_round
        case rel => exact ⟨2, by omega, by go_num, by rw [cntTo, ← HC.out, b1, gr1, if_pos g]⟩
        case measure => simp [intOf]
      · go_wp2_with (fail)
        go_round
        case rel => exact ⟨2, by omega, by go_num, by rw [cntTo, ← HC.out, b1, gr1, if_neg (by omega)]; go_num⟩
        case measure => simp [intOf]
    · by_cases g : R.g2 ≤ n
      · go_wp2_with (fail)
        go_round
        case rel => exact ⟨3, by omega, by go_num, by rw [cntTo, ← HC.out, b1, gr2, if_pos g]⟩
        case measure => simp [intOf]
      · go_wp2_with (fail)
        go_round
        case rel => exact ⟨3, by omega, by go_num, by rw [cntTo, ← HC.out, b1, gr2, if_neg (by omega)]; go_num⟩
        case measure => simp [intOf]
    · go_wp2_with (fail)
      go_ret
      exact ⟨ret_int (by rw [HC.out, cntTo_3]), by repeat' (first | exact Below.refl _ _ | assumption | refine below_drewN ?_ _ | refine Below.drew ?_ | refine Below.alloc ?_ (by first | assumption | omega | (simp <;> omega)) _ | refine Below.setCell ?_ (by first | assumption | omega | (simp <;> omega)) _)⟩
end Go.Proofs.Ytfjbgcaogffiaaa
namespace Go.Proofs.Ytfjbgcaogffiaaa
open Go.RowKit D
set_option linter.unusedVariables false
set_option linter.unusedSimpArgs false
attribute [local go_sem high] run_minI run_maxI
set_option maxHeartbeats 800000 in
theorem gradeRef_any {R : Rule} {hh hv : Sl} {w : World} (hR : RuleAt w R hh hv) (n : Int) :
    Calls Try.prog 29 #[.agg #[.slice hh.a R.heat.length hh.cap, .slice hv.a R.wet.length hv.cap, .int .i64 R.own, .int .i64 R.feed, .int .i64 R.g0, .int .i64 R.g1, .int .i64 R.g2, .int .i64 R.lost], .int .i64 n] w fun e w' => e = .returned (.tuple #[.int .i64 (gradeV R n).1, .int .i64 (gradeV R n).2]) ∧ Below w.heap.size w w' := by
  have C : Calls Try.prog 36 #[.agg #[.slice hh.a R.heat.length hh.cap, .slice hv.a R.wet.length hv.cap, .int .i64 R.own, .int .i64 R.feed, .int .i64 R.g0, .int .i64 R.g1, .int .i64 R.g2, .int .i64 R.lost]] (w.alloc (ruleCells R hh hv)) _ := check_any (hR.below (below_alloc w _))
  obtain ⟨p1, p2, p3, hp⟩ : ∃ a b c, D.check R = (a, b, c) := ⟨_, _, _, rfl⟩
  rw [hp] at C
  have HC := Lib.hid C; clear C hR
  have hg : gradeV R n = if p3 ≠ 0 then (0, p3) else if n < 0 ∨ 1000000 < n then (0, 7) else (grade R n, 0) := by rw [gradeV, hp]
  clear hp
  have hcells : ∀ W, Below (w.heap.size + 1) (w.alloc (ruleCells R hh hv)) W → W.cell? ⟨w.heap.size, 0, none⟩ = some (.slice hh.a R.heat.length hh.cap) ∧ W.cell? ⟨w.heap.size, 1, none⟩ = some (.slice hv.a R.wet.length hv.cap) ∧ W.cell? ⟨w.heap.size, 2, none⟩ = some (.int .i64 R.own) ∧ W.cell? ⟨w.heap.size, 3, none⟩ = some (.int .i64 R.feed) ∧ W.cell? ⟨w.heap.size, 4, none⟩ = some (.int .i64 R.g0) ∧ W.cell? ⟨w.heap.size, 5, none⟩ = some (.int .i64 R.g1) ∧ W.cell? ⟨w.heap.size, 6, none⟩ = some (.int .i64 R.g2) ∧ W.cell? ⟨w.heap.size, 7, none⟩ = some (.int .i64 R.lost) := fun W hb => by
    have h := (hb.block w.heap.size (by omega)).trans (heap_alloc_new w _)
    simp [World.cell?, h, ruleCells]
  have HCE := Lib.hid hcells; clear hcells
  by_cases z1 : p3 = 0
  · subst z1
    by_cases z2 : inB n 0 1000000 = true
    · have z3 := inB_of z2
      have H : Hid (gradeV R n = (grade R n, 0)) := by show _ = _; rw [hg, if_neg (fun h => h rfl), if_neg (by omega)]
      clear hg
      go_enter Try.func29, Try.ntmps29
      go_wp2_with (fail)
      refine HC.out.mono ?_
      rintro e w1 ⟨rfl, hb⟩
      have G1 : Below (w.heap.size + 1) (w.alloc (ruleCells R hh hv)) w1 := hb.mono (by simp)
      have B1 : Below w.heap.size w w1 := (below_alloc w _).trans (hb.mono (by simp))
      clear hb
      obtain ⟨k0, k1, k2, k3, k4, k5, k6, k7⟩ := HCE.out _ G1
      go_wp2_with (go_at_call 59; refine (level_any _ _).mono ?_; rintro e w' ⟨rfl, rfl⟩)
      refine (gradeR_any n _).mono ?_
      rintro e w2 ⟨rfl, hb⟩
      have B2 := below_trans B1 hb
      go_wp2_with (fail)
      go_ret2
      rw [H.out]
      exact ⟨rfl, B2⟩
    · have z3 := inB_not (by simpa using z2)
      have H : Hid (gradeV R n = (0, 7)) := by show _ = _; rw [hg, if_neg (fun h => h rfl), if_pos (by omega)]
      clear hg
      go_enter Try.func29, Try.ntmps29
      go_wp2_with (fail)
      refine HC.out.mono ?_
      rintro e w1 ⟨rfl, hb⟩
      have B1 : Below w.heap.size w w1 := (below_alloc w _).trans (hb.mono (by simp))
      clear hb
      go_wp2_with (go_at_call 59; refine (level_any _ _).mono ?_; rintro e w' ⟨rfl, rfl⟩)
      go_ret2
      rw [H.out]
      exact ⟨rfl, B1⟩
  · have H : Hid (gradeV R n = (0, p3)) := by show _ = _; rw [hg, if_pos z1]
    have b1 : (p3 != 0) = true := by simpa using z1
    have b2 : (p3 == 0) = false := by simpa using z1
    clear hg
    go_enter Try.func29, Try.ntmps29
    go_wp2_with (fail)
    refine HC.out.mono ?_
    rintro e w1 ⟨rfl, hb⟩
    have B1 : Below w.heap.size w w1 := (below_alloc w _).trans (hb.mono (by simp))
    clear hb
    go_wp2_with (fail)
    go_ret2
    rw [H.out]
    exact ⟨rfl, B1⟩
end Go.Proofs.Ytfjbgcaogffiaaa
