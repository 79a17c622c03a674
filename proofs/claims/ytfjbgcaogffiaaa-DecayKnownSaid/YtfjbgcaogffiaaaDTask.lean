/-
  decay.rule: the fault of a rule.
  decay.task: the fault of a task.
-/
import Derived.Test.YtfjbgcaogffiaaaDCaught
import Derived.Test.YtfjbgcaogffiaaaDMustA
namespace Go.Proofs.Ytfjbgcaogffiaaa
open Go.RowKit D
set_option linter.unusedVariables false
set_option linter.unusedSimpArgs false
attribute [local go_sem high] run_minI run_maxI
/-- The world in which a fault's variable has been made. -/
def faultCells : Obj := .cells #[.int .i64 0, .int .i64 0, .int .i64 0] 103 (0, 0)
theorem settle_done (v : Value) : settle (.panicking [{ v := v, recovered := true }]) = .returning := by simp [settle]
theorem rule_panics {fn : Func} (hres : fn.results = #[.cell 2 103]) {w w1 : World} {B : Nat} {part at_ e : Int} {c : Int × Int × Int} (hc : c = (part, at_, e)) {tmps : Array Value} (hB : w1.heap[B]? = some faultCells) (hb : Below w.heap.size w w1) (hBw : w.heap.size ≤ B) (ht : tmps.getD 2 undef = .pointer (some ⟨B, 0, none⟩)) :
    bodyPostD Try.prog fn (fun en w' => en = .returned (.agg #[.int .i64 c.1, .int .i64 c.2.1, .int .i64 c.2.2]) ∧ Below w.heap.size w w') (Exit.panic [{ v := .iface 103 (.agg #[.int .i64 part, .int .i64 at_, .int .i64 e]), recovered := false }])
      { tmps := tmps, defers := [{ target := Target.fn (Fn.func 68) #[], args := #[.pointer (some ⟨B, 0, none⟩)] }] } w1 := by
  subst hc
  refine leaves_cons (f := 68) (args := #[.pointer (some ⟨B, 0, none⟩)]) (by simp) (by simp [go_sem]) ?_
  refine (caught_panicking B part at_ e 0 0 0 [] w1 hB).mono ?_
  rintro e' u' w'' ⟨rfl, rfl, rfl⟩
  dsimp only
  rw [settle_done]
  have ht' : tmps[2]?.getD undef = .pointer (some ⟨B, 0, none⟩) := by rw [← ht, Array.getD_eq_getD_getElem?]
  have k0 : w1.cell? ⟨B, 0, none⟩ = some (.int .i64 0) := by simp [World.cell?, hB, faultCells]
  have k1 : w1.cell? ⟨B, 1, none⟩ = some (.int .i64 0) := by simp [World.cell?, hB, faultCells]
  have k2 : w1.cell? ⟨B, 2, none⟩ = some (.int .i64 0) := by simp [World.cell?, hB, faultCells]
  refine ⟨.agg #[.int .i64 part, .int .i64 at_, .int .i64 e], ?_, rfl, ((hb.setCell (by simpa using hBw) _).setCell (by simpa using hBw) _).setCell (by simpa using hBw) _⟩
  simp [results, hres, go_sem, ht', k0, k1, k2]
theorem rule_done {fn : Func} (hres : fn.results = #[.cell 2 103]) {w w1 : World} {B : Nat} {c : Int × Int × Int} (hc : c = (0, 0, 0)) {tmps : Array Value} (hB : w1.heap[B]? = some faultCells) (hb : Below w.heap.size w w1) (ht : tmps.getD 2 undef = .pointer (some ⟨B, 0, none⟩)) :
    Leaves Try.prog fn tmps (fun en w' => en = .returned (.agg #[.int .i64 c.1, .int .i64 c.2.1, .int .i64 c.2.2]) ∧ Below w.heap.size w w')
      [{ target := Target.fn (Fn.func 68) #[], args := #[.pointer (some ⟨B, 0, none⟩)] }] .returning w1 := by
  subst hc
  refine leaves_cons (f := 68) (args := #[.pointer (some ⟨B, 0, none⟩)]) (by simp) (by simp [go_sem]) ?_
  refine (caught_idle _ w1).mono ?_
  rintro e' u' w'' ⟨rfl, rfl, rfl⟩
  have ht' : tmps[2]?.getD undef = .pointer (some ⟨B, 0, none⟩) := by rw [← ht, Array.getD_eq_getD_getElem?]
  have k0 : w''.cell? ⟨B, 0, none⟩ = some (.int .i64 0) := by simp [World.cell?, hB, faultCells]
  have k1 : w''.cell? ⟨B, 1, none⟩ = some (.int .i64 0) := by simp [World.cell?, hB, faultCells]
  have k2 : w''.cell? ⟨B, 2, none⟩ = some (.int .i64 0) := by simp [World.cell?, hB, faultCells]
  refine ⟨.agg #[.int .i64 0, .int .i64 0, .int .i64 0], ?_, rfl, hb⟩
  simp [results, hres, go_sem, ht', k0, k1, k2]
theorem same_cells {w1 : World} {B : Nat} (hB : w1.heap[B]? = some faultCells) : (((w1.setCell ⟨B, 0, none⟩ (.int .i64 0)).setCell ⟨B, 1, none⟩ (.int .i64 0)).setCell ⟨B, 2, none⟩ (.int .i64 0)).heap[B]? = some faultCells := by
  simp [World.setCell, Array.getElem?_modify, hB, faultCells]
def ruleCells (R : Rule) (hh hv : Sl) : Obj := .cells #[.slice hh.a R.heat.length hh.cap, .slice hv.a R.wet.length hv.cap, .int .i64 R.own, .int .i64 R.feed, .int .i64 R.g0, .int .i64 R.g1, .int .i64 R.g2, .int .i64 R.lost] 25 (0, 0)
set_option maxRecDepth 100000 in
set_option maxHeartbeats 1600000 in
theorem rule_any {R : Rule} {hh hv : Sl} {w : World} (hR : RuleAt w R hh hv) :
    Calls Try.prog 62 #[.agg #[.slice hh.a R.heat.length hh.cap, .slice hv.a R.wet.length hv.cap, .int .i64 R.own, .int .i64 R.feed, .int .i64 R.g0, .int .i64 R.g1, .int .i64 R.g2, .int .i64 R.lost]] w fun e w' => e = .returned (.agg #[.int .i64 (D.check R).1, .int .i64 (D.check R).2.1, .int .i64 (D.check R).2.2]) ∧ Below w.heap.size w w' := by
  obtain ⟨i1, e1, h1⟩ : ∃ i e, D.curve R.heat (-300) 600 = (i, e) := ⟨_, _, rfl⟩
  obtain ⟨i2, e2, h2⟩ : ∃ i e, D.curve R.wet 0 1000 = (i, e) := ⟨_, _, rfl⟩
  have c1 : ∀ W : World, Below w.heap.size w W → Calls Try.prog 96 #[.int .i64 1, .slice hh.a R.heat.length hh.cap, .int .i64 (-300), .int .i64 600] W fun e w' => e = doneOr 1 i1 e1 ∧ Below W.heap.size W w' := fun W hb => by
    have := curveP 1 (-300) 600 (hR.heat.below hb) (by omega) (by omega); rw [h1] at this; exact this
  have c2 : ∀ W : World, Below w.heap.size w W → Calls Try.prog 96 #[.int .i64 2, .slice hv.a R.wet.length hv.cap, .int .i64 0, .int .i64 1000] W fun e w' => e = doneOr 2 i2 e2 ∧ Below W.heap.size W w' := fun W hb => by
    have := curveP 2 0 1000 (hR.wet.below hb) (by omega) (by omega); rw [h2] at this; exact this
  have C1 := Lib.hid c1; clear c1
  have C2 := Lib.hid c2; clear c2
  clear hR
  have hA : Below w.heap.size w ((w.alloc (ruleCells R hh hv)).alloc faultCells) := by repeat' (first | exact Below.refl _ _ | assumption | refine below_drewN ?_ _ | refine Below.drew ?_ | refine Below.alloc ?_ (by first | assumption | omega | (simp <;> omega)) _ | refine Below.setCell ?_ (by first | assumption | omega | (simp <;> omega)) _)
  have hheap : ∀ W, Below (w.heap.size + 2) ((w.alloc (ruleCells R hh hv)).alloc faultCells) W → W.heap[w.heap.size + 1]? = some faultCells ∧ W.heap[w.heap.size]? = some (ruleCells R hh hv) := fun W hb => by
    refine ⟨(hb.block _ (by omega)).trans ?_, (hb.block _ (by omega)).trans ?_⟩
    · have := heap_alloc_new (w.alloc (ruleCells R hh hv)) faultCells; rwa [World.size_alloc] at this
    · exact (Below.heap_alloc _ _ _ (by simp)).trans (heap_alloc_new w _)
  have HH := Lib.hid hheap; clear hheap
  have hfr : ∀ W, Below (w.heap.size + 2) ((w.alloc (ruleCells R hh hv)).alloc faultCells) W → Below w.heap.size w W := fun W hb => hA.trans (hb.mono (by omega))
  have HB0 := Lib.hid hfr; clear hfr
  have hcells : ∀ W, Below (w.heap.size + 2) ((w.alloc (ruleCells R hh hv)).alloc faultCells) W → W.cell? ⟨w.heap.size, 1, none⟩ = some (.slice hv.a R.wet.length hv.cap) ∧ W.cell? ⟨w.heap.size, 2, none⟩ = some (.int .i64 R.own) ∧ W.cell? ⟨w.heap.size, 3, none⟩ = some (.int .i64 R.feed) ∧ W.cell? ⟨w.heap.size, 4, none⟩ = some (.int .i64 R.g0) ∧ W.cell? ⟨w.heap.size, 5, none⟩ = some (.int .i64 R.g1) ∧ W.cell? ⟨w.heap.size, 6, none⟩ = some (.int .i64 R.g2) ∧ W.cell? ⟨w.heap.size, 7, none⟩ = some (.int .i64 R.lost) := fun W hb => by
    have h := (HH.out W hb).2
    simp [World.cell?, h, ruleCells]
  have HC := Lib.hid hcells; clear hcells
  by_cases z1 : e1 = 0
  · subst z1
    by_cases z2 : e2 = 0
    · subst z2
      by_cases g1 : 0 ≤ R.own ∧ R.own ≤ 100000
      · by_cases g2 : 0 ≤ R.feed ∧ R.feed ≤ 999999
        · have hp : Part3 R := ⟨by rw [h1], by rw [h2], g1, g2⟩
          have HP := Lib.hid hp; clear hp
          clear h1 h2
          go_enter_defers Try.func62, Try.ntmps62
          go_wp2_with (fail)
          refine (C1.out _ hA).mono ?_
          rintro e w1 ⟨rfl, hb⟩
          rw [doneOr_0]
          have Bw1 : Below (w.heap.size + 2) ((w.alloc (ruleCells R hh hv)).alloc faultCells) w1 := hb.mono (by simp)
          clear hb
          obtain ⟨q1, q2, q3, q4, q5, q6, q7⟩ := HC.out _ Bw1
          go_wp2_with (fail)
          refine (C2.out _ (HB0.out _ Bw1)).mono ?_
          rintro e w2 ⟨rfl, hb⟩
          rw [doneOr_0]
          have Bw2 := Bw1.trans (hb.mono (by have := Bw1.size; simp at this; omega))
          have hzw2 := Bw2.size; simp only [World.size_alloc] at hzw2
          clear hb q1 q2 q3 q4 q5 q6 q7
          obtain ⟨q1, q2, q3, q4, q5, q6, q7⟩ := HC.out _ Bw2
          go_wp2_with (fail)
          refine (must1_ok _ _ _ _ _ (R.own) ?_ g1).mono ?_
          · go_simp
          rintro e w3 ⟨rfl, hb⟩
          have Bw3 := (Bw2.alloc hzw2 _).trans (hb.mono (by simp <;> omega))
          have hzw3 := Bw3.size; simp only [World.size_alloc] at hzw3
          clear hb
          clear q1 q2 q3 q4 q5 q6 q7
          obtain ⟨q1, q2, q3, q4, q5, q6, q7⟩ := HC.out _ Bw3
          go_wp2_with (fail)
          refine (must1_ok _ _ _ _ _ (R.feed) ?_ g2).mono ?_
          · go_simp
          rintro e w4 ⟨rfl, hb⟩
          have Bw4 := (Bw3.alloc hzw3 _).trans (hb.mono (by simp <;> omega))
          have hzw4 := Bw4.size; simp only [World.size_alloc] at hzw4
          clear hb
          clear q1 q2 q3 q4 q5 q6 q7
          obtain ⟨q1, q2, q3, q4, q5, q6, q7⟩ := HC.out _ Bw4
          go_wp2_with (fail)
          go_loopw [24, 3] (fun i bf wr => ∃ k : Nat, k ≤ 3 ∧ i = .int .i64 k ∧ bf = .int .i64 (if k = 0 then 0 else R.gr (k - 1)) ∧ Below (w.heap.size + 2) ((w.alloc (ruleCells R hh hv)).alloc faultCells) wr ∧ ∀ j, j < k → badGrade R j = 0) (fun i _ _ => 3 - (intOf i).toNat)
          case atStart => exact ⟨0, by omega, rfl, rfl, Bw4, fun j h => absurd h (by omega)⟩
          case round =>
            obtain ⟨k, hk, rfl, rfl, Bwr, hbad⟩ := hrel
            have HB := Lib.hid hbad; clear hbad
            clear q1 q2 q3 q4 q5 q6 q7
            obtain ⟨q1, q2, q3, q4, q5, q6, q7⟩ := HC.out _ Bwr
            have hzwr := Bwr.size; simp only [World.size_alloc] at hzwr
            rcases (by omega : k = 0 ∨ k = 1 ∨ k = 2 ∨ k = 3) with rfl | rfl | rfl | rfl
            · have ix : ∀ w, (Instr.index 23 (.agg #[.int .i64 R.g0, .int .i64 R.g1, .int .i64 R.g2]) (.int .i64 0)).run Try.prog w = .ok (.int .i64 R.g0) w := fun _ => by kernel_rfl
              have hbf : (if (0 : Nat) = 0 then 0 else R.gr (0 - 1)) = 0 := rfl
              rw [hbf]; clear hbf
              by_cases g3 : 1 ≤ R.g0 ∧ R.g0 ≤ 1000000
              · have hbb : 0 + 1 ≤ R.g0 ∧ R.g0 ≤ 1000000 ∨ ¬ (0 + 1 ≤ R.g0 ∧ R.g0 ≤ 1000000) := by omega
                have hpb : -1000000 ≤ 0 ∧ 0 ≤ 1000000 := by omega
                rcases hbb with g4 | g4
                · go_wp2_with (fail)
                  refine (must1_ok _ _ _ _ _ (R.g0) ?_ g3).mono ?_
                  · go_simp
                  rintro e w5 ⟨rfl, hb⟩
                  have Bw5 := (Bwr.alloc hzwr _).trans (hb.mono (by simp <;> omega))
                  have hzw5 := Bw5.size; simp only [World.size_alloc] at hzw5
                  clear hb
                  go_wp2_with (fail)
                  refine (must1_ok _ _ _ _ _ (R.g0) ?_ g4).mono ?_
                  · go_simp
                  rintro e w6 ⟨rfl, hb⟩
                  have Bw6 := (Bw5.alloc hzw5 _).trans (hb.mono (by simp <;> omega))
                  have hzw6 := Bw6.size; simp only [World.size_alloc] at hzw6
                  clear hb
                  go_wp2_with (fail)
                  go_roundw
                  case rel => exact ⟨1, by omega, by go_num, rfl, Bw6, below_succ HB.out (badGrade_0 (k := 0) g3 (by simp only [gr0, gr1, gr2, Nat.reduceSub]; omega))⟩
                  case measure => simp [intOf]
                · omega
              · have HR := Lib.hid (check_4 HP.out HB.out (by omega) (badGrade_7 (k := 0) g3) (by decide))
                go_wp2_with (fail)
                refine (must1_no _ _ _ _ _ (R.g0) ?_ g3).mono ?_
                · go_simp
                rintro e w5 ⟨rfl, hb⟩
                have Bw5 := (Bwr.alloc hzwr _).trans (hb.mono (by simp <;> omega))
                exact rule_panics Try.results62 HR.out (B := w.heap.size + 1) (HH.out _ Bw5).1 (HB0.out _ Bw5) (by omega) rfl
            · have ix : ∀ w, (Instr.index 23 (.agg #[.int .i64 R.g0, .int .i64 R.g1, .int .i64 R.g2]) (.int .i64 1)).run Try.prog w = .ok (.int .i64 R.g1) w := fun _ => by kernel_rfl
              have hbf : (if (1 : Nat) = 0 then 0 else R.gr (1 - 1)) = R.g0 := rfl
              rw [hbf]; clear hbf
              by_cases g3 : 1 ≤ R.g1 ∧ R.g1 ≤ 1000000
              · have hbb : R.g0 + 1 ≤ R.g1 ∧ R.g1 ≤ 1000000 ∨ ¬ (R.g0 + 1 ≤ R.g1 ∧ R.g1 ≤ 1000000) := by omega
                have hpb : -1000000 ≤ R.g0 ∧ R.g0 ≤ 1000000 := by have := badGrade_rng (HB.out 0 (by omega)); simp only [gr0, gr1, gr2, Nat.reduceSub] at this; omega
                rcases hbb with g4 | g4
                · go_wp2_with (fail)
                  refine (must1_ok _ _ _ _ _ (R.g1) ?_ g3).mono ?_
                  · go_simp
                  rintro e w5 ⟨rfl, hb⟩
                  have Bw5 := (Bwr.alloc hzwr _).trans (hb.mono (by simp <;> omega))
                  have hzw5 := Bw5.size; simp only [World.size_alloc] at hzw5
                  clear hb
                  go_wp2_with (fail)
                  refine (must1_ok _ _ _ _ _ (R.g1) ?_ g4).mono ?_
                  · go_simp
                  rintro e w6 ⟨rfl, hb⟩
                  have Bw6 := (Bw5.alloc hzw5 _).trans (hb.mono (by simp <;> omega))
                  have hzw6 := Bw6.size; simp only [World.size_alloc] at hzw6
                  clear hb
                  go_wp2_with (fail)
                  go_roundw
                  case rel => exact ⟨2, by omega, by go_num, rfl, Bw6, below_succ HB.out (badGrade_0 (k := 1) g3 (by simp only [gr0, gr1, gr2, Nat.reduceSub]; omega))⟩
                  case measure => simp [intOf]
                · have HR := Lib.hid (check_4 HP.out HB.out (by omega) (badGrade_2 (k := 1) g3 (by omega) (by simp only [gr0, gr1, gr2, Nat.reduceSub]; omega)) (by decide))
                  go_wp2_with (fail)
                  refine (must1_ok _ _ _ _ _ (R.g1) ?_ g3).mono ?_
                  · go_simp
                  rintro e w5 ⟨rfl, hb⟩
                  have Bw5 := (Bwr.alloc hzwr _).trans (hb.mono (by simp <;> omega))
                  have hzw5 := Bw5.size; simp only [World.size_alloc] at hzw5
                  clear hb
                  go_wp2_with (fail)
                  refine (must1_no _ _ _ _ _ (R.g1) ?_ g4).mono ?_
                  · go_simp
                  rintro e w6 ⟨rfl, hb⟩
                  have Bw6 := (Bw5.alloc hzw5 _).trans (hb.mono (by simp <;> omega))
                  exact rule_panics Try.results62 HR.out (B := w.heap.size + 1) (HH.out _ Bw6).1 (HB0.out _ Bw6) (by omega) rfl
              · have HR := Lib.hid (check_4 HP.out HB.out (by omega) (badGrade_7 (k := 1) g3) (by decide))
                go_wp2_with (fail)
                refine (must1_no _ _ _ _ _ (R.g1) ?_ g3).mono ?_
                · go_simp
                rintro e w5 ⟨rfl, hb⟩
                have Bw5 := (Bwr.alloc hzwr _).trans (hb.mono (by simp <;> omega))
                exact rule_panics Try.results62 HR.out (B := w.heap.size + 1) (HH.out _ Bw5).1 (HB0.out _ Bw5) (by omega) rfl
            · have ix : ∀ w, (Instr.index 23 (.agg #[.int .i64 R.g0, .int .i64 R.g1, .int .i64 R.g2]) (.int .i64 2)).run Try.prog w = .ok (.int .i64 R.g2) w := fun _ => by kernel_rfl
              have hbf : (if (2 : Nat) = 0 then 0 else R.gr (2 - 1)) = R.g1 := rfl
              rw [hbf]; clear hbf
              by_cases g3 : 1 ≤ R.g2 ∧ R.g2 ≤ 1000000
              · have hbb : R.g1 + 1 ≤ R.g2 ∧ R.g2 ≤ 1000000 ∨ ¬ (R.g1 + 1 ≤ R.g2 ∧ R.g2 ≤ 1000000) := by omega
                have hpb : -1000000 ≤ R.g1 ∧ R.g1 ≤ 1000000 := by have := badGrade_rng (HB.out 1 (by omega)); simp only [gr0, gr1, gr2, Nat.reduceSub] at this; omega
                rcases hbb with g4 | g4
                · go_wp2_with (fail)
                  refine (must1_ok _ _ _ _ _ (R.g2) ?_ g3).mono ?_
                  · go_simp
                  rintro e w5 ⟨rfl, hb⟩
                  have Bw5 := (Bwr.alloc hzwr _).trans (hb.mono (by simp <;> omega))
                  have hzw5 := Bw5.size; simp only [World.size_alloc] at hzw5
                  clear hb
                  go_wp2_with (fail)
                  refine (must1_ok _ _ _ _ _ (R.g2) ?_ g4).mono ?_
                  · go_simp
                  rintro e w6 ⟨rfl, hb⟩
                  have Bw6 := (Bw5.alloc hzw5 _).trans (hb.mono (by simp <;> omega))
                  have hzw6 := Bw6.size; simp only [World.size_alloc] at hzw6
                  clear hb
                  go_wp2_with (fail)
                  go_roundw
                  case rel => exact ⟨3, by omega, by go_num, rfl, Bw6, below_succ HB.out (badGrade_0 (k := 2) g3 (by simp only [gr0, gr1, gr2, Nat.reduceSub]; omega))⟩
                  case measure => simp [intOf]
                · have HR := Lib.hid (check_4 HP.out HB.out (by omega) (badGrade_2 (k := 2) g3 (by omega) (by simp only [gr0, gr1, gr2, Nat.reduceSub]; omega)) (by decide))
                  go_wp2_with (fail)
                  refine (must1_ok _ _ _ _ _ (R.g2) ?_ g3).mono ?_
                  · go_simp
                  rintro e w5 ⟨rfl, hb⟩
                  have Bw5 := (Bwr.alloc hzwr _).trans (hb.mono (by simp <;> omega))
                  have hzw5 := Bw5.size; simp only [World.size_alloc] at hzw5
                  clear hb
                  go_wp2_with (fail)
                  refine (must1_no _ _ _ _ _ (R.g2) ?_ g4).mono ?_
                  · go_simp
                  rintro e w6 ⟨rfl, hb⟩
                  have Bw6 := (Bw5.alloc hzw5 _).trans (hb.mono (by simp <;> omega))
                  exact rule_panics Try.results62 HR.out (B := w.heap.size + 1) (HH.out _ Bw6).1 (HB0.out _ Bw6) (by omega) rfl
              · have HR := Lib.hid (check_4 HP.out HB.out (by omega) (badGrade_7 (k := 2) g3) (by decide))
                go_wp2_with (fail)
                refine (must1_no _ _ _ _ _ (R.g2) ?_ g3).mono ?_
                · go_simp
                rintro e w5 ⟨rfl, hb⟩
                have Bw5 := (Bwr.alloc hzwr _).trans (hb.mono (by simp <;> omega))
                exact rule_panics Try.results62 HR.out (B := w.heap.size + 1) (HH.out _ Bw5).1 (HB0.out _ Bw5) (by omega) rfl
            · by_cases g5 : 1 ≤ R.lost ∧ R.lost ≤ 1000000
              · have hf : D.check R = (0, 0, 0) := by rw [check_5 HP.out HB.out, if_neg (fun h => h g5)]
                have HR := Lib.hid hf; clear hf
                go_wp2_with (fail)
                refine (must1_ok _ _ _ _ _ (R.lost) ?_ g5).mono ?_
                · go_simp
                rintro e w5 ⟨rfl, hb⟩
                have Bw5 := (Bwr.alloc hzwr _).trans (hb.mono (by simp <;> omega))
                have hzw5 := Bw5.size; simp only [World.size_alloc] at hzw5
                clear hb
                have hB5 := (HH.out _ Bw5).1
                have f0 : w5.cell? ⟨w.heap.size + 1, 0, none⟩ = some (.int .i64 0) := by simp [World.cell?, hB5, faultCells]
                have f1 : w5.cell? ⟨w.heap.size + 1, 1, none⟩ = some (.int .i64 0) := by simp [World.cell?, hB5, faultCells]
                have f2 : w5.cell? ⟨w.heap.size + 1, 2, none⟩ = some (.int .i64 0) := by simp [World.cell?, hB5, faultCells]
                have z0 : w5.frozen? ⟨w.heap.size + 1, 0, none⟩ = false := by simp [World.frozen?, hB5, faultCells]
                have z1 : w5.frozen? ⟨w.heap.size + 1, 1, none⟩ = false := by simp [World.frozen?, hB5, faultCells]
                have z2 : w5.frozen? ⟨w.heap.size + 1, 2, none⟩ = false := by simp [World.frozen?, hB5, faultCells]
                clear hB5
                go_wp2_with (fail)
                exact rule_done Try.results62 HR.out (B := w.heap.size + 1) (same_cells (HH.out _ Bw5).1) ((((HB0.out _ Bw5).setCell (by simp) _).setCell (by simp) _).setCell (by simp) _) rfl
              · have hf : D.check R = (5, 0, 7) := by rw [check_5 HP.out HB.out, if_pos g5]
                have HR := Lib.hid hf; clear hf
                go_wp2_with (fail)
                refine (must1_no _ _ _ _ _ (R.lost) ?_ g5).mono ?_
                · go_simp
                rintro e w5 ⟨rfl, hb⟩
                have Bw5 := (Bwr.alloc hzwr _).trans (hb.mono (by simp <;> omega))
                exact rule_panics Try.results62 HR.out (B := w.heap.size + 1) (HH.out _ Bw5).1 (HB0.out _ Bw5) (by omega) rfl
        · rw [check_3 h1 h2 (fun h => g2 h.2)]
          clear h1 h2
          go_enter_defers Try.func62, Try.ntmps62
          go_wp2_with (fail)
          refine (C1.out _ hA).mono ?_
          rintro e w1 ⟨rfl, hb⟩
          rw [doneOr_0]
          have Bw1 : Below (w.heap.size + 2) ((w.alloc (ruleCells R hh hv)).alloc faultCells) w1 := hb.mono (by simp)
          clear hb
          obtain ⟨q1, q2, q3, q4, q5, q6, q7⟩ := HC.out _ Bw1
          go_wp2_with (fail)
          refine (C2.out _ (HB0.out _ Bw1)).mono ?_
          rintro e w2 ⟨rfl, hb⟩
          rw [doneOr_0]
          have Bw2 := Bw1.trans (hb.mono (by have := Bw1.size; simp at this; omega))
          have hzw2 := Bw2.size; simp only [World.size_alloc] at hzw2
          clear hb q1 q2 q3 q4 q5 q6 q7
          obtain ⟨q1, q2, q3, q4, q5, q6, q7⟩ := HC.out _ Bw2
          go_wp2_with (fail)
          refine (must1_ok _ _ _ _ _ (R.own) ?_ g1).mono ?_
          · go_simp
          rintro e w3 ⟨rfl, hb⟩
          have Bw3 := (Bw2.alloc hzw2 _).trans (hb.mono (by simp <;> omega))
          have hzw3 := Bw3.size; simp only [World.size_alloc] at hzw3
          clear hb
          clear q1 q2 q3 q4 q5 q6 q7
          obtain ⟨q1, q2, q3, q4, q5, q6, q7⟩ := HC.out _ Bw3
          go_wp2_with (fail)
          refine (must1_no _ _ _ _ _ (R.feed) ?_ g2).mono ?_
          · go_simp
          rintro e w4 ⟨rfl, hb⟩
          have Bw4 := (Bw3.alloc hzw3 _).trans (hb.mono (by simp <;> omega))
          exact rule_panics Try.results62 rfl (B := w.heap.size + 1) (HH.out _ Bw4).1 (HB0.out _ Bw4) (by omega) rfl
      · rw [check_3 h1 h2 (fun h => g1 h.1)]
        clear h1 h2
        go_enter_defers Try.func62, Try.ntmps62
        go_wp2_with (fail)
        refine (C1.out _ hA).mono ?_
        rintro e w1 ⟨rfl, hb⟩
        rw [doneOr_0]
        have Bw1 : Below (w.heap.size + 2) ((w.alloc (ruleCells R hh hv)).alloc faultCells) w1 := hb.mono (by simp)
        clear hb
        obtain ⟨q1, q2, q3, q4, q5, q6, q7⟩ := HC.out _ Bw1
        go_wp2_with (fail)
        refine (C2.out _ (HB0.out _ Bw1)).mono ?_
        rintro e w2 ⟨rfl, hb⟩
        rw [doneOr_0]
        have Bw2 := Bw1.trans (hb.mono (by have := Bw1.size; simp at this; omega))
        have hzw2 := Bw2.size; simp only [World.size_alloc] at hzw2
        clear hb q1 q2 q3 q4 q5 q6 q7
        obtain ⟨q1, q2, q3, q4, q5, q6, q7⟩ := HC.out _ Bw2
        go_wp2_with (fail)
        refine (must1_no _ _ _ _ _ (R.own) ?_ g1).mono ?_
        · go_simp
        rintro e w3 ⟨rfl, hb⟩
        have Bw3 := (Bw2.alloc hzw2 _).trans (hb.mono (by simp <;> omega))
        exact rule_panics Try.results62 rfl (B := w.heap.size + 1) (HH.out _ Bw3).1 (HB0.out _ Bw3) (by omega) rfl
    · rw [check_2 h1 h2 z2]
      clear h1 h2
      go_enter_defers Try.func62, Try.ntmps62
      go_wp2_with (fail)
      refine (C1.out _ hA).mono ?_
      rintro e w1 ⟨rfl, hb⟩
      rw [doneOr_0]
      have Bw1 : Below (w.heap.size + 2) ((w.alloc (ruleCells R hh hv)).alloc faultCells) w1 := hb.mono (by simp)
      clear hb
      obtain ⟨q1, q2, q3, q4, q5, q6, q7⟩ := HC.out _ Bw1
      go_wp2_with (fail)
      refine (C2.out _ (HB0.out _ Bw1)).mono ?_
      rintro e w2 ⟨rfl, hb⟩
      rw [doneOr_n _ _ z2]
      have Bw2 := Bw1.trans (hb.mono (by have := Bw1.size; simp at this; omega))
      exact rule_panics Try.results62 rfl (B := w.heap.size + 1) (HH.out _ Bw2).1 (HB0.out _ Bw2) (by omega) rfl
  · rw [check_1 h1 z1]
    clear h1 h2
    go_enter_defers Try.func62, Try.ntmps62
    go_wp2_with (fail)
    refine (C1.out _ hA).mono ?_
    rintro e w1 ⟨rfl, hb⟩
    rw [doneOr_n _ _ z1]
    have Bw1 : Below (w.heap.size + 2) ((w.alloc (ruleCells R hh hv)).alloc faultCells) w1 := hb.mono (by simp)
    exact rule_panics Try.results62 rfl (B := w.heap.size + 1) (HH.out _ Bw1).1 (HB0.out _ Bw1) (by omega) rfl
end Go.Proofs.Ytfjbgcaogffiaaa
namespace Go.Proofs.Ytfjbgcaogffiaaa
open Go.RowKit D
set_option linter.unusedVariables false
set_option linter.unusedSimpArgs false
attribute [local go_sem high] run_minI run_maxI
def taskO (T : Task) (s : TSl) : Obj := .cells #[.slice s.h.a T.rule.heat.length s.h.cap, .slice s.w.a T.rule.wet.length s.w.cap, .int .i64 T.rule.own, .int .i64 T.rule.feed, .int .i64 T.rule.g0, .int .i64 T.rule.g1, .int .i64 T.rule.g2, .int .i64 T.rule.lost, .int .i64 T.first, .slice s.d.a T.days.length s.d.cap, .int .i64 T.start.lo, .int .i64 T.start.hi, .slice s.t.a T.tests.length s.t.cap] 31 (0, 0)
theorem left_plain {fn : Func} (hres : fn.results = #[.cell 2 103]) {w w1 : World} {B : Nat} {part at_ e : Int} {c : Int × Int × Int} (hc : c = (part, at_, e)) {tmps : Array Value}
    (k0 : w1.cell? ⟨B, 0, none⟩ = some (.int .i64 part)) (k1 : w1.cell? ⟨B, 1, none⟩ = some (.int .i64 at_)) (k2 : w1.cell? ⟨B, 2, none⟩ = some (.int .i64 e)) (hb : Below w.heap.size w w1) (ht : tmps.getD 2 undef = .pointer (some ⟨B, 0, none⟩)) :
    Leaves Try.prog fn tmps (fun en w' => en = .returned (.agg #[.int .i64 c.1, .int .i64 c.2.1, .int .i64 c.2.2]) ∧ Below w.heap.size w w') [] .returning w1 := by
  subst hc
  have ht' : tmps[2]?.getD undef = .pointer (some ⟨B, 0, none⟩) := by rw [← ht, Array.getD_eq_getD_getElem?]
  refine ⟨.agg #[.int .i64 part, .int .i64 at_, .int .i64 e], ?_, rfl, hb⟩
  simp [results, hres, go_sem, ht', k0, k1, k2]
set_option maxRecDepth 100000 in
set_option maxHeartbeats 3200000 in
theorem task_any {T : Task} {s : TSl} {w : World} (hT : TaskAt w T s) :
    Calls Try.prog 64 #[.agg #[.slice s.h.a T.rule.heat.length s.h.cap, .slice s.w.a T.rule.wet.length s.w.cap, .int .i64 T.rule.own, .int .i64 T.rule.feed, .int .i64 T.rule.g0, .int .i64 T.rule.g1, .int .i64 T.rule.g2, .int .i64 T.rule.lost, .int .i64 T.first, .slice s.d.a T.days.length s.d.cap, .int .i64 T.start.lo, .int .i64 T.start.hi, .slice s.t.a T.tests.length s.t.cap]] w fun e w' => e = .returned (.agg #[.int .i64 (D.checkTask T).1, .int .i64 (D.checkTask T).2.1, .int .i64 (D.checkTask T).2.2]) ∧ Below w.heap.size w w' := by
  obtain ⟨sh, sw, ⟨da, dc⟩, ⟨ta, tc⟩⟩ := s
  dsimp only
  have hA : Below w.heap.size w ((w.alloc (taskO T ⟨sh, sw, ⟨da, dc⟩, ⟨ta, tc⟩⟩)).alloc faultCells) := two_below w _ _
  have hheap : ∀ W, Below (w.heap.size + 2) ((w.alloc (taskO T ⟨sh, sw, ⟨da, dc⟩, ⟨ta, tc⟩⟩)).alloc faultCells) W → W.heap[w.heap.size + 1]? = some faultCells ∧ W.heap[w.heap.size]? = some (taskO T ⟨sh, sw, ⟨da, dc⟩, ⟨ta, tc⟩⟩) := fun W hb =>
    ⟨(hb.block _ (by omega)).trans (heap_two w _ _).2, (hb.block _ (by omega)).trans (heap_two w _ _).1⟩
  have HH := Lib.hid hheap; clear hheap
  have hfr : ∀ W, Below (w.heap.size + 2) ((w.alloc (taskO T ⟨sh, sw, ⟨da, dc⟩, ⟨ta, tc⟩⟩)).alloc faultCells) W → Below w.heap.size w W := fun W hb => hA.trans (hb.mono (by omega))
  have HB0 := Lib.hid hfr; clear hfr
  have hcells : ∀ W, Below (w.heap.size + 2) ((w.alloc (taskO T ⟨sh, sw, ⟨da, dc⟩, ⟨ta, tc⟩⟩)).alloc faultCells) W → W.cell? ⟨w.heap.size, 8, none⟩ = some (.int .i64 T.first) ∧ W.cell? ⟨w.heap.size, 9, none⟩ = some (.slice da T.days.length dc) ∧ W.cell? ⟨w.heap.size, 10, none⟩ = some (.int .i64 T.start.lo) ∧ W.cell? ⟨w.heap.size, 11, none⟩ = some (.int .i64 T.start.hi) ∧ W.cell? ⟨w.heap.size, 12, none⟩ = some (.slice ta T.tests.length tc) := fun W hb => by
    have h := (HH.out W hb).2
    simp [World.cell?, h, taskO]
  have HC := Lib.hid hcells; clear hcells
  have hfc : ∀ W, Below (w.heap.size + 2) ((w.alloc (taskO T ⟨sh, sw, ⟨da, dc⟩, ⟨ta, tc⟩⟩)).alloc faultCells) W → (W.cell? ⟨w.heap.size + 1, 0, none⟩ = some (.int .i64 0) ∧ W.cell? ⟨w.heap.size + 1, 1, none⟩ = some (.int .i64 0) ∧ W.cell? ⟨w.heap.size + 1, 2, none⟩ = some (.int .i64 0)) ∧ (W.frozen? ⟨w.heap.size + 1, 0, none⟩ = false ∧ W.frozen? ⟨w.heap.size + 1, 1, none⟩ = false ∧ W.frozen? ⟨w.heap.size + 1, 2, none⟩ = false) := fun W hb => by
    have h := (HH.out W hb).1
    simp [World.cell?, World.frozen?, h, faultCells]
  have HF := Lib.hid hfc; clear hfc
  have hrule : ∀ W, Below w.heap.size w W → Calls Try.prog 62 #[.agg #[.slice sh.a T.rule.heat.length sh.cap, .slice sw.a T.rule.wet.length sw.cap, .int .i64 T.rule.own, .int .i64 T.rule.feed, .int .i64 T.rule.g0, .int .i64 T.rule.g1, .int .i64 T.rule.g2, .int .i64 T.rule.lost]] W fun e w' => e = .returned (.agg #[.int .i64 (D.check T.rule).1, .int .i64 (D.check T.rule).2.1, .int .i64 (D.check T.rule).2.2]) ∧ Below W.heap.size W w' := fun W hb => rule_any (hT.rule.below hb)
  have hD : Hid (DaysS w ⟨da, dc⟩ T.days) := hT.days
  have hTt : Hid (TestsS w ⟨ta, tc⟩ T.tests) := hT.tests
  have hml : T.days.length ≤ dc := hT.days.le
  have hmd : dc ≤ 9223372036854775807 := hT.days.max
  have hmt : T.tests.length ≤ tc := hT.tests.le
  have hmtt : tc ≤ 9223372036854775807 := hT.tests.max
  obtain ⟨p1, p2, p3, hp⟩ : ∃ a b c, D.check T.rule = (a, b, c) := ⟨_, _, _, rfl⟩
  rw [hp] at hrule
  have HRU := Lib.hid hrule; clear hrule hT
  have hp3 : (D.check T.rule).2.2 = p3 := by rw [hp]
  clear hp
  by_cases z1 : p3 = 0
  · subst z1
    by_cases g1 : 0 ≤ (T.days.length : Int) ∧ (T.days.length : Int) ≤ 400
    · by_cases g2 : 0 ≤ (T.tests.length : Int) ∧ (T.tests.length : Int) ≤ 20
      · by_cases g3 : 0 ≤ T.first ∧ T.first ≤ 80000 - (T.days.length : Int)
        · have ht3 : Task3 T := ⟨hp3, by omega, by omega⟩
          have HT3 := Lib.hid ht3; clear ht3 hp3
          go_enter_defers Try.func64, Try.ntmps64
          go_wp2_with (fail)
          refine (HRU.out _ hA).mono ?_
          rintro e w1 ⟨rfl, hb⟩
          have Bw1 : Below (w.heap.size + 2) ((w.alloc (taskO T ⟨sh, sw, ⟨da, dc⟩, ⟨ta, tc⟩⟩)).alloc faultCells) w1 := hb.mono (by simp)
          have hzw1 := Bw1.size; simp only [World.size_alloc] at hzw1
          clear hb
          have hlt1 : w.heap.size + 1 < w1.heap.size := by omega
          have hlt0 : w.heap.size < w1.heap.size := by omega
          obtain ⟨q8, q9, q10, q11, q12⟩ := HC.out _ Bw1
          go_wp2_with (fail)
          refine (must1_ok _ _ _ _ _ ((T.days.length : Int)) ?_ g1).mono ?_
          · go_simp
          rintro e w2 ⟨rfl, hb⟩
          have Bw2 := ((Bw1.alloc hzw1 _).alloc (by simp; omega) _).trans (hb.mono (by simp; omega))
          have hzw2 := Bw2.size; simp only [World.size_alloc] at hzw2
          clear hb
          clear q8 q9 q10 q11 q12
          obtain ⟨q8, q9, q10, q11, q12⟩ := HC.out _ Bw2
          go_wp2_with (fail)
          refine (must1_ok _ _ _ _ _ ((T.tests.length : Int)) ?_ g2).mono ?_
          · go_simp
          rintro e w3 ⟨rfl, hb⟩
          have Bw3 := (Bw2.alloc hzw2 _).trans (hb.mono (by simp <;> omega))
          have hzw3 := Bw3.size; simp only [World.size_alloc] at hzw3
          clear hb
          clear q8 q9 q10 q11 q12
          obtain ⟨q8, q9, q10, q11, q12⟩ := HC.out _ Bw3
          have pw5 : IntKind.i64.wrap (80000 - (T.days.length : Int)) = 80000 - (T.days.length : Int) := IntWalk.i64_in _ (by omega)
          go_wp2_with (fail)
          refine (must1_ok _ _ _ _ _ (T.first) ?_ g3).mono ?_
          · go_simp
          rintro e w4 ⟨rfl, hb⟩
          have Bw4 := (Bw3.alloc hzw3 _).trans (hb.mono (by simp <;> omega))
          have hzw4 := Bw4.size; simp only [World.size_alloc] at hzw4
          clear hb
          clear pw5
          clear q8 q9 q10 q11 q12
          obtain ⟨q8, q9, q10, q11, q12⟩ := HC.out _ Bw4
          go_wp2_with (fail)
          go_loopw [41] (fun i wr => ∃ k : Nat, k ≤ T.days.length ∧ i = .int .i64 k ∧ Below (w.heap.size + 2) ((w.alloc (taskO T ⟨sh, sw, ⟨da, dc⟩, ⟨ta, tc⟩⟩)).alloc faultCells) wr ∧ ∀ j, j < k → badDay T j = 0) (fun i _ => T.days.length - (intOf i).toNat)
          case atStart => exact ⟨0, by omega, rfl, Bw4, fun j h => absurd h (by omega)⟩
          case round =>
            obtain ⟨k, hk, rfl, Bwr, hbad⟩ := hrel
            have HB := Lib.hid hbad; clear hbad
            clear q8 q9 q10 q11 q12
            obtain ⟨q8, q9, q10, q11, q12⟩ := HC.out _ Bwr
            have hzwr := Bwr.size; simp only [World.size_alloc] at hzwr
            by_cases hlt : k < T.days.length
            · have HLr := Lib.hid (hD.out.below (HB0.out _ Bwr))
              obtain ⟨b, off, rfl, x0, x1, x2, x3⟩ := days_at HLr.out hlt
              have pw6 : (k : Int) < (T.days.length : Int) := by omega
              by_cases g5 : climateE (dayD T.days k) = 0
              · go_wp2_with (fail)
                refine (climateP 3 (k : Int) 0 (dayD T.days k) _).mono ?_
                rintro e w5 ⟨rfl, hb⟩
                rw [g5, doneOr_0]
                have Bw5 := (Bwr.alloc hzwr _).trans (hb.mono (by simp; omega))
                clear hb
                go_wp2_with (fail)
                go_roundw
                case rel => exact ⟨k + 1, by omega, by go_num, Bw5, below_succ HB.out g5⟩
                case measure => simp [intOf]; omega
              · have HR := Lib.hid (checkTask_4 HT3.out HB.out hlt rfl g5)
                go_wp2_with (fail)
                refine (climateP 3 (k : Int) 0 (dayD T.days k) _).mono ?_
                rintro e w5 ⟨rfl, hb⟩
                rw [doneOr_n _ _ g5]
                have Bw5 := (Bwr.alloc hzwr _).trans (hb.mono (by simp; omega))
                clear hb
                exact rule_panics Try.results64 HR.out (B := w.heap.size + 1) (HH.out _ Bw5).1 (HB0.out _ Bw5) (by omega) rfl
            · obtain rfl : k = T.days.length := by omega
              by_cases g6 : levelsE T.start.lo T.start.hi = 0
              · go_wp2_with (fail)
                refine (levelsP 4 0 0 T.start.lo T.start.hi _).mono ?_
                rintro e w5 ⟨rfl, hb⟩
                rw [g6, doneOr_0]
                have Bw5 := Bwr.trans (hb.mono (by omega))
                clear hb
                clear q8 q9 q10 q11 q12
                obtain ⟨q8, q9, q10, q11, q12⟩ := HC.out _ Bw5
                go_wp2_with (fail)
                obtain ⟨wo, rfl⟩ : ∃ wo : World, wo = wr := ⟨_, rfl⟩
                have HBD := Lib.hid HB.out; clear HB
                go_loopw [58] (fun i wr => ∃ k : Nat, k ≤ T.tests.length ∧ i = .int .i64 k ∧ Below (w.heap.size + 2) ((w.alloc (taskO T ⟨sh, sw, ⟨da, dc⟩, ⟨ta, tc⟩⟩)).alloc faultCells) wr ∧ ∀ j, j < k → badTest T j = 0) (fun i _ => T.tests.length - (intOf i).toNat)
                case atStart => exact ⟨0, by omega, rfl, Bw5, fun j h => absurd h (by omega)⟩
                case round =>
                  obtain ⟨k, hk, rfl, Bwr2, hbad⟩ := hrel
                  have HB := Lib.hid hbad; clear hbad
                  clear q8 q9 q10 q11 q12
                  obtain ⟨q8, q9, q10, q11, q12⟩ := HC.out _ Bwr2
                  have hzwr2 := Bwr2.size; simp only [World.size_alloc] at hzwr2
                  by_cases hlt : k < T.tests.length
                  · have HLr := Lib.hid (hTt.out.below (HB0.out _ Bwr2))
                    obtain ⟨b, off, rfl, x0, x1, x2⟩ := tests_at HLr.out hlt
                    have pw6 : (k : Int) < (T.tests.length : Int) := by omega
                    have hlw1 : w.heap.size + 1 < wr.heap.size := by omega
                    have hlw0 : w.heap.size < wr.heap.size := by omega
                    have hG : ∀ W, Below (wr.heap.size + 1) (wr.alloc (.cells #[.int .i64 (testD T.tests k).day, .int .i64 (testD T.tests k).grade, .int .i64 (testD T.tests k).err] 51 (0, 0))) W → W.cell? ⟨wr.heap.size, 0, none⟩ = some (.int .i64 (testD T.tests k).day) ∧ W.cell? ⟨wr.heap.size, 1, none⟩ = some (.int .i64 (testD T.tests k).grade) ∧ W.cell? ⟨wr.heap.size, 2, none⟩ = some (.int .i64 (testD T.tests k).err) := fun W hW => by
                      have h0 := (hW.block wr.heap.size (by omega)).trans (heap_alloc_new wr _)
                      simp [World.cell?, h0]
                    have HG := Lib.hid hG; clear hG
                    by_cases g7 : T.first ≤ (testD T.tests k).day ∧ (testD T.tests k).day ≤ T.first + (T.days.length : Int)
                    · by_cases g8 : (0 ≤ (testD T.tests k).grade ∧ (testD T.tests k).grade ≤ 3) ∧ (0 ≤ (testD T.tests k).err ∧ (testD T.tests k).err ≤ 3)
                      · go_wp2_with (fail)
                        refine (must1_ok _ _ _ _ _ ((testD T.tests k).day) ?_ g7).mono ?_
                        · go_simp
                        rintro e w6 ⟨rfl, hb⟩
                        have G6 : Below (wr.heap.size + 1) (wr.alloc (.cells #[.int .i64 (testD T.tests k).day, .int .i64 (testD T.tests k).grade, .int .i64 (testD T.tests k).err] 51 (0, 0))) w6 := ((Below.refl _ _).alloc (by simp) _).trans (hb.mono (by simp))
                        have Bw6 := (Bwr2.alloc hzwr2 _).trans (G6.mono (by omega))
                        have hzw6 := G6.size; simp only [World.size_alloc] at hzw6
                        clear hb
                        obtain ⟨y0, y1, y2⟩ := HG.out _ G6
                        go_wp2_with (fail)
                        refine (must2_ok _ _ _ _ _ ((testD T.tests k).grade) ((testD T.tests k).err) ?_ ?_ g8).mono ?_
                        · go_simp
                        · go_simp
                        rintro e w7 ⟨rfl, hb⟩
                        have Bw7 := (Bw6.alloc (by omega) _).trans (hb.mono (by simp; omega))
                        clear hb
                        go_wp2_with (fail)
                        go_roundw
                        case rel => exact ⟨k + 1, by omega, by go_num, Bw7, below_succ HB.out (badTest_0 g7 g8)⟩
                        case measure => simp [intOf]; omega
                      · have HR := Lib.hid (checkTask_6 HT3.out HBD.out g6 HB.out hlt (badTest_7 (fun h => g8 ⟨h.1.2, h.2⟩)) (by decide))
                        go_wp2_with (fail)
                        refine (must1_ok _ _ _ _ _ ((testD T.tests k).day) ?_ g7).mono ?_
                        · go_simp
                        rintro e w6 ⟨rfl, hb⟩
                        have G6 : Below (wr.heap.size + 1) (wr.alloc (.cells #[.int .i64 (testD T.tests k).day, .int .i64 (testD T.tests k).grade, .int .i64 (testD T.tests k).err] 51 (0, 0))) w6 := ((Below.refl _ _).alloc (by simp) _).trans (hb.mono (by simp))
                        have Bw6 := (Bwr2.alloc hzwr2 _).trans (G6.mono (by omega))
                        have hzw6 := G6.size; simp only [World.size_alloc] at hzw6
                        clear hb
                        obtain ⟨y0, y1, y2⟩ := HG.out _ G6
                        go_wp2_with (fail)
                        refine (must2_no _ _ _ _ _ ((testD T.tests k).grade) ((testD T.tests k).err) ?_ ?_ g8).mono ?_
                        · go_simp
                        · go_simp
                        rintro e w7 ⟨rfl, hb⟩
                        have Bw7 := (Bw6.alloc (by omega) _).trans (hb.mono (by simp; omega))
                        exact rule_panics Try.results64 HR.out (B := w.heap.size + 1) (HH.out _ Bw7).1 (HB0.out _ Bw7) (by omega) rfl
                    · have HR := Lib.hid (checkTask_6 HT3.out HBD.out g6 HB.out hlt (badTest_7 (fun h => g7 h.1.1)) (by decide))
                      go_wp2_with (fail)
                      refine (must1_no _ _ _ _ _ ((testD T.tests k).day) ?_ g7).mono ?_
                      · go_simp
                      rintro e w6 ⟨rfl, hb⟩
                      have Bw6 := ((Bwr2.alloc hzwr2 (.cells #[.int .i64 (testD T.tests k).day, .int .i64 (testD T.tests k).grade, .int .i64 (testD T.tests k).err] 51 (0, 0))).alloc (by simp; omega) _).trans (hb.mono (by simp; omega))
                      exact rule_panics Try.results64 HR.out (B := w.heap.size + 1) (HH.out _ Bw6).1 (HB0.out _ Bw6) (by omega) rfl
                  · obtain rfl : k = T.tests.length := by omega
                    have HR := Lib.hid (checkTask_7 HT3.out HBD.out g6 HB.out)
                    obtain ⟨⟨f0, f1, f2⟩, ⟨y0, y1, y2⟩⟩ := HF.out _ Bwr2
                    go_wp2_with (fail)
                    exact rule_done Try.results64 HR.out (B := w.heap.size + 1) (same_cells (HH.out _ Bwr2).1) ((((HB0.out _ Bwr2).setCell (by simp) _).setCell (by simp) _).setCell (by simp) _) rfl
              · have HR := Lib.hid (checkTask_5 HT3.out HB.out rfl g6)
                go_wp2_with (fail)
                refine (levelsP 4 0 0 T.start.lo T.start.hi _).mono ?_
                rintro e w5 ⟨rfl, hb⟩
                rw [doneOr_n _ _ g6]
                have Bw5 := Bwr.trans (hb.mono (by omega))
                clear hb
                exact rule_panics Try.results64 HR.out (B := w.heap.size + 1) (HH.out _ Bw5).1 (HB0.out _ Bw5) (by omega) rfl
        · have HR := Lib.hid (checkTask_3 hp3 (by omega) (by omega))
          clear hp3
          go_enter_defers Try.func64, Try.ntmps64
          go_wp2_with (fail)
          refine (HRU.out _ hA).mono ?_
          rintro e w1 ⟨rfl, hb⟩
          have Bw1 : Below (w.heap.size + 2) ((w.alloc (taskO T ⟨sh, sw, ⟨da, dc⟩, ⟨ta, tc⟩⟩)).alloc faultCells) w1 := hb.mono (by simp)
          have hzw1 := Bw1.size; simp only [World.size_alloc] at hzw1
          clear hb
          have hlt1 : w.heap.size + 1 < w1.heap.size := by omega
          have hlt0 : w.heap.size < w1.heap.size := by omega
          obtain ⟨q8, q9, q10, q11, q12⟩ := HC.out _ Bw1
          go_wp2_with (fail)
          refine (must1_ok _ _ _ _ _ ((T.days.length : Int)) ?_ g1).mono ?_
          · go_simp
          rintro e w2 ⟨rfl, hb⟩
          have Bw2 := ((Bw1.alloc hzw1 _).alloc (by simp; omega) _).trans (hb.mono (by simp; omega))
          have hzw2 := Bw2.size; simp only [World.size_alloc] at hzw2
          clear hb
          clear q8 q9 q10 q11 q12
          obtain ⟨q8, q9, q10, q11, q12⟩ := HC.out _ Bw2
          go_wp2_with (fail)
          refine (must1_ok _ _ _ _ _ ((T.tests.length : Int)) ?_ g2).mono ?_
          · go_simp
          rintro e w3 ⟨rfl, hb⟩
          have Bw3 := (Bw2.alloc hzw2 _).trans (hb.mono (by simp <;> omega))
          have hzw3 := Bw3.size; simp only [World.size_alloc] at hzw3
          clear hb
          clear q8 q9 q10 q11 q12
          obtain ⟨q8, q9, q10, q11, q12⟩ := HC.out _ Bw3
          have pw5 : IntKind.i64.wrap (80000 - (T.days.length : Int)) = 80000 - (T.days.length : Int) := IntWalk.i64_in _ (by omega)
          go_wp2_with (fail)
          refine (must1_no _ _ _ _ _ (T.first) ?_ g3).mono ?_
          · go_simp
          rintro e w4 ⟨rfl, hb⟩
          have Bw4 := (Bw3.alloc hzw3 _).trans (hb.mono (by simp <;> omega))
          exact rule_panics Try.results64 HR.out (B := w.heap.size + 1) (HH.out _ Bw4).1 (HB0.out _ Bw4) (by omega) rfl
      · have HR := Lib.hid (checkTask_2 hp3 (by omega))
        clear hp3
        go_enter_defers Try.func64, Try.ntmps64
        go_wp2_with (fail)
        refine (HRU.out _ hA).mono ?_
        rintro e w1 ⟨rfl, hb⟩
        have Bw1 : Below (w.heap.size + 2) ((w.alloc (taskO T ⟨sh, sw, ⟨da, dc⟩, ⟨ta, tc⟩⟩)).alloc faultCells) w1 := hb.mono (by simp)
        have hzw1 := Bw1.size; simp only [World.size_alloc] at hzw1
        clear hb
        have hlt1 : w.heap.size + 1 < w1.heap.size := by omega
        have hlt0 : w.heap.size < w1.heap.size := by omega
        obtain ⟨q8, q9, q10, q11, q12⟩ := HC.out _ Bw1
        go_wp2_with (fail)
        refine (must1_ok _ _ _ _ _ ((T.days.length : Int)) ?_ g1).mono ?_
        · go_simp
        rintro e w2 ⟨rfl, hb⟩
        have Bw2 := ((Bw1.alloc hzw1 _).alloc (by simp; omega) _).trans (hb.mono (by simp; omega))
        have hzw2 := Bw2.size; simp only [World.size_alloc] at hzw2
        clear hb
        clear q8 q9 q10 q11 q12
        obtain ⟨q8, q9, q10, q11, q12⟩ := HC.out _ Bw2
        go_wp2_with (fail)
        refine (must1_no _ _ _ _ _ ((T.tests.length : Int)) ?_ g2).mono ?_
        · go_simp
        rintro e w3 ⟨rfl, hb⟩
        have Bw3 := (Bw2.alloc hzw2 _).trans (hb.mono (by simp <;> omega))
        exact rule_panics Try.results64 HR.out (B := w.heap.size + 1) (HH.out _ Bw3).1 (HB0.out _ Bw3) (by omega) rfl
    · have HR := Lib.hid (checkTask_2 hp3 (by omega))
      clear hp3
      go_enter_defers Try.func64, Try.ntmps64
      go_wp2_with (fail)
      refine (HRU.out _ hA).mono ?_
      rintro e w1 ⟨rfl, hb⟩
      have Bw1 : Below (w.heap.size + 2) ((w.alloc (taskO T ⟨sh, sw, ⟨da, dc⟩, ⟨ta, tc⟩⟩)).alloc faultCells) w1 := hb.mono (by simp)
      have hzw1 := Bw1.size; simp only [World.size_alloc] at hzw1
      clear hb
      have hlt1 : w.heap.size + 1 < w1.heap.size := by omega
      have hlt0 : w.heap.size < w1.heap.size := by omega
      obtain ⟨q8, q9, q10, q11, q12⟩ := HC.out _ Bw1
      go_wp2_with (fail)
      refine (must1_no _ _ _ _ _ ((T.days.length : Int)) ?_ g1).mono ?_
      · go_simp
      rintro e w2 ⟨rfl, hb⟩
      have Bw2 := ((Bw1.alloc hzw1 _).alloc (by simp; omega) _).trans (hb.mono (by simp; omega))
      exact rule_panics Try.results64 HR.out (B := w.heap.size + 1) (HH.out _ Bw2).1 (HB0.out _ Bw2) (by omega) rfl
  · have HR := Lib.hid (checkTask_1 hp3 z1)
    have b1 : (p3 != 0) = true := by simpa using z1
    clear hp3
    go_enter_defers Try.func64, Try.ntmps64
    go_wp2_with (fail)
    refine (HRU.out _ hA).mono ?_
    rintro e w1 ⟨rfl, hb⟩
    have Bw1 : Below (w.heap.size + 2) ((w.alloc (taskO T ⟨sh, sw, ⟨da, dc⟩, ⟨ta, tc⟩⟩)).alloc faultCells) w1 := hb.mono (by simp)
    have hzw1 := Bw1.size; simp only [World.size_alloc] at hzw1
    clear hb
    have hlt1 : w.heap.size + 1 < w1.heap.size := by omega
    have hlt0 : w.heap.size < w1.heap.size := by omega
    obtain ⟨⟨f0, f1, f2⟩, ⟨y0, y1, y2⟩⟩ := HF.out _ Bw1
    go_wp2_with (fail)
    refine left_plain Try.results64 HR.out (B := w.heap.size + 1) ?_ ?_ ?_ ?_ rfl
    · go_simp
    · go_simp
    · go_simp
    · have := HB0.out _ Bw1
      repeat' (first | exact Below.refl _ _ | assumption | refine below_drewN ?_ _ | refine Below.drew ?_ | refine Below.alloc ?_ (by first | assumption | omega | (simp <;> omega)) _ | refine Below.setCell ?_ (by first | assumption | omega | (simp <;> omega)) _)
end Go.Proofs.Ytfjbgcaogffiaaa
