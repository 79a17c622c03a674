/-
  The reference's CheckTask of the decay layer.
  The reference's valid of the decay layer.
-/
import Derived.Test.YtfjbgcaogffiaaaDRefA
import Derived.Test.YtfjbgcaogffiaaaDTask
namespace Go.Proofs.Ytfjbgcaogffiaaa
open Go.RowKit D
set_option linter.unusedVariables false
set_option linter.unusedSimpArgs false
attribute [local go_sem high] run_minI run_maxI
set_option maxRecDepth 100000 in
set_option maxHeartbeats 3200000 in
theorem checkTaskR_any {T : Task} {s : TSl} {w : World} (hT : TaskAt w T s) :
    Calls Try.prog 22 #[.agg #[.slice s.h.a T.rule.heat.length s.h.cap, .slice s.w.a T.rule.wet.length s.w.cap, .int .i64 T.rule.own, .int .i64 T.rule.feed, .int .i64 T.rule.g0, .int .i64 T.rule.g1, .int .i64 T.rule.g2, .int .i64 T.rule.lost, .int .i64 T.first, .slice s.d.a T.days.length s.d.cap, .int .i64 T.start.lo, .int .i64 T.start.hi, .slice s.t.a T.tests.length s.t.cap]] w fun e w' => e = .returned (.tuple #[.int .i64 (D.checkTask T).1, .int .i64 (D.checkTask T).2.1, .int .i64 (D.checkTask T).2.2]) ∧ Below w.heap.size w w' := by
  obtain ⟨sh, sw, ⟨da, dc⟩, ⟨ta, tc⟩⟩ := s
  dsimp only
  have hheap : ∀ W, Below (w.heap.size + 1) (w.alloc (taskO T ⟨sh, sw, ⟨da, dc⟩, ⟨ta, tc⟩⟩)) W → W.heap[w.heap.size]? = some (taskO T ⟨sh, sw, ⟨da, dc⟩, ⟨ta, tc⟩⟩) := fun W hb => (hb.block _ (by omega)).trans (heap_alloc_new w _)
  have hfr : ∀ W, Below (w.heap.size + 1) (w.alloc (taskO T ⟨sh, sw, ⟨da, dc⟩, ⟨ta, tc⟩⟩)) W → Below w.heap.size w W := fun W hb => (below_alloc w _).trans (hb.mono (by omega))
  have HB0 := Lib.hid hfr; clear hfr
  have hcells : ∀ W, Below (w.heap.size + 1) (w.alloc (taskO T ⟨sh, sw, ⟨da, dc⟩, ⟨ta, tc⟩⟩)) W → W.cell? ⟨w.heap.size, 8, none⟩ = some (.int .i64 T.first) ∧ W.cell? ⟨w.heap.size, 9, none⟩ = some (.slice da T.days.length dc) ∧ W.cell? ⟨w.heap.size, 10, none⟩ = some (.int .i64 T.start.lo) ∧ W.cell? ⟨w.heap.size, 11, none⟩ = some (.int .i64 T.start.hi) ∧ W.cell? ⟨w.heap.size, 12, none⟩ = some (.slice ta T.tests.length tc) := fun W hb => by
    have h := hheap W hb
    simp [World.cell?, h, taskO]
  have HC := Lib.hid hcells; clear hcells hheap
  have hrule : ∀ W, Below w.heap.size w W → Calls Try.prog 36 #[.agg #[.slice sh.a T.rule.heat.length sh.cap, .slice sw.a T.rule.wet.length sw.cap, .int .i64 T.rule.own, .int .i64 T.rule.feed, .int .i64 T.rule.g0, .int .i64 T.rule.g1, .int .i64 T.rule.g2, .int .i64 T.rule.lost]] W fun e w' => e = .returned (.tuple #[.int .i64 (D.check T.rule).1, .int .i64 (D.check T.rule).2.1, .int .i64 (D.check T.rule).2.2]) ∧ Below W.heap.size W w' := fun W hb => check_any (hT.rule.below hb)
  have hD : Hid (DaysS w ⟨da, dc⟩ T.days) := hT.days
  have hTt : Hid (TestsS w ⟨ta, tc⟩ T.tests) := hT.tests
  have hml : T.days.length ≤ dc := hT.days.le
  have hmd : dc ≤ 9223372036854775807 := hT.days.max
  have hmt : T.tests.length ≤ tc := hT.tests.le
  have hmtt : tc ≤ 9223372036854775807 := hT.tests.max
  obtain ⟨p1, p2, p3, hp⟩ : ∃ a b c, D.check T.rule = (a, b, c) := ⟨_, _, _, rfl⟩
  rw [hp] at hrule
  have HRU := Lib.hid hrule; clear hrule hT
  have hp3 : (D.check T.rule).2.2 = p3 := by rw [hp]
  clear hp
  by_cases z1 : p3 = 0
  · subst z1
    by_cases g1 : 400 < (T.days.length : Int)
    · have HR := Lib.hid (checkTask_2 hp3 (by omega))
      clear hp3
      go_enter Try.func22, Try.ntmps22
      go_wp2_with (fail)
      refine (HRU.out _ (below_alloc w _)).mono ?_
      rintro e w1 ⟨rfl, hb⟩
      have Bw1 : Below (w.heap.size + 1) (w.alloc (taskO T ⟨sh, sw, ⟨da, dc⟩, ⟨ta, tc⟩⟩)) w1 := hb.mono (by simp)
      have hzw1 := Bw1.size; simp only [World.size_alloc] at hzw1
      clear hb
      obtain ⟨q8, q9, q10, q11, q12⟩ := HC.out _ Bw1
      go_wp2_with (go_at_call 54; refine (in_any _ _ _ _).mono ?_; rintro e w' ⟨rfl, rfl⟩)
      go_ret3
      rw [HR.out]
      exact ⟨rfl, HB0.out _ Bw1⟩
    · by_cases g2 : 20 < (T.tests.length : Int)
      · have HR := Lib.hid (checkTask_2 hp3 (by omega))
        clear hp3
        go_enter Try.func22, Try.ntmps22
        go_wp2_with (fail)
        refine (HRU.out _ (below_alloc w _)).mono ?_
        rintro e w1 ⟨rfl, hb⟩
        have Bw1 : Below (w.heap.size + 1) (w.alloc (taskO T ⟨sh, sw, ⟨da, dc⟩, ⟨ta, tc⟩⟩)) w1 := hb.mono (by simp)
        have hzw1 := Bw1.size; simp only [World.size_alloc] at hzw1
        clear hb
        obtain ⟨q8, q9, q10, q11, q12⟩ := HC.out _ Bw1
        go_wp2_with (go_at_call 54; refine (in_any _ _ _ _).mono ?_; rintro e w' ⟨rfl, rfl⟩)
        go_ret3
        rw [HR.out]
        exact ⟨rfl, HB0.out _ Bw1⟩
      · by_cases g3 : inB T.first 0 80000 = true
        · have g3' := inB_of g3
          by_cases g4 : 80000 < T.first + (T.days.length : Int)
          · have HR := Lib.hid (checkTask_3 hp3 (by omega) (by omega))
            clear hp3
            go_enter Try.func22, Try.ntmps22
            go_wp2_with (fail)
            refine (HRU.out _ (below_alloc w _)).mono ?_
            rintro e w1 ⟨rfl, hb⟩
            have Bw1 : Below (w.heap.size + 1) (w.alloc (taskO T ⟨sh, sw, ⟨da, dc⟩, ⟨ta, tc⟩⟩)) w1 := hb.mono (by simp)
            have hzw1 := Bw1.size; simp only [World.size_alloc] at hzw1
            clear hb
            obtain ⟨q8, q9, q10, q11, q12⟩ := HC.out _ Bw1
            go_wp2_with (go_at_call 54; refine (in_any _ _ _ _).mono ?_; rintro e w' ⟨rfl, rfl⟩)
            go_ret3
            rw [HR.out]
            exact ⟨rfl, HB0.out _ Bw1⟩
          · have ht3 : Task3 T := ⟨hp3, by omega, by omega⟩
            have HT3 := Lib.hid ht3; clear ht3 hp3
            go_enter Try.func22, Try.ntmps22
            go_wp2_with (fail)
            refine (HRU.out _ (below_alloc w _)).mono ?_
            rintro e w1 ⟨rfl, hb⟩
            have Bw1 : Below (w.heap.size + 1) (w.alloc (taskO T ⟨sh, sw, ⟨da, dc⟩, ⟨ta, tc⟩⟩)) w1 := hb.mono (by simp)
            have hzw1 := Bw1.size; simp only [World.size_alloc] at hzw1
            clear hb
            obtain ⟨q8, q9, q10, q11, q12⟩ := HC.out _ Bw1
            go_wp2_with (go_at_call 54; refine (in_any _ _ _ _).mono ?_; rintro e w' ⟨rfl, rfl⟩)
            go_loopw [8] (fun i wr => ∃ k : Nat, k ≤ T.days.length ∧ i = .int .i64 k ∧ Below (w.heap.size + 1) (w.alloc (taskO T ⟨sh, sw, ⟨da, dc⟩, ⟨ta, tc⟩⟩)) wr ∧ ∀ j, j < k → badDay T j = 0) (fun i _ => T.days.length - (intOf i).toNat)
            case atStart => exact ⟨0, by omega, rfl, Bw1, fun j h => absurd h (by omega)⟩
            case round =>
              obtain ⟨k, hk, rfl, Bwr, hbad⟩ := hrel
              have HB := Lib.hid hbad; clear hbad
              clear q8 q9 q10 q11 q12
              obtain ⟨q8, q9, q10, q11, q12⟩ := HC.out _ Bwr
              have hzwr := Bwr.size; simp only [World.size_alloc] at hzwr
              by_cases hlt : k < T.days.length
              · have HLr := Lib.hid (hD.out.below (HB0.out _ Bwr))
                obtain ⟨b, off, rfl, x0, x1, x2, x3⟩ := days_at HLr.out hlt
                have pw6 : (k : Int) < (T.days.length : Int) := by omega
                by_cases g5 : climateE (dayD T.days k) = 0
                · go_wp2_with (fail)
                  refine (climate_any (dayD T.days k) _).mono ?_
                  rintro e w5 ⟨rfl, hb⟩
                  rw [g5]
                  have Bw5 := Bwr.trans (hb.mono (by omega))
                  clear hb
                  go_wp2_with (fail)
                  go_roundw
                  case rel => exact ⟨k + 1, by omega, by go_num, Bw5, below_succ HB.out g5⟩
                  case measure => simp [intOf]; omega
                · have HR := Lib.hid (checkTask_4 HT3.out HB.out hlt rfl g5)
                  go_wp2_with (fail)
                  refine (climate_any (dayD T.days k) _).mono ?_
                  rintro e w5 ⟨rfl, hb⟩
                  have Bw5 := Bwr.trans (hb.mono (by omega))
                  clear hb
                  obtain ⟨z, hz⟩ : ∃ z, z = climateE (dayD T.days k) := ⟨_, rfl⟩
                  rw [← hz]
                  have bz : (z != 0) = true := by rw [bne_iff_ne, hz]; exact g5
                  have HZ := Lib.hid hz; clear hz g5
                  go_wp2_with (fail)
                  go_ret3
                  rw [HR.out]
                  exact ⟨by rw [HZ.out]; rfl, HB0.out _ Bw5⟩
              · obtain rfl : k = T.days.length := by omega
                by_cases g6 : levelsE T.start.lo T.start.hi = 0
                · go_wp2_with (fail)
                  refine (levels_any T.start.lo T.start.hi _).mono ?_
                  rintro e w5 ⟨rfl, hb⟩
                  rw [g6]
                  have Bw5 := Bwr.trans (hb.mono (by omega))
                  clear hb
                  clear q8 q9 q10 q11 q12
                  obtain ⟨q8, q9, q10, q11, q12⟩ := HC.out _ Bw5
                  go_wp2_with (fail)
                  obtain ⟨wo, rfl⟩ : ∃ wo : World, wo = wr := ⟨_, rfl⟩
                  have HBD := Lib.hid HB.out; clear HB
                  go_loopw [10] (fun i wr => ∃ k : Nat, k ≤ T.tests.length ∧ i = .int .i64 k ∧ Below (w.heap.size + 1) (w.alloc (taskO T ⟨sh, sw, ⟨da, dc⟩, ⟨ta, tc⟩⟩)) wr ∧ ∀ j, j < k → badTest T j = 0) (fun i _ => T.tests.length - (intOf i).toNat)
                  case atStart => exact ⟨0, by omega, rfl, Bw5, fun j h => absurd h (by omega)⟩
                  case round =>
                    obtain ⟨k, hk, rfl, Bwr2, hbad⟩ := hrel
                    have HB := Lib.hid hbad; clear hbad
                    clear q8 q9 q10 q11 q12
                    obtain ⟨q8, q9, q10, q11, q12⟩ := HC.out _ Bwr2
                    have hzwr2 := Bwr2.size; simp only [World.size_alloc] at hzwr2
                    by_cases hlt : k < T.tests.length
                    · have HLr := Lib.hid (hTt.out.below (HB0.out _ Bwr2))
                      obtain ⟨b, off, rfl, x0, x1, x2⟩ := tests_at HLr.out hlt
                      have pw6 : (k : Int) < (T.tests.length : Int) := by omega
                      have hlw0 : w.heap.size < wr.heap.size := by omega
                      have Bw7 := Bwr2.alloc hzwr2 (.cells #[.int .i64 (testD T.tests k).day, .int .i64 (testD T.tests k).grade, .int .i64 (testD T.tests k).err] 51 (0, 0))
                      by_cases g7 : inB (testD T.tests k).day T.first (T.first + (T.days.length : Int)) = true
                      · by_cases g8 : inB (testD T.tests k).grade 0 3 = true
                        · by_cases g9 : inB (testD T.tests k).err 0 3 = true
                          · have HZ := Lib.hid (badTest_0 (T := T) (i := k) (inB_of g7) ⟨inB_of g8, inB_of g9⟩)
                            go_wp2_with (go_at_call 54; refine (in_any _ _ _ _).mono ?_; rintro e w' ⟨rfl, rfl⟩)
                            go_roundw
                            case rel => exact ⟨k + 1, by omega, by go_num, Bw7, below_succ HB.out HZ.out⟩
                            case measure => simp [intOf]; omega
                          · have HR := Lib.hid (checkTask_6 HT3.out HBD.out g6 HB.out hlt (badTest_7 (fun h => g9 (inB_t h.2))) (by decide))
                            go_wp2_with (go_at_call 54; refine (in_any _ _ _ _).mono ?_; rintro e w' ⟨rfl, rfl⟩)
                            go_ret3
                            rw [HR.out]
                            exact ⟨rfl, HB0.out _ Bw7⟩
                        · have HR := Lib.hid (checkTask_6 HT3.out HBD.out g6 HB.out hlt (badTest_7 (fun h => g8 (inB_t h.1.2))) (by decide))
                          go_wp2_with (go_at_call 54; refine (in_any _ _ _ _).mono ?_; rintro e w' ⟨rfl, rfl⟩)
                          go_ret3
                          rw [HR.out]
                          exact ⟨rfl, HB0.out _ Bw7⟩
                      · have HR := Lib.hid (checkTask_6 HT3.out HBD.out g6 HB.out hlt (badTest_7 (fun h => g7 (inB_t h.1.1))) (by decide))
                        go_wp2_with (go_at_call 54; refine (in_any _ _ _ _).mono ?_; rintro e w' ⟨rfl, rfl⟩)
                        go_ret3
                        rw [HR.out]
                        exact ⟨rfl, HB0.out _ Bw7⟩
                    · obtain rfl : k = T.tests.length := by omega
                      have HR := Lib.hid (checkTask_7 HT3.out HBD.out g6 HB.out)
                      go_wp2_with (fail)
                      go_ret3
                      rw [HR.out]
                      exact ⟨rfl, HB0.out _ Bwr2⟩
                · have HR := Lib.hid (checkTask_5 HT3.out HB.out rfl g6)
                  go_wp2_with (fail)
                  refine (levels_any T.start.lo T.start.hi _).mono ?_
                  rintro e w5 ⟨rfl, hb⟩
                  have Bw5 := Bwr.trans (hb.mono (by omega))
                  clear hb
                  obtain ⟨z, hz⟩ : ∃ z, z = levelsE T.start.lo T.start.hi := ⟨_, rfl⟩
                  rw [← hz]
                  have bz : (z != 0) = true := by rw [bne_iff_ne, hz]; exact g6
                  have HZ := Lib.hid hz; clear hz g6
                  go_wp2_with (fail)
                  go_ret3
                  rw [HR.out]
                  exact ⟨by rw [HZ.out]; rfl, HB0.out _ Bw5⟩
        · have HR := Lib.hid (checkTask_3 hp3 (by omega) (fun h => g3 (inB_t h.1)))
          clear hp3
          go_enter Try.func22, Try.ntmps22
          go_wp2_with (fail)
          refine (HRU.out _ (below_alloc w _)).mono ?_
          rintro e w1 ⟨rfl, hb⟩
          have Bw1 : Below (w.heap.size + 1) (w.alloc (taskO T ⟨sh, sw, ⟨da, dc⟩, ⟨ta, tc⟩⟩)) w1 := hb.mono (by simp)
          have hzw1 := Bw1.size; simp only [World.size_alloc] at hzw1
          clear hb
          obtain ⟨q8, q9, q10, q11, q12⟩ := HC.out _ Bw1
          go_wp2_with (go_at_call 54; refine (in_any _ _ _ _).mono ?_; rintro e w' ⟨rfl, rfl⟩)
          go_ret3
          rw [HR.out]
          exact ⟨rfl, HB0.out _ Bw1⟩
  · have HR := Lib.hid (checkTask_1 hp3 z1)
    have b1 : (p3 != 0) = true := by simpa using z1
    clear hp3
    go_enter Try.func22, Try.ntmps22
    go_wp2_with (fail)
    refine (HRU.out _ (below_alloc w _)).mono ?_
    rintro e w1 ⟨rfl, hb⟩
    have Bw1 : Below (w.heap.size + 1) (w.alloc (taskO T ⟨sh, sw, ⟨da, dc⟩, ⟨ta, tc⟩⟩)) w1 := hb.mono (by simp)
    have hzw1 := Bw1.size; simp only [World.size_alloc] at hzw1
    clear hb
    obtain ⟨q8, q9, q10, q11, q12⟩ := HC.out _ Bw1
    go_wp2_with (go_at_call 54; refine (in_any _ _ _ _).mono ?_; rintro e w' ⟨rfl, rfl⟩)
    go_ret3
    rw [HR.out]
    exact ⟨rfl, HB0.out _ Bw1⟩
end Go.Proofs.Ytfjbgcaogffiaaa
namespace Go.Proofs.Ytfjbgcaogffiaaa
open Go.RowKit D
set_option linter.unusedVariables false
set_option linter.unusedSimpArgs false
attribute [local go_sem high] run_minI run_maxI
theorem valid_any {T : Task} {s : TSl} {w : World} (hT : TaskAt w T s) :
    Calls Try.prog 52 #[.agg #[.slice s.h.a T.rule.heat.length s.h.cap, .slice s.w.a T.rule.wet.length s.w.cap, .int .i64 T.rule.own, .int .i64 T.rule.feed, .int .i64 T.rule.g0, .int .i64 T.rule.g1, .int .i64 T.rule.g2, .int .i64 T.rule.lost, .int .i64 T.first, .slice s.d.a T.days.length s.d.cap, .int .i64 T.start.lo, .int .i64 T.start.hi, .slice s.t.a T.tests.length s.t.cap]] w fun e w' => e = .returned (.int .i64 (D.checkTask T).2.2) ∧ Below w.heap.size w w' := by
  have C := checkTaskR_any (hT.below (below_alloc w (taskO T s)))
  obtain ⟨p1, p2, p3, hp⟩ : ∃ a b c, D.checkTask T = (a, b, c) := ⟨_, _, _, rfl⟩
  rw [hp] at C ⊢
  have HC := Lib.hid C; clear C hT
  go_enter Try.func52, Try.ntmps52
  go_wp2_with (fail)
  refine HC.out.mono ?_
  rintro e w1 ⟨rfl, hb⟩
  have B1 : Below w.heap.size w w1 := (below_alloc w _).trans (hb.mono (by simp))
  clear hb
  go_wp2_with (fail)
  go_ret
  exact ⟨rfl, B1⟩
end Go.Proofs.Ytfjbgcaogffiaaa
