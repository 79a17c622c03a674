/-
  The reference's known: what can be known of all mornings.
-/
import Derived.Test.YtfjbgcaogffiaaaDRefTaken2
import Derived.Test.YtfjbgcaogffiaaaDKnowA
import Derived.Deep.LoopGhost
namespace Go.Proofs.Ytfjbgcaogffiaaa
open Go.RowKit D
set_option linter.unusedVariables false
set_option linter.unusedSimpArgs false
attribute [local go_sem high] run_minI run_maxI
attribute [local go_sem] upon2 cls_cell cls_frozen forall_const exists_eq_left'
theorem elSpan : Elem Try.prog 32 28 (.agg #[.int .i64 0, .int .i64 0]) 2 16 := ⟨by kernel_rfl, by kernel_rfl, rfl, by omega, by omega⟩
theorem takenR_any {T : Task} {s : TSl} {w : World} (hT : TaskAt w T s) (hk : TaskOk T) : Calls Try.prog 88 #[.agg #[.slice s.h.a T.rule.heat.length s.h.cap, .slice s.w.a T.rule.wet.length s.w.cap, .int .i64 T.rule.own, .int .i64 T.rule.feed, .int .i64 T.rule.g0, .int .i64 T.rule.g1, .int .i64 T.rule.g2, .int .i64 T.rule.lost, .int .i64 T.first, .slice s.d.a T.days.length s.d.cap, .int .i64 T.start.lo, .int .i64 T.start.hi, .slice s.t.a T.tests.length s.t.cap]] w (TakenOut T w) := by
  rcases Nat.eq_zero_or_pos T.tests.length with h | h
  · exact taken_none hT hk h
  · obtain ⟨sh, sw, sd, ⟨ta, tc⟩⟩ := s
    obtain ⟨tb, toff, ha, hr⟩ := hT.tests.row h (by omega)
    obtain rfl : ta = some ⟨tb, toff, none⟩ := ha
    exact taken_some hT hk h hr
def KnownOut (T : Task) (w : World) (e : Ending) (w' : World) : Prop :=
  (∃ v u, e = .returned (.tuple #[v, u]) ∧ OwnR w' w.heap.size 28 2 v (T.days.length + 1) (spC (lv T)) ∧ OwnR w' w.heap.size 65 2 u (struckT T).length (strikeC (struckT T))) ∧ Below w.heap.size w w'
/-- What the walk of known needs of the slices of its task, where they hold anything. -/
structure Parts (w : World) (T : Task) (db doff tb toff : Nat) : Prop where
  days : 0 < T.days.length → RowC w db doff 4 T.days.length (dayC T.days)
  tests : 0 < T.tests.length → RowC w tb toff 3 T.tests.length (testC T.tests)
def mixF (T : Task) (j m : Nat) : Span := if j ≤ m then lv T m else fwd T m
def cut1 (T : Task) (j i : Nat) (a : Span) (m : Nat) : Span := if m = i then a else mixF T j m
set_option maxRecDepth 100000 in
set_option maxHeartbeats 2000000 in
theorem known1 {T : Task} {sh sw : Sl} {da ta : Option Addr} {dc tc : Nat} {w : World} (hT : TaskAt w T ⟨sh, sw, ⟨da, dc⟩, ⟨ta, tc⟩⟩) (hk : TaskOk T) :
    Calls Try.prog 53 #[.agg #[.slice sh.a T.rule.heat.length sh.cap, .slice sw.a T.rule.wet.length sw.cap, .int .i64 T.rule.own, .int .i64 T.rule.feed, .int .i64 T.rule.g0, .int .i64 T.rule.g1, .int .i64 T.rule.g2, .int .i64 T.rule.lost, .int .i64 T.first, .slice da T.days.length dc, .int .i64 T.start.lo, .int .i64 T.start.hi, .slice ta T.tests.length tc]] w (KnownOut T w) := by
  have hnt := hk.nt
  have hnd := hk.nd
  have HO : Hid (∀ W, Below w.heap.size w W → Calls Try.prog 88 #[.agg #[.slice sh.a T.rule.heat.length sh.cap, .slice sw.a T.rule.wet.length sw.cap, .int .i64 T.rule.own, .int .i64 T.rule.feed, .int .i64 T.rule.g0, .int .i64 T.rule.g1, .int .i64 T.rule.g2, .int .i64 T.rule.lost, .int .i64 T.first, .slice da T.days.length dc, .int .i64 T.start.lo, .int .i64 T.start.hi, .slice ta T.tests.length tc]] W (TakenOut T W)) :=
    Lib.hid fun W hW => by
      have h := takenR_any (hT.below hW) hk
      dsimp only at h; exact h
  have HT := Lib.hid hT; have HK := Lib.hid hk
  clear hT hk
  go_enter Try.func53, Try.ntmps53
  go_wp2_with (fail)
  (with_reducible refine (HO.out _ ?_).mono ?_)
  · repeat' (first | exact Below.refl _ _ | assumption | refine below_drewN ?_ _ | refine Below.drew ?_ | refine Below.alloc ?_ (by first | assumption | omega | (simp <;> omega)) _ | refine Below.setCell ?_ (by first | assumption | omega | (simp <;> omega)) _ | refine Ext2.on (by assumption) ?_)
  rintro e w1 ⟨⟨v4, v5, rfl, hG, hS⟩, hB1⟩
  obtain ⟨⟨a4, cp4⟩, rfl, -⟩ := hG.sl
  obtain ⟨⟨a5, cp5⟩, rfl, -⟩ := hS.sl
  dsimp only at hG hS
  have b0 : w1.heap[w.heap.size]? = some (Obj.cells #[.slice sh.a T.rule.heat.length sh.cap, .slice sw.a T.rule.wet.length sw.cap, .int .i64 T.rule.own, .int .i64 T.rule.feed, .int .i64 T.rule.g0, .int .i64 T.rule.g1, .int .i64 T.rule.g2, .int .i64 T.rule.lost, .int .i64 T.first, .slice da T.days.length dc, .int .i64 T.start.lo, .int .i64 T.start.hi, .slice ta T.tests.length tc] 31) := below_blk hB1 (blk_new _ _) (by simp)
  have hB := Below.trans (Below.alloc (Below.refl w.heap.size w) (Nat.le_refl _) (Obj.cells #[.slice sh.a T.rule.heat.length sh.cap, .slice sw.a T.rule.wet.length sw.cap, .int .i64 T.rule.own, .int .i64 T.rule.feed, .int .i64 T.rule.g0, .int .i64 T.rule.g1, .int .i64 T.rule.g2, .int .i64 T.rule.lost, .int .i64 T.first, .slice da T.days.length dc, .int .i64 T.start.lo, .int .i64 T.start.hi, .slice ta T.tests.length tc] 31)) (hB1.mono (by simp))
  have hz1 := hB1.size; rw [World.size_alloc] at hz1
  have q0c := cell_blk b0
  have q0f := frz_blk b0
  have HG := Lib.hid hG; have HS := Lib.hid hS; have H0 := Lib.hid b0; have HB := Lib.hid hB
  clear hG hS hB hB1
  go_wp2_with (fail)
  clear q0c q0f b0
  have hgl := good_len (days_of HK.out)
  have hgl1 : (goodT T).length ≤ 20 := by omega
  clear hgl
  go_loopw [6, 8] (fun v u wr => ∃ i : Nat, u = .int .i64 (i : Int) ∧ i ≤ T.days.length + 1 ∧ Below w1.heap.size w1 wr ∧ wr.heap[w1.heap.size]? = some (Obj.cells #[.int .i64 (nowAt T i).lo, .int .i64 (nowAt T i).hi] 28) ∧ OwnR wr (w1.heap.size + 1) 28 2 v i (spC (fwd T))) (fun _ u _ => T.days.length + 1 - (intOf u).toNat)
  case atStart => exact ⟨0, rfl, by omega, by repeat' (first | exact Below.refl _ _ | assumption | refine below_drewN ?_ _ | refine Below.drew ?_ | refine Below.alloc ?_ (by first | assumption | omega | (simp <;> omega)) _ | refine Below.setCell ?_ (by first | assumption | omega | (simp <;> omega)) _ | refine Ext2.on (by assumption) ?_), blk_new _ _, own_nil _ _ _ _ _⟩
  case round =>
    obtain ⟨i, rfl, hi, hBr, b7, hO⟩ := hrel
    have b0 : wr.heap[w.heap.size]? = some (Obj.cells #[.slice sh.a T.rule.heat.length sh.cap, .slice sw.a T.rule.wet.length sw.cap, .int .i64 T.rule.own, .int .i64 T.rule.feed, .int .i64 T.rule.g0, .int .i64 T.rule.g1, .int .i64 T.rule.g2, .int .i64 T.rule.lost, .int .i64 T.first, .slice da T.days.length dc, .int .i64 T.start.lo, .int .i64 T.start.hi, .slice ta T.tests.length tc] 31) := below_blk hBr H0.out (by omega)
    have hzr := blk_lt b7
    by_cases hlt : i ≤ T.days.length
    · obtain ⟨na, hna⟩ : ∃ na, na = nowAt T i := ⟨_, rfl⟩
      rw [← hna] at b7
      obtain ⟨da', hda'⟩ : ∃ da', da' = (dawn T i).now := ⟨_, rfl⟩
      have hnaL : LevOk na := by
        rw [hna, nowAt]; split
        · exact ⟨HK.out.start.1, HK.out.start.2.1⟩
        · exact (fwd_sp HK.out (by omega)).1
      have hon : 0 < i → ∀ W, Below w.heap.size w W → Calls Try.prog 89 #[.agg #[.slice sh.a T.rule.heat.length sh.cap, .slice sw.a T.rule.wet.length sw.cap, .int .i64 T.rule.own, .int .i64 T.rule.feed, .int .i64 T.rule.g0, .int .i64 T.rule.g1, .int .i64 T.rule.g2, .int .i64 T.rule.lost, .int .i64 T.first, .slice da T.days.length dc, .int .i64 T.start.lo, .int .i64 T.start.hi, .slice ta T.tests.length tc], .agg #[.int .i64 na.lo, .int .i64 na.hi], .int .i64 ((i : Int) - 1), .int .i64 (i : Int)] W fun e w' => e = .returned (.agg #[.int .i64 da'.lo, .int .i64 da'.hi]) ∧ Below W.heap.size W w' := fun h0 W hW => by
        have h := onR_any (s := ⟨sh, sw, ⟨da, dc⟩, ⟨ta, tc⟩⟩) (n := na) (i := i - 1) (j := i) (HT.out.below hW) HK.out hnaL (by omega) hlt
        rw [on_one _ _ _ h0, hna, ← dawn_next T h0, ← hna, ← hda', show ((i - 1 : Nat) : Int) = (i : Int) - 1 by omega] at h
        dsimp only at h; exact h
      have hd0 : i = 0 → da' = na := fun h => by rw [hda', hna, h]; rfl
      have HON := Lib.hid hon; have HD0 := Lib.hid hd0; have HDA := Lib.hid hda'; have HO6 := Lib.hid hO
      clear hon hd0 hda' hna hnaL hO
      have q0c := cell_blk b0
      have q0f := frz_blk b0
      have q7c := cell_blk b7
      have q7f := frz_blk b7
      have hlt' : (i : Int) ≤ (T.days.length : Int) := by omega
      rcases Nat.eq_zero_or_pos i with hz | hz
      case' inl =>
        have e1 := HD0.out hz
        have hn0 : ¬ (0 : Int) < (i : Int) := by omega
        have hn1 : (i : Int) ≤ 0 := by omega
        have E1 := Lib.hid e1; have HZ := Lib.hid hz
        clear e1 hz
        go_wp2_with (fail)
        refine wp_name ?_
        intro w5 h5
        have p0 : w5.heap[w.heap.size]? = some (Obj.cells #[.slice sh.a T.rule.heat.length sh.cap, .slice sw.a T.rule.wet.length sw.cap, .int .i64 T.rule.own, .int .i64 T.rule.feed, .int .i64 T.rule.g0, .int .i64 T.rule.g1, .int .i64 T.rule.g2, .int .i64 T.rule.lost, .int .i64 T.first, .slice da T.days.length dc, .int .i64 T.start.lo, .int .i64 T.start.hi, .slice ta T.tests.length tc] 31) := by rw [h5]; exact b0
        have p7 : w5.heap[w1.heap.size]? = some (Obj.cells #[.int .i64 da'.lo, .int .i64 da'.hi] 28) := by rw [h5, E1.out]; exact b7
        have hB5 : Below w1.heap.size w1 w5 := by rw [h5]; exact hBr
        have hA5 : Above (w1.heap.size + 1) wr w5 := by rw [h5]; exact Above.refl _ _
        clear h5 hn0 hn1
      case' inr =>
        have hn0 : (0 : Int) < (i : Int) := by omega
        have hn1 : (1 : Int) ≤ (i : Int) := by omega
        have hn2 : (i : Int) ≤ 400 := by omega
        go_wp2_with (fail)
        (with_reducible refine (HON.out hz _ (HB.out.trans (hBr.mono (by omega)))).mono ?_)
        rintro e w4 ⟨rfl, hg4⟩
        have hg4' : Ext2 wr w4 := hg4
        have k0_ := hg4'.blk b0; have k7 := hg4'.blk b7
        have hB4 := hBr.trans (Below.mono hg4 (by omega))
        have hA4 := (Above.refl (w1.heap.size + 1) wr).ext hg4'
        have hz4 := hg4'.size
        clear q0c q0f q7c q7f hg4 hg4'
        have q7c := cell_blk k7
        have q7f := frz_blk k7
        go_wp2_with (fail)
        refine wp_name ?_
        intro w5 h5
        have p0 : w5.heap[w.heap.size]? = some (Obj.cells #[.slice sh.a T.rule.heat.length sh.cap, .slice sw.a T.rule.wet.length sw.cap, .int .i64 T.rule.own, .int .i64 T.rule.feed, .int .i64 T.rule.g0, .int .i64 T.rule.g1, .int .i64 T.rule.g2, .int .i64 T.rule.lost, .int .i64 T.first, .slice da T.days.length dc, .int .i64 T.start.lo, .int .i64 T.start.hi, .slice ta T.tests.length tc] 31) := by rw [h5]; repeat' (first | (with_reducible assumption) | (with_reducible refine blk_set_ne ?_ ?_) | (with_reducible exact blk_new _ _) | (with_reducible refine blk_new' _ _ (by first | (with_reducible rfl) | (simp; done) | (simp <;> omega))) | (with_reducible refine blk_alloc ?_ _) | (with_reducible refine blk_drew ?_) | (with_reducible refine blk_drewN ?_ _) | (with_reducible refine Ext2.blk (by assumption) ?_) | omega | (simp <;> omega) | exact blk_set (by assumption) _ _)
        have p7 : w5.heap[w1.heap.size]? = some (Obj.cells #[.int .i64 da'.lo, .int .i64 da'.hi] 28) := by rw [h5]; exact blk_set (blk_set k7 _ _) _ _
        have hB5 : Below w1.heap.size w1 w5 := by rw [h5]; exact below_set (below_set hB4 (by omega)) (by omega)
        have hA5 : Above (w1.heap.size + 1) wr w5 := by rw [h5]; repeat' (first | (with_reducible assumption) | (with_reducible exact Above.refl _ _) | (with_reducible refine Above.set ?_ (by omega)) | (with_reducible refine Above.alloc ?_ _) | (with_reducible refine Above.ext ?_ (by assumption)))
        clear h5 hn0 hn1 hn2 hB4 hA4 k0_ k7
      all_goals
        clear b7 b0
        obtain ⟨wo, rfl⟩ : ∃ wo : World, wo = wr := ⟨_, rfl⟩
        try clear q0c q0f q7c q7f
        go_loopw [9] (fun u wi => ∃ k : Nat, u = .int .i64 (k : Int) ∧ k ≤ (goodT T).length ∧ Below w1.heap.size w1 wi ∧ wi.heap[w1.heap.size]? = some (Obj.cells #[.int .i64 (((goodT T).take k).foldl (gF T i) da').lo, .int .i64 (((goodT T).take k).foldl (gF T i) da').hi] 28) ∧ Above (w1.heap.size + 1) wo wi) (fun u _ => (goodT T).length - (intOf u).toNat)
        case atStart => exact ⟨0, rfl, by omega, hB5, p7, hA5⟩
        case round =>
          obtain ⟨k, rfl, hk, hBi, i7, hAi⟩ := hrel
          have hzi := blk_lt i7
          have i0 : wr.heap[w.heap.size]? = some (Obj.cells #[.slice sh.a T.rule.heat.length sh.cap, .slice sw.a T.rule.wet.length sw.cap, .int .i64 T.rule.own, .int .i64 T.rule.feed, .int .i64 T.rule.g0, .int .i64 T.rule.g1, .int .i64 T.rule.g2, .int .i64 T.rule.lost, .int .i64 T.first, .slice da T.days.length dc, .int .i64 T.start.lo, .int .i64 T.start.hi, .slice ta T.tests.length tc] 31) := below_blk hBi H0.out (by omega)
          by_cases hkl : k < (goodT T).length
          · rcases HG.out.forms with ⟨_, h⟩ | ⟨g4, cp4', he, hg4b, hc4, hc4', hr4, -, -⟩
            · omega
            obtain ⟨rfl, rfl⟩ : a4 = some ⟨g4, 0, none⟩ ∧ cp4 = cp4' := by simpa using he
            have c4 := (hr4.below hBi).one (i := k) hkl
            rw [Nat.zero_add] at c4
            have hjm := good_lt (days_of HK.out) _ (List.getElem_mem hkl)
            have htn : 0 < T.tests.length := by omega
            obtain ⟨tb, toff, hta, hrT⟩ := HT.out.tests.row htn (by omega)
            obtain rfl : ta = some ⟨tb, toff, none⟩ := hta
            have hts := (List.take_succ_eq_append_getElem hkl)
            have hgd : (goodT T).getD k 0 = (goodT T)[k] := by rw [List.getD_eq_getElem?_getD, List.getElem?_eq_getElem hkl]; rfl
            obtain ⟨j, hj⟩ : ∃ j, j = (goodT T)[k] := ⟨_, rfl⟩
            rw [← hj] at hjm hts hgd
            have hfs : ((goodT T).take (k + 1)).foldl (gF T i) da' = gF T i (((goodT T).take k).foldl (gF T i) da') j := by rw [hts, List.foldl_append]; rfl
            obtain ⟨sp, hsp⟩ : ∃ sp, sp = ((goodT T).take k).foldl (gF T i) da' := ⟨_, rfl⟩
            rw [← hsp] at hfs i7
            have hmo := mo_days (days_of HK.out) hjm
            have hte := HK.out.tests j hjm
            have hf := HK.out.first
            obtain ⟨c0, c1, c2⟩ := (hrT.below (HB.out.trans (hBi.mono (by omega)))).three (i := j) hjm
            obtain ⟨m0, hm0⟩ : ∃ m0, m0 = mo T j := ⟨_, rfl⟩
            obtain ⟨x, hx⟩ : ∃ x, x = testD T.tests j := ⟨_, rfl⟩
            rw [← hm0] at hmo
            simp only [dayD', ← hx] at hmo
            rw [← hx] at hte
            simp only [testC, natC, hgd, ← hx] at c0 c1 c2 c4
            have hmo2 := hmo.2.symm
            have wx : IntKind.i64.wrap (x.day - T.first) = x.day - T.first := IntWalk.i64_in _ (by omega)
            have wm : IntKind.i64.wrap (m0 : Int) = (m0 : Int) := IntWalk.i64_in _ (by omega)
            have htc1 := HT.out.tests.le
            have htc2 := HT.out.tests.max
            dsimp only at htc1 htc2
            obtain ⟨kpj, hkpj⟩ : ∃ kpj, kpj = kp T j := ⟨_, rfl⟩
            have hkeep : ∀ W, Calls Try.prog 91 #[.agg #[.slice sh.a T.rule.heat.length sh.cap, .slice sw.a T.rule.wet.length sw.cap, .int .i64 T.rule.own, .int .i64 T.rule.feed, .int .i64 T.rule.g0, .int .i64 T.rule.g1, .int .i64 T.rule.g2, .int .i64 T.rule.lost], .agg #[.int .i64 x.day, .int .i64 x.grade, .int .i64 x.err]] W fun e w' => e = .returned (.agg #[.int .i64 kpj.lo, .int .i64 kpj.hi]) ∧ Below W.heap.size W w' := fun W => by
              rw [hkpj, kp, ← hx]; exact keepR_any hte.1 HK.out.rule
            have HKP := Lib.hid hkeep
            have HBO : Hid (∀ W, Calls Try.prog 90 #[.agg #[.int .i64 sp.lo, .int .i64 sp.hi], .agg #[.int .i64 kpj.lo, .int .i64 kpj.hi]] W fun e w' => e = .returned (.agg #[.int .i64 (both sp kpj).lo, .int .i64 (both sp kpj).hi]) ∧ Below W.heap.size W w') := Lib.hid fun W => both_any _ _ _ _ W
            have HFS := Lib.hid hfs; have HKPJ := Lib.hid hkpj; have HM0 := Lib.hid hm0
            have z0 : (0 : Int) ≤ (k : Int) := by omega
            have z1 : (k : Int) < ((goodT T).length : Int) := by omega
            have z2 : (0 : Int) ≤ (j : Int) := by omega
            have z3 : (j : Int) < (T.tests.length : Int) := by omega
            clear he hr4 hrT hts hgd hj hfs hsp hmo hte hf hm0 hx hkeep hkpj
            have q0c := cell_blk i0
            have q0f := frz_blk i0
            have q7c := cell_blk i7
            have q7f := frz_blk i7
            by_cases hmi : m0 = i
            · have hbe : ((m0 : Int) == (i : Int)) = true := by rw [hmi]; simp
              have hbe2 : (m0 == i) = true := by rw [hmi]; simp
              have HMI := Lib.hid hmi; clear hmi
              go_wp2_with (fail)
              go_quiet (fail)
              go_wp2_with (fail)
              refine wp_name ?_
              intro v1 h1
              have p0 := blk_drewN i0 nq; have p7 := blk_drewN i7 nq
              rw [← h1] at p0 p7
              have hBv : Below w1.heap.size w1 v1 := by rw [h1]; exact below_drewN hBi _
              have hAv : Above (w1.heap.size + 1) wo v1 := by rw [h1]; exact hAi
              have c4' : v1.cell? ⟨g4, k, none⟩ = some (.int .i64 (j : Int)) := by rw [h1]; exact c4
              have c0' : v1.cell? ⟨tb, toff + j * 3, none⟩ = some (.int .i64 x.day) := by rw [h1]; exact c0
              have c1' : v1.cell? ⟨tb, toff + j * 3 + 1, none⟩ = some (.int .i64 x.grade) := by rw [h1]; exact c1
              have c2' : v1.cell? ⟨tb, toff + j * 3 + 2, none⟩ = some (.int .i64 x.err) := by rw [h1]; exact c2
              clear h1 q0c q0f q7c q7f c0 c1 c2 c4
              have q0c := cell_blk p0
              have q0f := frz_blk p0
              have q7c := cell_blk p7
              have q7f := frz_blk p7
              refine region_take 13 (by kernel_rfl) (by kernel_rfl) (by intro c a d v w h; cases d <;> exact h) ?_
              simp only [List.take_succ_cons, List.take_zero, List.drop_succ_cons, List.drop_zero]
              repeat (refine wpQ2_step (fun K hK => ?_); go_simp; first | (refine hK _ ?_; clear hK K) | (apply Exists.intro; refine ⟨fun x => ?_, hK _ ?_⟩; (first | (with_reducible exact HKP.out x.1) | (with_reducible exact HBO.out x.1)); clear hK K))
              refine wpQ2_nil ?_
              intro v2 gv2
              have r7 := gv2.blk p7
              have hB2 := hBv.trans (Below.mono gv2 (by have := blk_lt p7; omega))
              have hA2 := hAv.ext gv2
              clear q0c q0f q7c q7f p0 p7 c0' c1' c2' c4' gv2 hBv hAv
              have q7c := cell_blk r7
              have q7f := frz_blk r7
              go_wp2_with (fail)
              go_roundw
              case rel =>
                refine ⟨k + 1, by go_num, by omega, below_set (below_set hB2 (by omega)) (by omega), ?_, by repeat' (first | (with_reducible assumption) | (with_reducible exact Above.refl _ _) | (with_reducible refine Above.set ?_ (by omega)) | (with_reducible refine Above.alloc ?_ _) | (with_reducible refine Above.ext ?_ (by assumption)))⟩
                rw [HFS.out, gF, if_pos (HM0.out.symm.trans HMI.out), ← HKPJ.out]; exact blk_set (blk_set r7 _ _) _ _
              case measure => simp [intOf]; omega
            · have hbe : ((m0 : Int) == (i : Int)) = false := by simp; omega
              have hbe2 : (m0 == i) = false := by simp; omega
              have HMI := Lib.hid hmi; clear hmi
              go_wp2_with (fail)
              go_quiet (fail)
              go_wp2_with (fail)
              go_roundw
              case rel =>
                refine ⟨k + 1, by go_num, by omega, below_drewN hBi _, ?_, hAi⟩
                rw [HFS.out, gF, if_neg (fun h => HMI.out (HM0.out.trans h))]; exact i7
              case measure => simp [intOf]; omega
          · have hkk : k = (goodT T).length := by omega
            have hfin : ((goodT T).take k).foldl (gF T i) da' = fwd T i := by rw [hkk, List.take_length, HDA.out]; exact gF_end T hlt
            rw [hfin] at i7
            have hna' : nowAt T (i + 1) = fwd T i := by rw [nowAt, if_neg (by omega)]; rfl
            have HNA := Lib.hid hna'
            obtain ⟨fi, hfi⟩ : ∃ fi, fi = fwd T i := ⟨_, rfl⟩
            rw [← hfi] at i7 HNA
            have HFI := Lib.hid hfi
            clear hkk hfin hna' hfi
            have q7c := cell_blk i7
            have q7f := frz_blk i7
            go_wp2_with (at_builtin; refine app_one [.int .i64 fi.lo, .int .i64 fi.hi] elSpan rfl _ _ rfl (w1.heap.size + 1) rfl ((HO6.out.above (by repeat' (first | (with_reducible assumption) | (with_reducible exact Above.refl _ _) | (with_reducible refine Above.set ?_ (by omega)) | (with_reducible refine Above.alloc ?_ _) | (with_reducible refine Above.ext ?_ (by assumption))))).below (below_alloc' _ _)) _ 1 rfl (blk_new' _ _ (by simp)) (by simp [Value.oneCell']) (by omega) (by simp; omega) ?_; intro v' w8 hO8 hg8)
            have tO := (HO6.out.above hAi).below (below_alloc' wr (.cells #[.int .i64 fi.lo, .int .i64 fi.hi] 28))
            have fO : OwnR w8 (w1.heap.size + 1) 28 2 v' (i + 1) (spC (fwd T)) := hO8.congr fun m q hm hq => by
              have hq' : q < 2 := hq
              rcases Nat.lt_or_ge m i with h | h
              · rw [upd_lt h]
              · obtain rfl : m = i := by omega
                rw [upd_at]
                rcases (by omega : q = 0 ∨ q = 1) with rfl | rfl <;> simp only [spC, ← HFI.out] <;> rfl
            have f7 := app_keeps tO hg8 (blk_alloc i7 _) (by omega)
            have fB := app_below (hBi.alloc (by omega) _) tO (by omega) (by rw [World.size_alloc]; omega) hg8
            clear tO hO8 hg8 i7 hAi hBi i0 q7c q7f
            go_roundw
            case rel => exact ⟨i + 1, by go_num, by omega, fB, by rw [HNA.out]; exact f7, fO⟩
            case measure => simp [intOf]; omega
    · have hii : i = T.days.length + 1 := by omega
      rw [hii] at hO
      have HOO := Lib.hid hO
      clear hO b7 hii hi
      have q0c := cell_blk b0
      have q0f := frz_blk b0
      have hlt' : (T.days.length : Int) < (i : Int) := by omega
      go_wp2_with (fail)
      rcases HOO.out.forms with ⟨_, h⟩ | ⟨g6, cp6, rfl, hg6b, hc6, hc6', -, -, -⟩
      · omega
      have hO0 : OwnR wr (w1.heap.size + 1) 28 2 (.slice (some ⟨g6, 0, none⟩) (T.days.length + 1) cp6) (T.days.length + 1) (spC (mixF T T.days.length)) := HOO.out.congr fun m q hm hq => by
        have e : mixF T T.days.length m = fwd T m := by
          rw [mixF]; split
          · obtain rfl : m = T.days.length := by omega
            exact lv_last T
          · rfl
        rcases (by omega : q = 0 ∨ q = 1) with rfl | rfl <;> simp only [spC, e]
      have HO0 := Lib.hid hO0; clear hO0 q0c q0f b0 HOO
      go_loopw [10] (fun u wi => ∃ j : Nat, u = .int .i64 ((j : Int) - 1) ∧ j ≤ T.days.length ∧ Below w1.heap.size w1 wi ∧ OwnR wi (w1.heap.size + 1) 28 2 (.slice (some ⟨g6, 0, none⟩) (T.days.length + 1) cp6) (T.days.length + 1) (spC (mixF T j))) (fun u _ => (intOf u + 1).toNat)
      case atStart => exact ⟨T.days.length, rfl, by omega, hBr, HO0.out⟩
      case round =>
        obtain ⟨j, rfl, hj, hBi, hOi⟩ := hrel
        rcases Nat.eq_zero_or_pos j with hj0 | hj0
        · subst hj0
          have hOf : OwnR wr (w1.heap.size + 1) 28 2 (.slice (some ⟨g6, 0, none⟩) (T.days.length + 1) cp6) (T.days.length + 1) (spC (lv T)) := hOi
          have HOF := Lib.hid hOf
          have HSF := Lib.hid ((HS.out.base (base' := w.heap.size) (by simp)).below (hBi.mono (Nat.le_refl _)))
          clear hOi hOf
          go_wp2_with (fail)
          go_ret2
          exact ⟨⟨_, _, rfl, HOF.out.base (by omega), HSF.out⟩, HB.out.trans (hBi.mono (by omega))⟩
        · obtain ⟨i, rfl⟩ : ∃ i, j = i + 1 := ⟨j - 1, by omega⟩
          rw [show ((i + 1 : Nat) : Int) - 1 = (i : Int) by omega]
          have i0 : wr.heap[w.heap.size]? = some (Obj.cells #[.slice sh.a T.rule.heat.length sh.cap, .slice sw.a T.rule.wet.length sw.cap, .int .i64 T.rule.own, .int .i64 T.rule.feed, .int .i64 T.rule.g0, .int .i64 T.rule.g1, .int .i64 T.rule.g2, .int .i64 T.rule.lost, .int .i64 T.first, .slice da T.days.length dc, .int .i64 T.start.lo, .int .i64 T.start.hi, .slice ta T.tests.length tc] 31) := below_blk hBi H0.out (by omega)
          have hdn : 0 < T.days.length := by omega
          obtain ⟨db, doff, hda, hrD⟩ := HT.out.days.row hdn (by omega)
          obtain rfl : da = some ⟨db, doff, none⟩ := hda
          have hdc1 := HT.out.days.le
          have hdc2 := HT.out.days.max
          dsimp only at hdc1 hdc2
          obtain ⟨c0, c1, c2, c3⟩ := (hrD.below (HB.out.trans (hBi.mono (by omega)))).four (i := i) (by omega)
          have hst := stepOk_at HK.out (i := i) (by omega)
          have hbk := lv_backOk HK.out (i := i) (by omega)
          have hdo := HK.out.days i (by omega)
          have hfa := fwd_sp HK.out (i := i) (by omega)
          rw [force_at (by omega)] at hst hbk
          obtain ⟨d, hd'⟩ : ∃ d, d = dayD T.days i := ⟨_, rfl⟩
          simp only [dayC, ← hd'] at c0 c1 c2 c3
          rw [← hd'] at hst hbk hdo
          have hX : ∀ W, Below w.heap.size w W → Calls Try.prog 66 #[.agg #[.slice sh.a T.rule.heat.length sh.cap, .slice sw.a T.rule.wet.length sw.cap, .int .i64 T.rule.own, .int .i64 T.rule.feed, .int .i64 T.rule.g0, .int .i64 T.rule.g1, .int .i64 T.rule.g2, .int .i64 T.rule.lost], .agg #[.int .i64 d.tlo, .int .i64 d.thi, .int .i64 d.dlo, .int .i64 d.dhi]] W fun e w' => e = .returned (.agg #[.int .i64 (strength T.rule d).lo, .int .i64 (strength T.rule d).hi]) ∧ Below W.heap.size W w' := fun W hW => strengthR_any (HT.out.rule.below hW) HK.out.rule hdo
          obtain ⟨s, hs⟩ : ∃ s, s = strength T.rule d := ⟨_, rfl⟩
          rw [← hs] at hst hbk hX
          obtain ⟨b, hb⟩ : ∃ b, b = lv T (i + 1) := ⟨_, rfl⟩
          obtain ⟨x0, hx0⟩ : ∃ x0, x0 = lv T i := ⟨_, rfl⟩
          obtain ⟨a, ha⟩ : ∃ a, a = fwd T i := ⟨_, rfl⟩
          rw [← hb, ← hx0, ← ha] at hbk
          rw [← ha] at hfa
          have HX := Lib.hid hX; have HST := Lib.hid hst; have HBK := Lib.hid hbk; have HFA := Lib.hid hfa; have HBB := Lib.hid hb; have HX0 := Lib.hid hx0; have HAA := Lib.hid ha
          have HOi := Lib.hid hOi
          have j0 : (0 : Int) ≤ (i : Int) := by omega
          have j1 : (i : Int) < (T.days.length : Int) := by omega
          have j2 : (i : Int) ≤ 400 := by omega
          clear hX hst hbk hfa hb hx0 ha hs hd' hdo hrD hOi
          have HBW := Lib.hid (fun W (h : Ext2 wr W) => h.on (HB.out.trans (hBi.mono (by omega))))
          have q0c := cell_blk i0
          have q0f := frz_blk i0
          go_wp2_with (fail)
          refine region_skip 9 8 _ 11 (Obj.cells #[.int .i64 0, .int .i64 0] 28) rfl rfl rfl (fun ρ W => by kernel_rfl) (by kernel_rfl) (by kernel_rfl) (by intro c a d v w h; cases d <;> exact h) ?_
          simp only [List.take_succ_cons, List.take_zero, List.drop_succ_cons, List.drop_zero, List.cons_append, List.nil_append, Nat.reduceSub, Nat.reduceAdd]
          repeat (refine wpQ2_step (fun K hK => ?_); go_simp; first | (refine hK _ ?_; clear hK K) | (apply Exists.intro; refine ⟨fun x => ?_, hK _ ?_⟩; (first | (with_reducible exact HX.out x.1 (HBW.out x.1 x.2))); clear hK K))
          refine wpQ2_nil ?_
          intro b11 v2 hb11 gv2 n11
          have m0 := gv2.blk i0
          have sz2 := gv2.size
          have szi := blk_lt i0
          have hw1i := hBi.size
          clear q0c q0f c0 c1 c2 c3
          have q11c := cell_blk n11
          have q11f := frz_blk n11
          go_wp2_with (fail)
          refine wp_name ?_
          intro v3 h3
          have p0 : v3.heap[w.heap.size]? = some (Obj.cells #[.slice sh.a T.rule.heat.length sh.cap, .slice sw.a T.rule.wet.length sw.cap, .int .i64 T.rule.own, .int .i64 T.rule.feed, .int .i64 T.rule.g0, .int .i64 T.rule.g1, .int .i64 T.rule.g2, .int .i64 T.rule.lost, .int .i64 T.first, .slice (some ⟨db, doff, none⟩) T.days.length dc, .int .i64 T.start.lo, .int .i64 T.start.hi, .slice ta T.tests.length tc] 31) := by rw [h3]; repeat' (first | (with_reducible assumption) | (with_reducible refine blk_set_ne ?_ ?_) | (with_reducible exact blk_new _ _) | (with_reducible refine blk_new' _ _ (by first | (with_reducible rfl) | (simp; done) | (simp <;> omega))) | (with_reducible refine blk_alloc ?_ _) | (with_reducible refine blk_drew ?_) | (with_reducible refine blk_drewN ?_ _) | (with_reducible refine Ext2.blk (by assumption) ?_) | omega | (simp <;> omega) | exact blk_set (by assumption) _ _)
          have p11 : v3.heap[b11]? = some (Obj.cells #[.int .i64 s.lo, .int .i64 s.hi] 28) := by rw [h3]; exact blk_set (blk_set n11 _ _) _ _
          have hB3 : Below w1.heap.size w1 v3 := by rw [h3]; exact below_set (below_set (hBi.trans (Below.mono gv2 (by omega))) (by omega)) (by omega)
          have hA3 : Above (w1.heap.size + 1) wr v3 := by rw [h3]; repeat' (first | (with_reducible assumption) | (with_reducible exact Above.refl _ _) | (with_reducible refine Above.set ?_ (by omega)) | (with_reducible refine Above.alloc ?_ _) | (with_reducible refine Above.ext ?_ (by assumption)))
          have hO3 := (HOi.out.above hA3).congr (c' := spC (cut1 T (i + 1) i ⟨a.lo, a.hi⟩)) fun m q hm hq => by
            have e : mixF T (i + 1) m = cut1 T (i + 1) i ⟨a.lo, a.hi⟩ m := by
              rw [cut1]; split
              · rename_i h; rw [h, mixF, if_neg (by omega), HAA.out]
              · rfl
            rcases (by omega : q = 0 ∨ q = 1) with rfl | rfl <;> simp only [spC, e]
          have hsz3 : v3.heap.size = v2.heap.size := by rw [h3]; simp
          have HO3 := Lib.hid hO3
          clear h3 q11c q11f m0 n11 gv2 hA3 hO3
          have hg6o : g6 < wr.heap.size := by
            rcases HOi.out.forms with ⟨_, h⟩ | ⟨g', cp', he, -, -, -, hr, -, -⟩
            · omega
            obtain ⟨rfl, rfl⟩ : g6 = g' ∧ cp6 = cp' := by simpa using he
            exact hr.1
          obtain ⟨wo, hwo⟩ : ∃ wo : World, wo = wr := ⟨_, rfl⟩
          have hle0 := HBK.out.lo; have hle1 := HBK.out.hi
          have hb11w : w1.heap.size + 1 ≤ b11 ∨ w1.heap.size ≤ b11 := by omega
          go_loopg [] ((x0.lo - a.lo).toNat) (fun n wi => ∃ x : Int, (x0.lo - x).toNat = n ∧ a.lo ≤ x ∧ x ≤ x0.lo ∧ Below w1.heap.size w1 wi ∧ wi.heap[b11]? = some (Obj.cells #[.int .i64 s.lo, .int .i64 s.hi] 28) ∧ OwnR wi (w1.heap.size + 1) 28 2 (.slice (some ⟨g6, 0, none⟩) (T.days.length + 1) cp6) (T.days.length + 1) (spC (cut1 T (i + 1) i ⟨x, a.hi⟩)))
          case atStart => exact ⟨a.lo, rfl, Int.le_refl _, hle0, hB3, p11, HO3.out⟩
          case round =>
            obtain ⟨x, hxn, hx1, hx2, hBx, x11, hOx⟩ := hrel
            have b0 : wr.heap[w.heap.size]? = some (Obj.cells #[.slice sh.a T.rule.heat.length sh.cap, .slice sw.a T.rule.wet.length sw.cap, .int .i64 T.rule.own, .int .i64 T.rule.feed, .int .i64 T.rule.g0, .int .i64 T.rule.g1, .int .i64 T.rule.g2, .int .i64 T.rule.lost, .int .i64 T.first, .slice (some ⟨db, doff, none⟩) T.days.length dc, .int .i64 T.start.lo, .int .i64 T.start.hi, .slice ta T.tests.length tc] 31) := below_blk hBx H0.out (by omega)
            rcases hOx.forms with ⟨_, h⟩ | ⟨g', cp', he, -, -, -, hr, hfz, -⟩
            · omega
            obtain ⟨rfl, rfl⟩ : g6 = g' ∧ cp6 = cp' := by simpa using he
            obtain ⟨e0, e1⟩ := hr.two (i := i) (by omega)
            obtain ⟨f0, f1⟩ := hr.two (i := i + 1) (by omega)
            rw [Nat.zero_add] at e0 e1 f0 f1
            have ecut : cut1 T (i + 1) i ⟨x, a.hi⟩ i = ⟨x, a.hi⟩ := if_pos rfl
            have fcut : cut1 T (i + 1) i ⟨x, a.hi⟩ (i + 1) = b := by rw [cut1, if_neg (by omega), mixF, if_pos (Nat.le_refl _), HBB.out]
            simp only [spC, ecut] at e0 e1
            simp only [spC, fcut] at f0 f1
            have hg6lt := hr.1
            have lx := HFA.out.1
            have ls := HBK.out.sp.1
            obtain ⟨⟨lx0, lx1⟩, lx2, lx3⟩ := lx
            obtain ⟨⟨ls0, ls1⟩, ls2, ls3⟩ := ls
            have HM : Hid (∀ W, Calls Try.prog 58 #[.agg #[.slice sh.a T.rule.heat.length sh.cap, .slice sw.a T.rule.wet.length sw.cap, .int .i64 T.rule.own, .int .i64 T.rule.feed, .int .i64 T.rule.g0, .int .i64 T.rule.g1, .int .i64 T.rule.g2, .int .i64 T.rule.lost], .agg #[.int .i64 s.lo, .int .i64 s.hi], .int .i64 x] W fun e w' => e = .returned (.int .i64 (most T.rule s x)) ∧ Below W.heap.size W w') := Lib.hid fun W => most_any HST.out.g (by omega) (by omega) W
            have HOx := Lib.hid hOx
            have pw1 : IntKind.i64.wrap ((i : Int) + 1) = (i : Int) + 1 := IntWalk.i64_in _ (by omega)
            have pw2 : (0 : Int) ≤ (i : Int) + 1 := by omega
            have pw3 : (i : Int) + 1 < (T.days.length : Int) + 1 := by omega
            have pw4 : ((i : Int) + 1).toNat = i + 1 := by omega
            have pw5 : (i : Int) < (T.days.length : Int) + 1 := by omega
            have hne : ¬ b11 = g6 := by omega
            clear he hr hOx ecut fcut
            have q0c := cell_blk b0
            have q0f := frz_blk b0
            have q11c := cell_blk x11
            have q11f := frz_blk x11
            by_cases hc : most T.rule s x < b.lo
            · have hlt2 : x < x0.lo := by
                rcases Int.lt_or_eq_of_le hx2 with h | h
                · exact h
                · have := HBK.out.lo1; rw [← h] at this; omega
              obtain ⟨mx, hmx⟩ : ∃ mx, mx = most T.rule s x := ⟨_, rfl⟩
              rw [← hmx] at hc HM
              clear hmx
              go_wp2_with (fail)
              refine region_take 16 (by kernel_rfl) (by kernel_rfl) (by intro c a d v w h; cases d <;> exact h) ?_
              simp only [List.take_succ_cons, List.take_zero, List.drop_succ_cons, List.drop_zero]
              repeat (refine wpQ2_step (fun K hK => ?_); go_simp; first | (refine hK _ ?_; clear hK K) | (apply Exists.intro; refine ⟨fun x => ?_, hK _ ?_⟩; (first | (with_reducible exact HM.out x.1)); clear hK K))
              refine wpQ2_nil ?_
              intro v4 gv4
              have p0 := gv4.blk b0; have p11 := gv4.blk x11
              have hO4 := HOx.out.below gv4
              have hB4 := hBx.trans (Below.mono gv4 (by omega))
              rcases hO4.forms with ⟨_, h⟩ | ⟨g', cp', he, -, -, -, hr4, hfz4, -⟩
              · omega
              obtain ⟨rfl, rfl⟩ : g6 = g' ∧ cp6 = cp' := by simpa using he
              have e4 := (hr4.two (i := i) (by omega)).1
              rw [Nat.zero_add] at e4
              simp only [spC, cut1, if_true] at e4
              have HO4 := Lib.hid hO4
              have wx : IntKind.i64.wrap (x + 1) = x + 1 := IntWalk.i64_in _ (by omega)
              clear q0c q0f q11c q11f he hr4 hO4 gv4 e0 e1 f0 f1 hfz
              go_wp2_with (fail)
              go_roundg ((x0.lo - (x + 1)).toNat)
              case measure => omega
              case rel =>
                refine ⟨x + 1, rfl, by omega, by omega, below_set hB4 (by omega), by repeat' (first | (with_reducible assumption) | (with_reducible refine blk_set_ne ?_ ?_) | (with_reducible exact blk_new _ _) | (with_reducible refine blk_new' _ _ (by first | (with_reducible rfl) | (simp; done) | (simp <;> omega))) | (with_reducible refine blk_alloc ?_ _) | (with_reducible refine blk_drew ?_) | (with_reducible refine blk_drewN ?_ _) | (with_reducible refine Ext2.blk (by assumption) ?_) | omega | (simp <;> omega) | exact blk_set (by assumption) _ _), ?_⟩
                have h := HO4.out.set (i := i) (j := 0) (by omega) (by omega) (.int .i64 (x + 1))
                rw [Nat.add_zero] at h
                refine h.congr fun m q hm hq => ?_
                by_cases hmi : m = i
                · rcases (by omega : q = 0 ∨ q = 1) with rfl | rfl
                  · rw [if_pos ⟨hmi, rfl⟩]; simp only [spC, cut1, if_pos hmi]
                  · rw [if_neg (by omega)]; simp only [spC, cut1, if_pos hmi]
                · rw [if_neg (fun h => hmi h.1)]
                  rcases (by omega : q = 0 ∨ q = 1) with rfl | rfl <;> simp only [spC, cut1, if_neg hmi]
            · have hxe : x = x0.lo := by
                rcases Int.lt_or_eq_of_le hx2 with h | h
                · exact absurd (HBK.out.lo2 x hx1 h) hc
                · exact h
              obtain ⟨mx, hmx⟩ : ∃ mx, mx = most T.rule s x := ⟨_, rfl⟩
              rw [← hmx] at hc HM
              have hc' : b.lo ≤ mx := by omega
              have HXE := Lib.hid hxe
              clear hmx hc hxe
              go_wp2_with (fail)
              refine region_take 16 (by kernel_rfl) (by kernel_rfl) (by intro c a d v w h; cases d <;> exact h) ?_
              simp only [List.take_succ_cons, List.take_zero, List.drop_succ_cons, List.drop_zero]
              repeat (refine wpQ2_step (fun K hK => ?_); go_simp; first | (refine hK _ ?_; clear hK K) | (apply Exists.intro; refine ⟨fun x => ?_, hK _ ?_⟩; (first | (with_reducible exact HM.out x.1)); clear hK K))
              refine wpQ2_nil ?_
              intro v4 gv4
              have p0 := gv4.blk b0; have p11 := gv4.blk x11
              have hO4 := HOx.out.below gv4
              rw [HXE.out] at hO4
              have hB4 := hBx.trans (Below.mono gv4 (by omega))
              have HO4 := Lib.hid hO4
              have sz4 := gv4.size
              clear q0c q0f q11c q11f hO4 gv4 e0 e1 f0 f1 hfz b0 x11 HM HOx
              go_wp2_with (fail)
              obtain ⟨wo2, hwo2⟩ : ∃ wo : World, wo = wr := ⟨_, rfl⟩
              go_loopg [] ((a.hi - x0.hi).toNat) (fun n wi => ∃ y : Int, (y - x0.hi).toNat = n ∧ x0.hi ≤ y ∧ y ≤ a.hi ∧ Below w1.heap.size w1 wi ∧ wi.heap[b11]? = some (Obj.cells #[.int .i64 s.lo, .int .i64 s.hi] 28) ∧ OwnR wi (w1.heap.size + 1) 28 2 (.slice (some ⟨g6, 0, none⟩) (T.days.length + 1) cp6) (T.days.length + 1) (spC (cut1 T (i + 1) i ⟨x0.lo, y⟩)))
              case atStart => exact ⟨a.hi, rfl, hle1, Int.le_refl _, hB4, p11, HO4.out⟩
              case round =>
                obtain ⟨y, hyn, hy1, hy2, hBx, x11, hOx⟩ := hrel
                have b0 : wr.heap[w.heap.size]? = some (Obj.cells #[.slice sh.a T.rule.heat.length sh.cap, .slice sw.a T.rule.wet.length sw.cap, .int .i64 T.rule.own, .int .i64 T.rule.feed, .int .i64 T.rule.g0, .int .i64 T.rule.g1, .int .i64 T.rule.g2, .int .i64 T.rule.lost, .int .i64 T.first, .slice (some ⟨db, doff, none⟩) T.days.length dc, .int .i64 T.start.lo, .int .i64 T.start.hi, .slice ta T.tests.length tc] 31) := below_blk hBx H0.out (by omega)
                rcases hOx.forms with ⟨_, h⟩ | ⟨g', cp', he, -, -, -, hr, hfz, -⟩
                · omega
                obtain ⟨rfl, rfl⟩ : g6 = g' ∧ cp6 = cp' := by simpa using he
                obtain ⟨e0, e1⟩ := hr.two (i := i) (by omega)
                obtain ⟨f0, f1⟩ := hr.two (i := i + 1) (by omega)
                rw [Nat.zero_add] at e0 e1 f0 f1
                have ecut : cut1 T (i + 1) i ⟨x0.lo, y⟩ i = ⟨x0.lo, y⟩ := if_pos rfl
                have fcut : cut1 T (i + 1) i ⟨x0.lo, y⟩ (i + 1) = b := by rw [cut1, if_neg (by omega), mixF, if_pos (Nat.le_refl _), HBB.out]
                simp only [spC, ecut] at e0 e1
                simp only [spC, fcut] at f0 f1
                have hg6lt := hr.1
                have lx := HFA.out.1
                have ls := HBK.out.sp.1
                obtain ⟨⟨lx0, lx1⟩, lx2, lx3⟩ := lx
                obtain ⟨⟨ls0, ls1⟩, ls2, ls3⟩ := ls
                have HM : Hid (∀ W, Calls Try.prog 57 #[.agg #[.slice sh.a T.rule.heat.length sh.cap, .slice sw.a T.rule.wet.length sw.cap, .int .i64 T.rule.own, .int .i64 T.rule.feed, .int .i64 T.rule.g0, .int .i64 T.rule.g1, .int .i64 T.rule.g2, .int .i64 T.rule.lost], .agg #[.int .i64 s.lo, .int .i64 s.hi], .int .i64 y] W fun e w' => e = .returned (.int .i64 (least T.rule s y)) ∧ Below W.heap.size W w') := Lib.hid fun W => least_any HST.out.g (by omega) (by omega) W
                have HOx := Lib.hid hOx
                have pw1 : IntKind.i64.wrap ((i : Int) + 1) = (i : Int) + 1 := IntWalk.i64_in _ (by omega)
                have pw2 : (0 : Int) ≤ (i : Int) + 1 := by omega
                have pw3 : (i : Int) + 1 < (T.days.length : Int) + 1 := by omega
                have pw4 : ((i : Int) + 1).toNat = i + 1 := by omega
                have pw5 : (i : Int) < (T.days.length : Int) + 1 := by omega
                have hne : ¬ b11 = g6 := by omega
                clear he hr hOx ecut fcut
                have q0c := cell_blk b0
                have q0f := frz_blk b0
                have q11c := cell_blk x11
                have q11f := frz_blk x11
                by_cases hc : b.hi < least T.rule s y
                · have hlt2 : x0.hi < y := by
                    rcases Int.lt_or_eq_of_le hy1 with h | h
                    · exact h
                    · have := HBK.out.hi1; rw [h] at this; omega
                  obtain ⟨mx, hmx⟩ : ∃ mx, mx = least T.rule s y := ⟨_, rfl⟩
                  rw [← hmx] at hc HM
                  clear hmx
                  go_wp2_with (fail)
                  refine region_take 16 (by kernel_rfl) (by kernel_rfl) (by intro c a d v w h; cases d <;> exact h) ?_
                  simp only [List.take_succ_cons, List.take_zero, List.drop_succ_cons, List.drop_zero]
                  repeat (refine wpQ2_step (fun K hK => ?_); go_simp; first | (refine hK _ ?_; clear hK K) | (apply Exists.intro; refine ⟨fun x => ?_, hK _ ?_⟩; (first | (with_reducible exact HM.out x.1)); clear hK K))
                  refine wpQ2_nil ?_
                  intro v4 gv4
                  have p0 := gv4.blk b0; have p11 := gv4.blk x11
                  have hO4 := HOx.out.below gv4
                  have hB4 := hBx.trans (Below.mono gv4 (by omega))
                  rcases hO4.forms with ⟨_, h⟩ | ⟨g', cp', he, -, -, -, hr4, hfz4, -⟩
                  · omega
                  obtain ⟨rfl, rfl⟩ : g6 = g' ∧ cp6 = cp' := by simpa using he
                  have e4 := (hr4.two (i := i) (by omega)).2
                  rw [Nat.zero_add] at e4
                  simp only [spC, cut1, if_true] at e4
                  have HO4 := Lib.hid hO4
                  have wx : IntKind.i64.wrap (y - 1) = y - 1 := IntWalk.i64_in _ (by omega)
                  clear q0c q0f q11c q11f he hr4 hO4 gv4 e0 e1 f0 f1 hfz
                  go_wp2_with (fail)
                  go_roundg ((y - 1 - x0.hi).toNat)
                  case measure => omega
                  case rel =>
                    refine ⟨y - 1, rfl, by omega, by omega, below_set hB4 (by omega), by repeat' (first | (with_reducible assumption) | (with_reducible refine blk_set_ne ?_ ?_) | (with_reducible exact blk_new _ _) | (with_reducible refine blk_new' _ _ (by first | (with_reducible rfl) | (simp; done) | (simp <;> omega))) | (with_reducible refine blk_alloc ?_ _) | (with_reducible refine blk_drew ?_) | (with_reducible refine blk_drewN ?_ _) | (with_reducible refine Ext2.blk (by assumption) ?_) | omega | (simp <;> omega) | exact blk_set (by assumption) _ _), ?_⟩
                    have h := HO4.out.set (i := i) (j := 1) (by omega) (by omega) (.int .i64 (y - 1))
                    refine h.congr fun m q hm hq => ?_
                    by_cases hmi : m = i
                    · rcases (by omega : q = 0 ∨ q = 1) with rfl | rfl
                      · rw [if_neg (by omega)]; simp only [spC, cut1, if_pos hmi]
                      · rw [if_pos ⟨hmi, rfl⟩]; simp only [spC, cut1, if_pos hmi]
                    · rw [if_neg (fun h => hmi h.1)]
                      rcases (by omega : q = 0 ∨ q = 1) with rfl | rfl <;> simp only [spC, cut1, if_neg hmi]
                · have hye : y = x0.hi := by
                    rcases Int.lt_or_eq_of_le hy1 with h | h
                    · exact absurd (HBK.out.hi2 y hy2 h) hc
                    · exact h.symm
                  obtain ⟨mx, hmx⟩ : ∃ mx, mx = least T.rule s y := ⟨_, rfl⟩
                  rw [← hmx] at hc HM
                  have hc' : mx ≤ b.hi := by omega
                  have HYE := Lib.hid hye
                  clear hmx hc hye
                  go_wp2_with (fail)
                  refine region_take 16 (by kernel_rfl) (by kernel_rfl) (by intro c a d v w h; cases d <;> exact h) ?_
                  simp only [List.take_succ_cons, List.take_zero, List.drop_succ_cons, List.drop_zero]
                  repeat (refine wpQ2_step (fun K hK => ?_); go_simp; first | (refine hK _ ?_; clear hK K) | (apply Exists.intro; refine ⟨fun x => ?_, hK _ ?_⟩; (first | (with_reducible exact HM.out x.1)); clear hK K))
                  refine wpQ2_nil ?_
                  intro v4 gv4
                  have hO4 := HOx.out.below gv4
                  rw [HYE.out] at hO4
                  have hO5 : OwnR v4 (w1.heap.size + 1) 28 2 (.slice (some ⟨g6, 0, none⟩) (T.days.length + 1) cp6) (T.days.length + 1) (spC (mixF T i)) := hO4.congr fun m q hm hq => by
                    have e : cut1 T (i + 1) i ⟨x0.lo, x0.hi⟩ m = mixF T i m := by
                      rw [cut1, mixF]
                      by_cases hmi : m = i
                      · rw [if_pos hmi, hmi, mixF, if_pos (Nat.le_refl _), ← HX0.out]
                      · rw [if_neg hmi, mixF]
                        by_cases h1 : i + 1 ≤ m
                        · rw [if_pos h1, if_pos (by omega)]
                        · rw [if_neg h1, if_neg (by omega)]
                    rcases (by omega : q = 0 ∨ q = 1) with rfl | rfl <;> simp only [spC, e]
                  have hB4 := hBx.trans (Below.mono gv4 (by omega))
                  have HO5 := Lib.hid hO5
                  clear q0c q0f q11c q11f hO4 hO5 gv4 e0 e1 f0 f1 hfz b0 x11 HM HOx
                  go_wp2_with (fail)
                  go_roundw
                  case rel => exact ⟨i, by go_num, by omega, hB4, HO5.out⟩
                  case measure => simp [intOf]
end Go.Proofs.Ytfjbgcaogffiaaa
