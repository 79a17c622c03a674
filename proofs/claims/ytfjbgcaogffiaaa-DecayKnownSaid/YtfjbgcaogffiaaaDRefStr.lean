/-
  The reference's Strength.
  The reference's Grow.
-/
import Derived.Test.YtfjbgcaogffiaaaDHeap
import Derived.Test.YtfjbgcaogffiaaaDRefC
import Derived.Test.YtfjbgcaogffiaaaDRef4
import Derived.Test.YtfjbgcaogffiaaaDOk
namespace Go.Proofs.Ytfjbgcaogffiaaa
open Go.RowKit D
set_option linter.unusedVariables false
set_option linter.unusedSimpArgs false
attribute [local go_sem high] run_minI run_maxI
attribute [local go_sem] upon2 cls_cell cls_frozen forall_const exists_eq_left'
def strengthV (R : Rule) (d : Day) : Span × Int :=
  if (D.check R).2.2 ≠ 0 then (⟨0, 0⟩, (D.check R).2.2) else if climateE d ≠ 0 then (⟨0, 0⟩, climateE d) else (strength R d, 0)
set_option maxRecDepth 100000 in
set_option maxHeartbeats 2000000 in
theorem StrengthR_any {R : Rule} {hh hv : Sl} {d : Day} {w : World} (hR : RuleAt w R hh hv) :
    Calls Try.prog 41 #[.agg #[.slice hh.a R.heat.length hh.cap, .slice hv.a R.wet.length hv.cap, .int .i64 R.own, .int .i64 R.feed, .int .i64 R.g0, .int .i64 R.g1, .int .i64 R.g2, .int .i64 R.lost], .agg #[.int .i64 d.tlo, .int .i64 d.thi, .int .i64 d.dlo, .int .i64 d.dhi]] w fun e w' => e = .returned (.tuple #[.agg #[.int .i64 (strengthV R d).1.lo, .int .i64 (strengthV R d).1.hi], .int .i64 (strengthV R d).2]) ∧ Below w.heap.size w w' := by
  obtain ⟨p1, p2, p3, hp⟩ : ∃ a b c, D.check R = (a, b, c) := ⟨_, _, _, rfl⟩
  obtain ⟨er, her⟩ : ∃ er, er = climateE d := ⟨_, rfl⟩
  have hs : strengthV R d = if p3 ≠ 0 then (⟨0, 0⟩, p3) else if er ≠ 0 then (⟨0, 0⟩, er) else (strength R d, 0) := by rw [strengthV, hp, her]
  have HC : Hid (∀ W, Below w.heap.size w W → Calls Try.prog 36 #[.agg #[.slice hh.a R.heat.length hh.cap, .slice hv.a R.wet.length hv.cap, .int .i64 R.own, .int .i64 R.feed, .int .i64 R.g0, .int .i64 R.g1, .int .i64 R.g2, .int .i64 R.lost]] W fun e w' => e = .returned (.tuple #[.int .i64 p1, .int .i64 p2, .int .i64 p3]) ∧ Below W.heap.size W w') := Lib.hid fun W hW => by
    have h := check_any (hR.below hW); rw [hp] at h; exact h
  have HL : Hid (∀ W, Calls Try.prog 55 #[.agg #[.int .i64 d.tlo, .int .i64 d.thi, .int .i64 d.dlo, .int .i64 d.dhi]] W fun e w' => e = .returned (.int .i64 er) ∧ Below W.heap.size W w') := Lib.hid fun W => by
    rw [her]; exact climate_any d W
  have HX : p3 = 0 → er = 0 → Hid (∀ W, Below w.heap.size w W → Calls Try.prog 66 #[.agg #[.slice hh.a R.heat.length hh.cap, .slice hv.a R.wet.length hv.cap, .int .i64 R.own, .int .i64 R.feed, .int .i64 R.g0, .int .i64 R.g1, .int .i64 R.g2, .int .i64 R.lost], .agg #[.int .i64 d.tlo, .int .i64 d.thi, .int .i64 d.dlo, .int .i64 d.dhi]] W fun e w' => e = .returned (.agg #[.int .i64 (strength R d).lo, .int .i64 (strength R d).hi]) ∧ Below W.heap.size W w') := fun h1 h2 => Lib.hid fun W hW => by
    have hk := (check_ok (R := R) (by rw [hp]; exact h1)).1
    exact strengthR_any (hR.below hW) hk (day_ok (her.symm.trans h2))
  have HXX := Lib.hid HX
  clear HX hp her hR
  by_cases h1 : p3 = 0
  · by_cases h2 : er = 0
    · have HX := HXX.out h1 h2
      rw [if_neg (fun h => h h1), if_neg (fun h => h h2)] at hs
      have HS := Lib.hid hs
      subst h1; subst h2
      clear hs
      go_enter Try.func41, Try.ntmps41
      go_wp2_with (fail)
      (with_reducible refine (HC.out _ ?_).mono ?_)
      · repeat' (first | exact Below.refl _ _ | assumption | refine below_drewN ?_ _ | refine Below.drew ?_ | refine Below.alloc ?_ (by first | assumption | omega | (simp <;> omega)) _ | refine Below.setCell ?_ (by first | assumption | omega | (simp <;> omega)) _ | refine Ext2.on (by assumption) ?_)
      rintro e w1 ⟨rfl, hb1⟩
      have b0 : w1.heap[w.heap.size]? = some (Obj.cells #[.slice hh.a R.heat.length hh.cap, .slice hv.a R.wet.length hv.cap, .int .i64 R.own, .int .i64 R.feed, .int .i64 R.g0, .int .i64 R.g1, .int .i64 R.g2, .int .i64 R.lost] 25) := below_blk hb1 (by repeat' (first | (with_reducible assumption) | (with_reducible refine blk_set_ne ?_ ?_) | (with_reducible exact blk_new _ _) | (with_reducible refine blk_new' _ _ (by first | (with_reducible rfl) | (simp; done) | (simp <;> omega))) | (with_reducible refine blk_alloc ?_ _) | (with_reducible refine blk_drew ?_) | (with_reducible refine blk_drewN ?_ _) | (with_reducible refine Ext2.blk (by assumption) ?_) | omega | (simp <;> omega) | exact blk_set (by assumption) _ _)) (by simp; omega)
      have b1 : w1.heap[w.heap.size + 1]? = some (Obj.cells #[.int .i64 d.tlo, .int .i64 d.thi, .int .i64 d.dlo, .int .i64 d.dhi] 48) := below_blk hb1 (by repeat' (first | (with_reducible assumption) | (with_reducible refine blk_set_ne ?_ ?_) | (with_reducible exact blk_new _ _) | (with_reducible refine blk_new' _ _ (by first | (with_reducible rfl) | (simp; done) | (simp <;> omega))) | (with_reducible refine blk_alloc ?_ _) | (with_reducible refine blk_drew ?_) | (with_reducible refine blk_drewN ?_ _) | (with_reducible refine Ext2.blk (by assumption) ?_) | omega | (simp <;> omega) | exact blk_set (by assumption) _ _)) (by simp)
      have b2 : w1.heap[w.heap.size + 1 + 1]? = some (Obj.cells #[.int .i64 0, .int .i64 0] 28) := below_blk hb1 (by repeat' (first | (with_reducible assumption) | (with_reducible refine blk_set_ne ?_ ?_) | (with_reducible exact blk_new _ _) | (with_reducible refine blk_new' _ _ (by first | (with_reducible rfl) | (simp; done) | (simp <;> omega))) | (with_reducible refine blk_alloc ?_ _) | (with_reducible refine blk_drew ?_) | (with_reducible refine blk_drewN ?_ _) | (with_reducible refine Ext2.blk (by assumption) ?_) | omega | (simp <;> omega) | exact blk_set (by assumption) _ _)) (by simp)
      have hB1 : Below w.heap.size w w1 := Below.trans (by repeat' (first | exact Below.refl _ _ | assumption | refine below_drewN ?_ _ | refine Below.drew ?_ | refine Below.alloc ?_ (by first | assumption | omega | (simp <;> omega)) _ | refine Below.setCell ?_ (by first | assumption | omega | (simp <;> omega)) _ | refine Ext2.on (by assumption) ?_)) (hb1.mono (by simp; omega))
      have hz := blk_lt b2
      have q1c := cell_blk b1
      have q1f := frz_blk b1
      go_wp2_with (fail)
      (with_reducible refine (HL.out _).mono ?_)
      rintro e w2 ⟨rfl, hb2⟩
      have hg2 : Ext2 w1 w2 := hb2
      have m0 := hg2.blk b0; have m1 := hg2.blk b1; have m2 := hg2.blk b2
      have hB2 := hg2.on hB1
      have hz2 := hg2.size
      clear q1c q1f b0 b1 b2 hb2 hg2 hb1
      have q0c := cell_blk m0
      have q0f := frz_blk m0
      have q1c := cell_blk m1
      have q1f := frz_blk m1
      go_wp2_with (fail)
      (with_reducible refine (HX.out _ hB2).mono ?_)
      rintro e w3 ⟨rfl, hb3⟩
      have hg3 : Ext2 w2 w3 := hb3
      have r2 := hg3.blk m2
      have hB3 := hg3.on hB2
      have hz3 := hg3.size
      clear q0c q0f q1c q1f m0 m1 m2 hb3 hg3
      have q2c := cell_blk r2
      have q2f := frz_blk r2
      go_wp2_with (fail)
      refine bodyPost_ret (v := .tuple #[.agg #[.int .i64 (strength R d).lo, .int .i64 (strength R d).hi], .int .i64 0]) (by simp [results, Try.results41, go_sem, q2c]) rfl ⟨?_, below_set (below_set hB3 (by omega)) (by omega)⟩
      rw [HS.out]
    · rw [if_neg (fun h => h h1), if_pos h2] at hs
      have HS := Lib.hid hs
      subst h1
      have hne : (er == 0) = false := by simpa using h2
      have hne2 : (er != 0) = true := by simpa using h2
      clear hs h2
      go_enter Try.func41, Try.ntmps41
      go_wp2_with (fail)
      (with_reducible refine (HC.out _ ?_).mono ?_)
      · repeat' (first | exact Below.refl _ _ | assumption | refine below_drewN ?_ _ | refine Below.drew ?_ | refine Below.alloc ?_ (by first | assumption | omega | (simp <;> omega)) _ | refine Below.setCell ?_ (by first | assumption | omega | (simp <;> omega)) _ | refine Ext2.on (by assumption) ?_)
      rintro e w1 ⟨rfl, hb1⟩
      have b1 : w1.heap[w.heap.size + 1]? = some (Obj.cells #[.int .i64 d.tlo, .int .i64 d.thi, .int .i64 d.dlo, .int .i64 d.dhi] 48) := below_blk hb1 (by repeat' (first | (with_reducible assumption) | (with_reducible refine blk_set_ne ?_ ?_) | (with_reducible exact blk_new _ _) | (with_reducible refine blk_new' _ _ (by first | (with_reducible rfl) | (simp; done) | (simp <;> omega))) | (with_reducible refine blk_alloc ?_ _) | (with_reducible refine blk_drew ?_) | (with_reducible refine blk_drewN ?_ _) | (with_reducible refine Ext2.blk (by assumption) ?_) | omega | (simp <;> omega) | exact blk_set (by assumption) _ _)) (by simp)
      have b2 : w1.heap[w.heap.size + 1 + 1]? = some (Obj.cells #[.int .i64 0, .int .i64 0] 28) := below_blk hb1 (by repeat' (first | (with_reducible assumption) | (with_reducible refine blk_set_ne ?_ ?_) | (with_reducible exact blk_new _ _) | (with_reducible refine blk_new' _ _ (by first | (with_reducible rfl) | (simp; done) | (simp <;> omega))) | (with_reducible refine blk_alloc ?_ _) | (with_reducible refine blk_drew ?_) | (with_reducible refine blk_drewN ?_ _) | (with_reducible refine Ext2.blk (by assumption) ?_) | omega | (simp <;> omega) | exact blk_set (by assumption) _ _)) (by simp)
      have hB1 : Below w.heap.size w w1 := Below.trans (by repeat' (first | exact Below.refl _ _ | assumption | refine below_drewN ?_ _ | refine Below.drew ?_ | refine Below.alloc ?_ (by first | assumption | omega | (simp <;> omega)) _ | refine Below.setCell ?_ (by first | assumption | omega | (simp <;> omega)) _ | refine Ext2.on (by assumption) ?_)) (hb1.mono (by simp; omega))
      have hz := blk_lt b2
      have q1c := cell_blk b1
      have q1f := frz_blk b1
      go_wp2_with (fail)
      (with_reducible refine (HL.out _).mono ?_)
      rintro e w2 ⟨rfl, hb2⟩
      have hg2 : Ext2 w1 w2 := hb2
      have m2 := hg2.blk b2
      have hB2 := hg2.on hB1
      have hz2 := hg2.size
      clear q1c q1f b1 b2 hb2 hg2 hb1
      have q2c := cell_blk m2
      have q2f := frz_blk m2
      go_wp2_with (fail)
      refine bodyPost_ret (v := .tuple #[.agg #[.int .i64 (Span.mk 0 0).lo, .int .i64 (Span.mk 0 0).hi], .int .i64 er]) (by simp [results, Try.results41, go_sem, q2c]) rfl ⟨?_, by first | exact hB2 | exact below_set (below_set hB2 (by omega)) (by omega)⟩
      rw [HS.out]
  · rw [if_pos h1] at hs
    have HS := Lib.hid hs
    have hne : (p3 == 0) = false := by simpa using h1
    have hne2 : (p3 != 0) = true := by simpa using h1
    clear hs h1
    go_enter Try.func41, Try.ntmps41
    go_wp2_with (fail)
    (with_reducible refine (HC.out _ ?_).mono ?_)
    · repeat' (first | exact Below.refl _ _ | assumption | refine below_drewN ?_ _ | refine Below.drew ?_ | refine Below.alloc ?_ (by first | assumption | omega | (simp <;> omega)) _ | refine Below.setCell ?_ (by first | assumption | omega | (simp <;> omega)) _ | refine Ext2.on (by assumption) ?_)
    rintro e w1 ⟨rfl, hb1⟩
    have b2 : w1.heap[w.heap.size + 1 + 1]? = some (Obj.cells #[.int .i64 0, .int .i64 0] 28) := below_blk hb1 (by repeat' (first | (with_reducible assumption) | (with_reducible refine blk_set_ne ?_ ?_) | (with_reducible exact blk_new _ _) | (with_reducible refine blk_new' _ _ (by first | (with_reducible rfl) | (simp; done) | (simp <;> omega))) | (with_reducible refine blk_alloc ?_ _) | (with_reducible refine blk_drew ?_) | (with_reducible refine blk_drewN ?_ _) | (with_reducible refine Ext2.blk (by assumption) ?_) | omega | (simp <;> omega) | exact blk_set (by assumption) _ _)) (by simp)
    have hB1 : Below w.heap.size w w1 := Below.trans (by repeat' (first | exact Below.refl _ _ | assumption | refine below_drewN ?_ _ | refine Below.drew ?_ | refine Below.alloc ?_ (by first | assumption | omega | (simp <;> omega)) _ | refine Below.setCell ?_ (by first | assumption | omega | (simp <;> omega)) _ | refine Ext2.on (by assumption) ?_)) (hb1.mono (by simp; omega))
    have hz := blk_lt b2
    have q2c := cell_blk b2
    have q2f := frz_blk b2
    go_wp2_with (fail)
    refine bodyPost_ret (v := .tuple #[.agg #[.int .i64 (Span.mk 0 0).lo, .int .i64 (Span.mk 0 0).hi], .int .i64 p3]) (by simp [results, Try.results41, go_sem, q2c]) rfl ⟨?_, by first | exact hB1 | exact below_set (below_set hB1 (by omega)) (by omega)⟩
    rw [HS.out]
end Go.Proofs.Ytfjbgcaogffiaaa
namespace Go.Proofs.Ytfjbgcaogffiaaa
open Go.RowKit D
set_option linter.unusedVariables false
set_option linter.unusedSimpArgs false
attribute [local go_sem high] run_minI run_maxI
attribute [local go_sem] upon2 cls_cell cls_frozen forall_const exists_eq_left'
def growV (R : Rule) (d : Day) (n : Span) : Span × Int :=
  if (strengthV R d).2 ≠ 0 then (⟨0, 0⟩, (strengthV R d).2) else if levelsE n.lo n.hi ≠ 0 then (⟨0, 0⟩, levelsE n.lo n.hi) else (grow R (strength R d) n, 0)
theorem strengthV_ok {R : Rule} {d : Day} (h : (strengthV R d).2 = 0) : RuleOk R ∧ DayOk d ∧ (strengthV R d).1 = strength R d := by
  rw [strengthV] at h ⊢
  by_cases h1 : (D.check R).2.2 = 0
  · rw [if_neg (fun x => x h1)] at h ⊢
    by_cases h2 : climateE d = 0
    · rw [if_neg (fun x => x h2)]; exact ⟨(check_ok h1).1, day_ok h2, rfl⟩
    · rw [if_pos h2] at h; exact absurd h h2
  · rw [if_pos h1] at h; exact absurd h h1
set_option maxRecDepth 100000 in
set_option maxHeartbeats 2000000 in
theorem growRef_any {R : Rule} {hh hv : Sl} {d : Day} {n : Span} {w : World} (hR : RuleAt w R hh hv) :
    Calls Try.prog 24 #[.agg #[.slice hh.a R.heat.length hh.cap, .slice hv.a R.wet.length hv.cap, .int .i64 R.own, .int .i64 R.feed, .int .i64 R.g0, .int .i64 R.g1, .int .i64 R.g2, .int .i64 R.lost], .agg #[.int .i64 d.tlo, .int .i64 d.thi, .int .i64 d.dlo, .int .i64 d.dhi], .agg #[.int .i64 n.lo, .int .i64 n.hi]] w fun e w' => e = .returned (.tuple #[.agg #[.int .i64 (growV R d n).1.lo, .int .i64 (growV R d n).1.hi], .int .i64 (growV R d n).2]) ∧ Below w.heap.size w w' := by
  obtain ⟨⟨sv, er⟩, hsv⟩ : ∃ p, p = strengthV R d := ⟨_, rfl⟩
  obtain ⟨el, hel⟩ : ∃ el, el = levelsE n.lo n.hi := ⟨_, rfl⟩
  have hg : growV R d n = if er ≠ 0 then (⟨0, 0⟩, er) else if el ≠ 0 then (⟨0, 0⟩, el) else (grow R (strength R d) n, 0) := by rw [growV, ← hsv, hel]
  have HC : Hid (∀ W, Below w.heap.size w W → Calls Try.prog 41 #[.agg #[.slice hh.a R.heat.length hh.cap, .slice hv.a R.wet.length hv.cap, .int .i64 R.own, .int .i64 R.feed, .int .i64 R.g0, .int .i64 R.g1, .int .i64 R.g2, .int .i64 R.lost], .agg #[.int .i64 d.tlo, .int .i64 d.thi, .int .i64 d.dlo, .int .i64 d.dhi]] W fun e w' => e = .returned (.tuple #[.agg #[.int .i64 sv.lo, .int .i64 sv.hi], .int .i64 er]) ∧ Below W.heap.size W w') := Lib.hid fun W hW => by
    have h := StrengthR_any (d := d) (hR.below hW); rw [← hsv] at h; exact h
  have HL : Hid (∀ W, Calls Try.prog 56 #[.agg #[.int .i64 n.lo, .int .i64 n.hi]] W fun e w' => e = .returned (.int .i64 el) ∧ Below W.heap.size W w') := Lib.hid fun W => by
    rw [hel]; exact levels_any _ _ W
  have HX : er = 0 → el = 0 → sv = strength R d ∧ GrowOk R sv ∧ ((0 ≤ n.lo ∧ n.lo ≤ 1000000) ∧ (0 ≤ n.hi ∧ n.hi ≤ 1000000)) := fun h1 h2 => by
    have h := strengthV_ok (R := R) (d := d) (by rw [← hsv]; exact h1)
    rw [← hsv] at h
    have hl := levels_ok (hel.symm.trans h2)
    have h3 : sv = strength R d := h.2.2
    exact ⟨h3, by rw [h3]; exact grow_ok h.1 h.2.1, hl.1, hl.2.1⟩
  have HXX := Lib.hid HX
  clear HX hsv hel hR
  by_cases h1 : er = 0
  · by_cases h2 : el = 0
    · obtain ⟨hs1, hs2, hs3⟩ := HXX.out h1 h2
      rw [if_neg (fun h => h h1), if_neg (fun h => h h2), ← hs1] at hg
      have HG := Lib.hid hg
      have HX1 : Hid (∀ W, Calls Try.prog 57 #[.agg #[.slice hh.a R.heat.length hh.cap, .slice hv.a R.wet.length hv.cap, .int .i64 R.own, .int .i64 R.feed, .int .i64 R.g0, .int .i64 R.g1, .int .i64 R.g2, .int .i64 R.lost], .agg #[.int .i64 sv.lo, .int .i64 sv.hi], .int .i64 n.lo] W fun e w' => e = .returned (.int .i64 (least R sv n.lo)) ∧ Below W.heap.size W w') := Lib.hid fun W => least_any hs2 hs3.1.1 hs3.1.2 W
      have HX2 : Hid (∀ W, Calls Try.prog 58 #[.agg #[.slice hh.a R.heat.length hh.cap, .slice hv.a R.wet.length hv.cap, .int .i64 R.own, .int .i64 R.feed, .int .i64 R.g0, .int .i64 R.g1, .int .i64 R.g2, .int .i64 R.lost], .agg #[.int .i64 sv.lo, .int .i64 sv.hi], .int .i64 n.hi] W fun e w' => e = .returned (.int .i64 (most R sv n.hi)) ∧ Below W.heap.size W w') := Lib.hid fun W => most_any hs2 hs3.2.1 hs3.2.2 W
      subst h1; subst h2
      clear hg hs1 hs2 hs3
      go_enter Try.func24, Try.ntmps24
      go_wp2_with (fail)
      (with_reducible refine (HC.out _ ?_).mono ?_)
      · repeat' (first | exact Below.refl _ _ | assumption | refine below_drewN ?_ _ | refine Below.drew ?_ | refine Below.alloc ?_ (by first | assumption | omega | (simp <;> omega)) _ | refine Below.setCell ?_ (by first | assumption | omega | (simp <;> omega)) _ | refine Ext2.on (by assumption) ?_)
      rintro e w1 ⟨rfl, hb1⟩
      have b0 : w1.heap[w.heap.size]? = some (Obj.cells #[.slice hh.a R.heat.length hh.cap, .slice hv.a R.wet.length hv.cap, .int .i64 R.own, .int .i64 R.feed, .int .i64 R.g0, .int .i64 R.g1, .int .i64 R.g2, .int .i64 R.lost] 25) := below_blk hb1 (by repeat' (first | (with_reducible assumption) | (with_reducible refine blk_set_ne ?_ ?_) | (with_reducible exact blk_new _ _) | (with_reducible refine blk_new' _ _ (by first | (with_reducible rfl) | (simp; done) | (simp <;> omega))) | (with_reducible refine blk_alloc ?_ _) | (with_reducible refine blk_drew ?_) | (with_reducible refine blk_drewN ?_ _) | (with_reducible refine Ext2.blk (by assumption) ?_) | omega | (simp <;> omega) | exact blk_set (by assumption) _ _)) (by simp; omega)
      have b2 : w1.heap[w.heap.size + 1 + 1]? = some (Obj.cells #[.int .i64 n.lo, .int .i64 n.hi] 28) := below_blk hb1 (by repeat' (first | (with_reducible assumption) | (with_reducible refine blk_set_ne ?_ ?_) | (with_reducible exact blk_new _ _) | (with_reducible refine blk_new' _ _ (by first | (with_reducible rfl) | (simp; done) | (simp <;> omega))) | (with_reducible refine blk_alloc ?_ _) | (with_reducible refine blk_drew ?_) | (with_reducible refine blk_drewN ?_ _) | (with_reducible refine Ext2.blk (by assumption) ?_) | omega | (simp <;> omega) | exact blk_set (by assumption) _ _)) (by simp)
      have b3 : w1.heap[w.heap.size + 1 + 1 + 1]? = some (Obj.cells #[.int .i64 0, .int .i64 0] 28) := below_blk hb1 (by repeat' (first | (with_reducible assumption) | (with_reducible refine blk_set_ne ?_ ?_) | (with_reducible exact blk_new _ _) | (with_reducible refine blk_new' _ _ (by first | (with_reducible rfl) | (simp; done) | (simp <;> omega))) | (with_reducible refine blk_alloc ?_ _) | (with_reducible refine blk_drew ?_) | (with_reducible refine blk_drewN ?_ _) | (with_reducible refine Ext2.blk (by assumption) ?_) | omega | (simp <;> omega) | exact blk_set (by assumption) _ _)) (by simp)
      have hB1 : Below w.heap.size w w1 := Below.trans (by repeat' (first | exact Below.refl _ _ | assumption | refine below_drewN ?_ _ | refine Below.drew ?_ | refine Below.alloc ?_ (by first | assumption | omega | (simp <;> omega)) _ | refine Below.setCell ?_ (by first | assumption | omega | (simp <;> omega)) _ | refine Ext2.on (by assumption) ?_)) (hb1.mono (by simp; omega))
      have hz := blk_lt b3
      have q2c := cell_blk b2
      have q2f := frz_blk b2
      have e1 : ¬ w1.heap.size = w.heap.size + 1 + 1 := by omega
      have e2 : ¬ w.heap.size + 1 + 1 = w1.heap.size := by omega
      have e3 : w.heap.size + 1 + 1 < w1.heap.size := by omega
      go_wp2_with (fail)
      (with_reducible refine (HL.out _).mono ?_)
      rintro e w2 ⟨rfl, hb2⟩
      have m0 : w2.heap[w.heap.size]? = some (Obj.cells #[.slice hh.a R.heat.length hh.cap, .slice hv.a R.wet.length hv.cap, .int .i64 R.own, .int .i64 R.feed, .int .i64 R.g0, .int .i64 R.g1, .int .i64 R.g2, .int .i64 R.lost] 25) := below_blk hb2 (by repeat' (first | (with_reducible assumption) | (with_reducible refine blk_set_ne ?_ ?_) | (with_reducible exact blk_new _ _) | (with_reducible refine blk_new' _ _ (by first | (with_reducible rfl) | (simp; done) | (simp <;> omega))) | (with_reducible refine blk_alloc ?_ _) | (with_reducible refine blk_drew ?_) | (with_reducible refine blk_drewN ?_ _) | (with_reducible refine Ext2.blk (by assumption) ?_) | omega | (simp <;> omega) | exact blk_set (by assumption) _ _)) (by simp; omega)
      have m2 : w2.heap[w.heap.size + 1 + 1]? = some (Obj.cells #[.int .i64 n.lo, .int .i64 n.hi] 28) := below_blk hb2 (by repeat' (first | (with_reducible assumption) | (with_reducible refine blk_set_ne ?_ ?_) | (with_reducible exact blk_new _ _) | (with_reducible refine blk_new' _ _ (by first | (with_reducible rfl) | (simp; done) | (simp <;> omega))) | (with_reducible refine blk_alloc ?_ _) | (with_reducible refine blk_drew ?_) | (with_reducible refine blk_drewN ?_ _) | (with_reducible refine Ext2.blk (by assumption) ?_) | omega | (simp <;> omega) | exact blk_set (by assumption) _ _)) (by simp; omega)
      have m3 : w2.heap[w.heap.size + 1 + 1 + 1]? = some (Obj.cells #[.int .i64 0, .int .i64 0] 28) := below_blk hb2 (by repeat' (first | (with_reducible assumption) | (with_reducible refine blk_set_ne ?_ ?_) | (with_reducible exact blk_new _ _) | (with_reducible refine blk_new' _ _ (by first | (with_reducible rfl) | (simp; done) | (simp <;> omega))) | (with_reducible refine blk_alloc ?_ _) | (with_reducible refine blk_drew ?_) | (with_reducible refine blk_drewN ?_ _) | (with_reducible refine Ext2.blk (by assumption) ?_) | omega | (simp <;> omega) | exact blk_set (by assumption) _ _)) (by simp; omega)
      have m8 : w2.heap[w1.heap.size]? = some (Obj.cells #[.int .i64 sv.lo, .int .i64 sv.hi] 28) := below_blk hb2 (by repeat' (first | (with_reducible assumption) | (with_reducible refine blk_set_ne ?_ ?_) | (with_reducible exact blk_new _ _) | (with_reducible refine blk_new' _ _ (by first | (with_reducible rfl) | (simp; done) | (simp <;> omega))) | (with_reducible refine blk_alloc ?_ _) | (with_reducible refine blk_drew ?_) | (with_reducible refine blk_drewN ?_ _) | (with_reducible refine Ext2.blk (by assumption) ?_) | omega | (simp <;> omega) | exact blk_set (by assumption) _ _)) (by simp)
      have hB2 : Below w.heap.size w w2 := Below.trans (by repeat' (first | exact Below.refl _ _ | assumption | refine below_drewN ?_ _ | refine Below.drew ?_ | refine Below.alloc ?_ (by first | assumption | omega | (simp <;> omega)) _ | refine Below.setCell ?_ (by first | assumption | omega | (simp <;> omega)) _ | refine Ext2.on (by assumption) ?_)) (hb2.mono (by simp; omega))
      have hz2 := blk_lt m8
      clear q2c q2f b0 b2 b3 hb2 hb1 hB1
      have q0c := cell_blk m0
      have q0f := frz_blk m0
      have q2c := cell_blk m2
      have q2f := frz_blk m2
      have q3c := cell_blk m3
      have q3f := frz_blk m3
      have q8c := cell_blk m8
      have q8f := frz_blk m8
      go_wp2_with (fail)
      refine region_take 11 (by kernel_rfl) (by kernel_rfl) (by intro c a d v w h; cases d <;> exact h) ?_
      simp only [List.take_succ_cons, List.take_zero, List.drop_succ_cons, List.drop_zero]
      repeat (refine wpQ2_step (fun K hK => ?_); go_simp; first | (refine hK _ ?_; clear hK K) | (apply Exists.intro; refine ⟨fun x => ?_, hK _ ?_⟩; (first | (with_reducible exact HX1.out x.1) | (with_reducible exact HX2.out x.1)); clear hK K))
      refine wpQ2_nil ?_
      intro w3 hg3
      have r3 := hg3.blk m3
      have hB3 := hg3.on hB2
      have hz3 := hg3.size
      clear q0c q0f q2c q2f q3c q3f q8c q8f m0 m2 m3 m8 hg3
      have q3c := cell_blk r3
      have q3f := frz_blk r3
      go_wp2_with (fail)
      refine bodyPost_ret (v := .tuple #[.agg #[.int .i64 (grow R sv n).lo, .int .i64 (grow R sv n).hi], .int .i64 0]) (by simp [results, Try.results24, go_sem, q3c, grow]) rfl ⟨?_, below_set (below_set hB3 (by omega)) (by omega)⟩
      rw [HG.out]
    · rw [if_neg (fun h => h h1), if_pos h2] at hg
      have HG := Lib.hid hg
      subst h1
      have hne : (el == 0) = false := by simpa using h2
      have hne2 : (el != 0) = true := by simpa using h2
      clear hg h2
      go_enter Try.func24, Try.ntmps24
      go_wp2_with (fail)
      (with_reducible refine (HC.out _ ?_).mono ?_)
      · repeat' (first | exact Below.refl _ _ | assumption | refine below_drewN ?_ _ | refine Below.drew ?_ | refine Below.alloc ?_ (by first | assumption | omega | (simp <;> omega)) _ | refine Below.setCell ?_ (by first | assumption | omega | (simp <;> omega)) _ | refine Ext2.on (by assumption) ?_)
      rintro e w1 ⟨rfl, hb1⟩
      have b2 : w1.heap[w.heap.size + 1 + 1]? = some (Obj.cells #[.int .i64 n.lo, .int .i64 n.hi] 28) := below_blk hb1 (by repeat' (first | (with_reducible assumption) | (with_reducible refine blk_set_ne ?_ ?_) | (with_reducible exact blk_new _ _) | (with_reducible refine blk_new' _ _ (by first | (with_reducible rfl) | (simp; done) | (simp <;> omega))) | (with_reducible refine blk_alloc ?_ _) | (with_reducible refine blk_drew ?_) | (with_reducible refine blk_drewN ?_ _) | (with_reducible refine Ext2.blk (by assumption) ?_) | omega | (simp <;> omega) | exact blk_set (by assumption) _ _)) (by simp)
      have b3 : w1.heap[w.heap.size + 1 + 1 + 1]? = some (Obj.cells #[.int .i64 0, .int .i64 0] 28) := below_blk hb1 (by repeat' (first | (with_reducible assumption) | (with_reducible refine blk_set_ne ?_ ?_) | (with_reducible exact blk_new _ _) | (with_reducible refine blk_new' _ _ (by first | (with_reducible rfl) | (simp; done) | (simp <;> omega))) | (with_reducible refine blk_alloc ?_ _) | (with_reducible refine blk_drew ?_) | (with_reducible refine blk_drewN ?_ _) | (with_reducible refine Ext2.blk (by assumption) ?_) | omega | (simp <;> omega) | exact blk_set (by assumption) _ _)) (by simp)
      have hB1 : Below w.heap.size w w1 := Below.trans (by repeat' (first | exact Below.refl _ _ | assumption | refine below_drewN ?_ _ | refine Below.drew ?_ | refine Below.alloc ?_ (by first | assumption | omega | (simp <;> omega)) _ | refine Below.setCell ?_ (by first | assumption | omega | (simp <;> omega)) _ | refine Ext2.on (by assumption) ?_)) (hb1.mono (by simp; omega))
      have hz := blk_lt b3
      have q2c := cell_blk b2
      have q2f := frz_blk b2
      have e1 : ¬ w1.heap.size = w.heap.size + 1 + 1 := by omega
      have e2 : ¬ w.heap.size + 1 + 1 = w1.heap.size := by omega
      have e3 : w.heap.size + 1 + 1 < w1.heap.size := by omega
      go_wp2_with (fail)
      (with_reducible refine (HL.out _).mono ?_)
      rintro e w2 ⟨rfl, hb2⟩
      have m3 : w2.heap[w.heap.size + 1 + 1 + 1]? = some (Obj.cells #[.int .i64 0, .int .i64 0] 28) := below_blk hb2 (by repeat' (first | (with_reducible assumption) | (with_reducible refine blk_set_ne ?_ ?_) | (with_reducible exact blk_new _ _) | (with_reducible refine blk_new' _ _ (by first | (with_reducible rfl) | (simp; done) | (simp <;> omega))) | (with_reducible refine blk_alloc ?_ _) | (with_reducible refine blk_drew ?_) | (with_reducible refine blk_drewN ?_ _) | (with_reducible refine Ext2.blk (by assumption) ?_) | omega | (simp <;> omega) | exact blk_set (by assumption) _ _)) (by simp; omega)
      have hB2 : Below w.heap.size w w2 := Below.trans (by repeat' (first | exact Below.refl _ _ | assumption | refine below_drewN ?_ _ | refine Below.drew ?_ | refine Below.alloc ?_ (by first | assumption | omega | (simp <;> omega)) _ | refine Below.setCell ?_ (by first | assumption | omega | (simp <;> omega)) _ | refine Ext2.on (by assumption) ?_)) (hb2.mono (by simp; omega))
      clear q2c q2f b2 b3 hb2 hb1 hB1
      have q3c := cell_blk m3
      have q3f := frz_blk m3
      go_wp2_with (fail)
      refine bodyPost_ret (v := .tuple #[.agg #[.int .i64 (Span.mk 0 0).lo, .int .i64 (Span.mk 0 0).hi], .int .i64 el]) (by simp [results, Try.results24, go_sem, q3c]) rfl ⟨?_, by first | exact hB2 | exact below_set (below_set hB2 (by omega)) (by omega)⟩
      rw [HG.out]
  · rw [if_pos h1] at hg
    have HG := Lib.hid hg
    have hne : (er == 0) = false := by simpa using h1
    have hne2 : (er != 0) = true := by simpa using h1
    clear hg h1
    go_enter Try.func24, Try.ntmps24
    go_wp2_with (fail)
    (with_reducible refine (HC.out _ ?_).mono ?_)
    · repeat' (first | exact Below.refl _ _ | assumption | refine below_drewN ?_ _ | refine Below.drew ?_ | refine Below.alloc ?_ (by first | assumption | omega | (simp <;> omega)) _ | refine Below.setCell ?_ (by first | assumption | omega | (simp <;> omega)) _ | refine Ext2.on (by assumption) ?_)
    rintro e w1 ⟨rfl, hb1⟩
    have b3 : w1.heap[w.heap.size + 1 + 1 + 1]? = some (Obj.cells #[.int .i64 0, .int .i64 0] 28) := below_blk hb1 (by repeat' (first | (with_reducible assumption) | (with_reducible refine blk_set_ne ?_ ?_) | (with_reducible exact blk_new _ _) | (with_reducible refine blk_new' _ _ (by first | (with_reducible rfl) | (simp; done) | (simp <;> omega))) | (with_reducible refine blk_alloc ?_ _) | (with_reducible refine blk_drew ?_) | (with_reducible refine blk_drewN ?_ _) | (with_reducible refine Ext2.blk (by assumption) ?_) | omega | (simp <;> omega) | exact blk_set (by assumption) _ _)) (by simp)
    have hB1 : Below w.heap.size w w1 := Below.trans (by repeat' (first | exact Below.refl _ _ | assumption | refine below_drewN ?_ _ | refine Below.drew ?_ | refine Below.alloc ?_ (by first | assumption | omega | (simp <;> omega)) _ | refine Below.setCell ?_ (by first | assumption | omega | (simp <;> omega)) _ | refine Ext2.on (by assumption) ?_)) (hb1.mono (by simp; omega))
    have hz := blk_lt b3
    have q3c := cell_blk b3
    have q3f := frz_blk b3
    have e1 : ¬ w1.heap.size = w.heap.size + 1 + 1 + 1 := by omega
    have e2 : ¬ w.heap.size + 1 + 1 + 1 = w1.heap.size := by omega
    have e3 : w.heap.size + 1 + 1 + 1 < w1.heap.size := by omega
    go_wp2_with (fail)
    refine bodyPost_ret (v := .tuple #[.agg #[.int .i64 (Span.mk 0 0).lo, .int .i64 (Span.mk 0 0).hi], .int .i64 er]) (by simp [results, Try.results24, go_sem, q3c, e1, e2, e3]) rfl ⟨?_, by repeat' (first | exact Below.refl _ _ | assumption | refine below_drewN ?_ _ | refine Below.drew ?_ | refine Below.alloc ?_ (by first | assumption | omega | (simp <;> omega)) _ | refine Below.setCell ?_ (by first | assumption | omega | (simp <;> omega)) _ | refine Ext2.on (by assumption) ?_)⟩
    rw [HG.out]
end Go.Proofs.Ytfjbgcaogffiaaa
