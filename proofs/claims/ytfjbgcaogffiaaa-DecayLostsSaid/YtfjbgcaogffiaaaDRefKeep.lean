/-
  The reference's keeping: the levels that keep to a test.
-/
import Derived.Test.YtfjbgcaogffiaaaDHeap
import Derived.Test.YtfjbgcaogffiaaaDOk
import Derived.Test.YtfjbgcaogffiaaaDKeep
namespace Go.Proofs.Ytfjbgcaogffiaaa
open Go.RowKit D
set_option linter.unusedVariables false
set_option linter.unusedSimpArgs false
attribute [local go_sem high] run_minI run_maxI
attribute [local go_sem] upon2 cls_cell cls_frozen forall_const exists_eq_left'
def keepLo (R : Rule) (p : Int) (k : Nat) : Int := if p ≤ 0 ∨ k = 0 then 0 else R.gr (min p k - 1).toNat
def keepHi (R : Rule) (q : Int) (k : Nat) : Int := if q < k then R.gr q.toNat - 1 else 1000000
theorem keepLo_up {R : Rule} {p : Int} {k : Nat} (h : (k : Int) + 1 ≤ p) : keepLo R p (k + 1) = R.gr k := by
  rw [keepLo, if_neg (by omega)]; congr 1; omega
theorem keepLo_same {R : Rule} {p : Int} {k : Nat} (h : p < (k : Int) + 1) : keepLo R p (k + 1) = keepLo R p k := by
  rw [keepLo, keepLo]
  by_cases h1 : p ≤ 0
  · rw [if_pos (.inl h1), if_pos (.inl h1)]
  · rw [if_neg (by omega), if_neg (by omega)]; congr 1; omega
theorem gr_up {R : Rule} (hR : RuleOk R) : ∀ {i j : Nat}, i ≤ j → j < 3 → R.gr i ≤ R.gr j := by
  intro i j hi hj
  have h1 := hR.g1; have h2 := hR.g2
  rcases (by omega : j = 0 ∨ j = 1 ∨ j = 2) with rfl | rfl | rfl
  · obtain rfl : i = 0 := by omega
    exact Int.le_refl _
  · rcases (by omega : i = 0 ∨ i = 1) with rfl | rfl <;> simp only [gr0, gr1] <;> omega
  · rcases (by omega : i = 0 ∨ i = 1 ∨ i = 2) with rfl | rfl | rfl <;> simp only [gr0, gr1, gr2] <;> omega
theorem gr_rng {R : Rule} (hR : RuleOk R) {i : Nat} (hi : i < 3) : 1 ≤ R.gr i ∧ R.gr i ≤ 1000000 := by
  have h0 := hR.g0; have h1 := hR.g1; have h2 := hR.g2
  rcases (by omega : i = 0 ∨ i = 1 ∨ i = 2) with rfl | rfl | rfl <;> simp only [gr0, gr1, gr2] <;> omega
theorem keepHi_up {R : Rule} (hR : RuleOk R) {q : Int} {k : Nat} (h0 : 0 ≤ q) (hk : k < 3) (h : q < (k : Int) + 1) : keepHi R q (k + 1) = min (keepHi R q k) (R.gr k - 1) := by
  rw [keepHi, if_pos (by omega), keepHi]
  have hg := gr_up hR (i := q.toNat) (j := k) (by omega) hk
  have hr := gr_rng hR hk
  by_cases h1 : q < k
  · rw [if_pos h1]; omega
  · rw [if_neg h1, show q.toNat = k by omega]; omega
theorem keepHi_same {R : Rule} {q : Int} {k : Nat} (h : ¬ q < (k : Int) + 1) : keepHi R q (k + 1) = keepHi R q k := by
  rw [keepHi, if_neg (by omega), keepHi, if_neg (by omega)]
theorem keep_eq {R : Rule} {x : Test} : (⟨keepLo R (x.grade - x.err) 3, keepHi R (x.grade + x.err) 3⟩ : Span) = keep R x ∨ ¬ (x.grade - x.err ≤ 3) := by
  by_cases hp : x.grade - x.err ≤ 3
  · left
    rw [keep, keepLo, keepHi]
    congr 1
    · by_cases h : x.grade - x.err ≤ 0
      · rw [if_pos (.inl h), if_pos h]
      · rw [if_neg (by omega), if_neg h]; congr 1; omega
    · by_cases h : 3 ≤ x.grade + x.err
      · rw [if_neg (by omega), if_pos h]
      · rw [if_pos (by omega), if_neg h]
  · exact .inr hp
set_option maxRecDepth 100000 in
set_option maxHeartbeats 3200000 in
theorem keepR_any {R : Rule} {hh hv : Sl} {x : Test} {w : World} (hx : TestOk x) (hR : RuleOk R) :
    Calls Try.prog 91 #[.agg #[.slice hh.a R.heat.length hh.cap, .slice hv.a R.wet.length hv.cap, .int .i64 R.own, .int .i64 R.feed, .int .i64 R.g0, .int .i64 R.g1, .int .i64 R.g2, .int .i64 R.lost], .agg #[.int .i64 x.day, .int .i64 x.grade, .int .i64 x.err]] w fun e w' => e = .returned (.agg #[.int .i64 (keep R x).lo, .int .i64 (keep R x).hi]) ∧ Below w.heap.size w w' := by
  obtain ⟨⟨a0, a1⟩, ⟨e0, e1⟩⟩ := hx
  have hE := (keep_eq (R := R) (x := x)).resolve_right (by omega)
  have HE := Lib.hid hE; have HR := Lib.hid hR
  clear hE hR
  go_enter Try.func91, Try.ntmps91
  go_wp2_with (fail)
  go_loopw [6] (fun v wr => ∃ k : Nat, v = .int .i64 (k : Int) ∧ k ≤ 3 ∧ Below w.heap.size w wr ∧ wr.heap[w.heap.size]? = some (Obj.cells #[.slice hh.a R.heat.length hh.cap, .slice hv.a R.wet.length hv.cap, .int .i64 R.own, .int .i64 R.feed, .int .i64 R.g0, .int .i64 R.g1, .int .i64 R.g2, .int .i64 R.lost] 25) ∧ wr.heap[w.heap.size + 1]? = some (Obj.cells #[.int .i64 x.day, .int .i64 x.grade, .int .i64 x.err] 51) ∧
      wr.heap[w.heap.size + 1 + 1]? = some (Obj.cells #[.int .i64 0, .int .i64 0] 28) ∧ wr.heap[w.heap.size + 1 + 1 + 1]? = some (Obj.cells #[.int .i64 (keepLo R (x.grade - x.err) k), .int .i64 (keepHi R (x.grade + x.err) k)] 28)) (fun v _ => 3 - (intOf v).toNat)
  case atStart =>
    refine ⟨0, rfl, by omega, by repeat' (first | exact Below.refl _ _ | assumption | refine below_drewN ?_ _ | refine Below.drew ?_ | refine Below.alloc ?_ (by first | assumption | omega | (simp <;> omega)) _ | refine Below.setCell ?_ (by first | assumption | omega | (simp <;> omega)) _ | refine Ext2.on (by assumption) ?_), ?_, ?_, ?_, ?_⟩
    · repeat' (first | (with_reducible assumption) | (with_reducible refine blk_set_ne ?_ ?_) | (with_reducible exact blk_new _ _) | (with_reducible refine blk_new' _ _ (by first | (with_reducible rfl) | (simp; done) | (simp <;> omega))) | (with_reducible refine blk_alloc ?_ _) | (with_reducible refine blk_drew ?_) | (with_reducible refine blk_drewN ?_ _) | (with_reducible refine Ext2.blk (by assumption) ?_) | omega | (simp <;> omega) | exact blk_set (by assumption) _ _)
    · repeat' (first | (with_reducible assumption) | (with_reducible refine blk_set_ne ?_ ?_) | (with_reducible exact blk_new _ _) | (with_reducible refine blk_new' _ _ (by first | (with_reducible rfl) | (simp; done) | (simp <;> omega))) | (with_reducible refine blk_alloc ?_ _) | (with_reducible refine blk_drew ?_) | (with_reducible refine blk_drewN ?_ _) | (with_reducible refine Ext2.blk (by assumption) ?_) | omega | (simp <;> omega) | exact blk_set (by assumption) _ _)
    · repeat' (first | (with_reducible assumption) | (with_reducible refine blk_set_ne ?_ ?_) | (with_reducible exact blk_new _ _) | (with_reducible refine blk_new' _ _ (by first | (with_reducible rfl) | (simp; done) | (simp <;> omega))) | (with_reducible refine blk_alloc ?_ _) | (with_reducible refine blk_drew ?_) | (with_reducible refine blk_drewN ?_ _) | (with_reducible refine Ext2.blk (by assumption) ?_) | omega | (simp <;> omega) | exact blk_set (by assumption) _ _)
    · have e1 : keepLo R (x.grade - x.err) 0 = 0 := by rw [keepLo, if_pos (.inr rfl)]
      have e2 : keepHi R (x.grade + x.err) 0 = 1000000 := by rw [keepHi, if_neg (by omega)]
      rw [e1, e2]; repeat' (first | (with_reducible assumption) | (with_reducible refine blk_set_ne ?_ ?_) | (with_reducible exact blk_new _ _) | (with_reducible refine blk_new' _ _ (by first | (with_reducible rfl) | (simp; done) | (simp <;> omega))) | (with_reducible refine blk_alloc ?_ _) | (with_reducible refine blk_drew ?_) | (with_reducible refine blk_drewN ?_ _) | (with_reducible refine Ext2.blk (by assumption) ?_) | omega | (simp <;> omega) | exact blk_set (by assumption) _ _)
  case round =>
    obtain ⟨k, rfl, hk, hB, b0, b1, b2, b3⟩ := hrel
    have hz0 := blk_lt b3
    by_cases hlt : k < 3
    · have hg := gr_rng HR.out hlt
      have hgr : wr.cell? ⟨w.heap.size, 4 + k, none⟩ = some (.int .i64 (R.gr k)) := by
        rw [cell_blk b0]; rcases (by omega : k = 0 ∨ k = 1 ∨ k = 2) with rfl | rfl | rfl <;> rfl
      obtain ⟨lo, hlo⟩ : ∃ lo, lo = keepLo R (x.grade - x.err) k := ⟨_, rfl⟩
      obtain ⟨hi, hhi⟩ : ∃ hi, hi = keepHi R (x.grade + x.err) k := ⟨_, rfl⟩
      rw [← hlo, ← hhi] at b3
      have q1c := cell_blk b1
      have q1f := frz_blk b1
      have q3c := cell_blk b3
      have q3f := frz_blk b3
      obtain ⟨z, hz⟩ : ∃ z, z = R.gr k := ⟨_, rfl⟩
      rw [← hz] at hg hgr
      have j0 : (0 : Int) ≤ (k : Int) := by omega
      have j1 : (k : Int) < 3 := by omega
      by_cases hA : (k : Int) + 1 ≤ x.grade - x.err
      · have hB2 : ¬ x.grade + x.err < (k : Int) + 1 := by omega
        have hl := keepLo_up (R := R) hA; have hh2 := keepHi_same (R := R) hB2
        rw [← hz] at hl; rw [← hhi] at hh2
        have HL := Lib.hid hl; have HH := Lib.hid hh2
        clear hl hh2 hlo hhi hz
        have hB3 : (k : Int) + 1 ≤ x.grade + x.err := by omega
        go_wp2_with (fail)
        go_roundw
        case rel =>
          refine ⟨k + 1, by go_num, by omega, below_set hB (by omega), ?_, ?_, ?_, ?_⟩
          · repeat' (first | (with_reducible assumption) | (with_reducible refine blk_set_ne ?_ ?_) | (with_reducible exact blk_new _ _) | (with_reducible refine blk_new' _ _ (by first | (with_reducible rfl) | (simp; done) | (simp <;> omega))) | (with_reducible refine blk_alloc ?_ _) | (with_reducible refine blk_drew ?_) | (with_reducible refine blk_drewN ?_ _) | (with_reducible refine Ext2.blk (by assumption) ?_) | omega | (simp <;> omega) | exact blk_set (by assumption) _ _)
          · repeat' (first | (with_reducible assumption) | (with_reducible refine blk_set_ne ?_ ?_) | (with_reducible exact blk_new _ _) | (with_reducible refine blk_new' _ _ (by first | (with_reducible rfl) | (simp; done) | (simp <;> omega))) | (with_reducible refine blk_alloc ?_ _) | (with_reducible refine blk_drew ?_) | (with_reducible refine blk_drewN ?_ _) | (with_reducible refine Ext2.blk (by assumption) ?_) | omega | (simp <;> omega) | exact blk_set (by assumption) _ _)
          · repeat' (first | (with_reducible assumption) | (with_reducible refine blk_set_ne ?_ ?_) | (with_reducible exact blk_new _ _) | (with_reducible refine blk_new' _ _ (by first | (with_reducible rfl) | (simp; done) | (simp <;> omega))) | (with_reducible refine blk_alloc ?_ _) | (with_reducible refine blk_drew ?_) | (with_reducible refine blk_drewN ?_ _) | (with_reducible refine Ext2.blk (by assumption) ?_) | omega | (simp <;> omega) | exact blk_set (by assumption) _ _)
          · rw [HL.out, HH.out]; exact blk_set b3 _ _
        case measure => simp [intOf]; omega
      · have hA' : x.grade - x.err < (k : Int) + 1 := by omega
        have hl := keepLo_same (R := R) hA'
        rw [← hlo] at hl
        have HL := Lib.hid hl; clear hl
        by_cases hB2 : x.grade + x.err < (k : Int) + 1
        · have hh2 := keepHi_up HR.out (q := x.grade + x.err) (by omega) hlt hB2
          rw [← hz, ← hhi] at hh2
          have HH := Lib.hid hh2
          clear hh2 hlo hhi hz
          have u1 : IntKind.i64.wrap (z - 1) = z - 1 := IntWalk.i64_in _ (by omega)
          go_wp2_with (fail)
          have hxc : ∀ y : Cls (Ext2 wr), y.1.cell? ⟨w.heap.size, 4 + k, none⟩ = some (.int .i64 z) := fun y => by rw [cls_cell, hgr]; rfl
          refine region_take 9 (by kernel_rfl) (by kernel_rfl) (by intro c a d v w h; cases d <;> exact h) ?_
          simp only [List.take_succ_cons, List.take_zero, List.drop_succ_cons, List.drop_zero]
          repeat (refine wpQ2_step (fun K hK => ?_); go_simp; first | (refine hK _ ?_; clear hK K) | (apply Exists.intro; refine ⟨fun x => ?_, hK _ ?_⟩; (fail); clear hK K))
          refine wpQ2_nil ?_
          intro w1 hg1
          have k0 := hg1.blk b0; have k1 := hg1.blk b1; have k2 := hg1.blk b2; have k3 := hg1.blk b3
          have hB1 := hg1.on hB
          have hz1 := hg1.size
          clear q1c q1f q3c q3f hgr hxc
          have q3c := cell_blk k3
          have q3f := frz_blk k3
          go_wp2_with (fail)
          go_roundw
          case rel =>
            refine ⟨k + 1, by go_num, by omega, below_set hB1 (by omega), ?_, ?_, ?_, ?_⟩
            · repeat' (first | (with_reducible assumption) | (with_reducible refine blk_set_ne ?_ ?_) | (with_reducible exact blk_new _ _) | (with_reducible refine blk_new' _ _ (by first | (with_reducible rfl) | (simp; done) | (simp <;> omega))) | (with_reducible refine blk_alloc ?_ _) | (with_reducible refine blk_drew ?_) | (with_reducible refine blk_drewN ?_ _) | (with_reducible refine Ext2.blk (by assumption) ?_) | omega | (simp <;> omega) | exact blk_set (by assumption) _ _)
            · repeat' (first | (with_reducible assumption) | (with_reducible refine blk_set_ne ?_ ?_) | (with_reducible exact blk_new _ _) | (with_reducible refine blk_new' _ _ (by first | (with_reducible rfl) | (simp; done) | (simp <;> omega))) | (with_reducible refine blk_alloc ?_ _) | (with_reducible refine blk_drew ?_) | (with_reducible refine blk_drewN ?_ _) | (with_reducible refine Ext2.blk (by assumption) ?_) | omega | (simp <;> omega) | exact blk_set (by assumption) _ _)
            · repeat' (first | (with_reducible assumption) | (with_reducible refine blk_set_ne ?_ ?_) | (with_reducible exact blk_new _ _) | (with_reducible refine blk_new' _ _ (by first | (with_reducible rfl) | (simp; done) | (simp <;> omega))) | (with_reducible refine blk_alloc ?_ _) | (with_reducible refine blk_drew ?_) | (with_reducible refine blk_drewN ?_ _) | (with_reducible refine Ext2.blk (by assumption) ?_) | omega | (simp <;> omega) | exact blk_set (by assumption) _ _)
            · rw [HL.out, HH.out]; exact blk_set k3 _ _
          case measure => simp [intOf]; omega
        · have hh2 := keepHi_same (R := R) hB2
          rw [← hhi] at hh2
          have HH := Lib.hid hh2
          clear hh2 hlo hhi hz
          have hB3 : (k : Int) + 1 ≤ x.grade + x.err := by omega
          go_wp2_with (fail)
          go_roundw
          case rel => exact ⟨k + 1, by go_num, by omega, hB, b0, b1, b2, by rw [HL.out, HH.out]; exact b3⟩
          case measure => simp [intOf]; omega
    · obtain rfl : k = 3 := by omega
      rw [show keepLo R (x.grade - x.err) 3 = (keep R x).lo from congrArg Span.lo HE.out, show keepHi R (x.grade + x.err) 3 = (keep R x).hi from congrArg Span.hi HE.out] at b3
      have q2c := cell_blk b2
      have q2f := frz_blk b2
      have q3c := cell_blk b3
      have q3f := frz_blk b3
      go_wp2_with (fail)
      refine bodyPost_ret (v := .agg #[.int .i64 (keep R x).lo, .int .i64 (keep R x).hi]) ?_ rfl ⟨?_, by repeat' (first | exact Below.refl _ _ | assumption | refine below_drewN ?_ _ | refine Below.drew ?_ | refine Below.alloc ?_ (by first | assumption | omega | (simp <;> omega)) _ | refine Below.setCell ?_ (by first | assumption | omega | (simp <;> omega)) _ | refine Ext2.on (by assumption) ?_)⟩
      · simp [results, Try.results91, go_sem, q2c, q2f]
      rfl
end Go.Proofs.Ytfjbgcaogffiaaa
