/-
  The reference's taken: the tests that are taken, and the struck ones.
-/
import Derived.Test.YtfjbgcaogffiaaaDRefOn
import Derived.Test.YtfjbgcaogffiaaaDRefOrd
import Derived.Test.YtfjbgcaogffiaaaDRefKeep
import Derived.Test.YtfjbgcaogffiaaaDPlainA
namespace Go.Proofs.Ytfjbgcaogffiaaa
open Go.RowKit D
set_option linter.unusedVariables false
set_option linter.unusedSimpArgs false
attribute [local go_sem high] run_minI run_maxI
attribute [local go_sem] upon2 cls_cell cls_frozen forall_const exists_eq_left'
theorem elStrike : Elem Try.prog 33 65 (.agg #[.int .i64 0, .int .i64 0]) 2 16 := ⟨by kernel_rfl, by kernel_rfl, rfl, by omega, by omega⟩
theorem own_ne {w : World} {base base' : Nat} {e e' : TypeId} {sz sz' : Nat} {v v' : Value} {n n' : Nat} {c c' : Nat → Nat → Value} (h : OwnR w base e sz v n c) (h' : OwnR w base' e' sz' v' n' c') (he : e ≠ e') : v.ownBlock = none ∨ v.ownBlock ≠ v'.ownBlock := by
  rcases h.forms with ⟨rfl, _⟩ | ⟨g, cap, rfl, _, _, _, _, _, cur, hg⟩
  · exact .inl rfl
  · right
    rcases h'.forms with ⟨rfl, _⟩ | ⟨g', cap', rfl, _, _, _, _, _, cur', hg'⟩
    · intro h; cases h
    · intro h
      have e1 : g = g' := by simpa [Value.ownBlock] using h
      subst e1
      rw [hg] at hg'
      exact he (by simpa using (Obj.cells.inj (Option.some.inj hg')).2.1)
theorem app_keeps {W w1 : World} {base : Nat} {e : TypeId} {sz : Nat} {v : Value} {n : Nat} {c : Nat → Nat → Value} (hO : OwnR W base e sz v n c) (hg : W.grownBy w1 v.ownBlock) {b : Nat} {x : Obj} (h : W.heap[b]? = some x) (hb : b < base) : w1.heap[b]? = some x :=
  (hg.block b (blk_lt h) (fun he => by have := own_block hO b he.symm; omega)).trans h
theorem app_other {W w1 : World} {base base' : Nat} {e e' : TypeId} {sz sz' : Nat} {v v' : Value} {n n' : Nat} {c c' : Nat → Nat → Value} (hO : OwnR W base e sz v n c) (hO' : OwnR W base' e' sz' v' n' c') (he : e' ≠ e) (hg : W.grownBy w1 v.ownBlock) : OwnR w1 base' e' sz' v' n' c' :=
  hO'.kept hg (own_ne hO' hO he)
theorem app_below {B : Nat} {w W w1 : World} {base : Nat} {e : TypeId} {sz : Nat} {v : Value} {n : Nat} {c : Nat → Nat → Value} (hB : Below B w W) (hO : OwnR W base e sz v n c) (hb : B ≤ base) (hle : B ≤ W.heap.size) (hg : W.grownBy w1 v.ownBlock) : Below B w w1 :=
  hB.grown hg hle (fun k hk => Nat.le_trans hb (own_block hO k hk))
theorem days_of {T : Task} (hk : TaskOk T) : Days T := fun j hj => by
  have := hk.tests j hj
  simp only [dayD']; omega
theorem keep_lev {R : Rule} (hR : RuleOk R) {x : Test} (hx : TestOk x) : LevOk (keep R x) ∧ (keep R x).lo ≤ (keep R x).hi := by
  obtain ⟨⟨a0, a1⟩, ⟨b0, b1⟩⟩ := hx
  have g : ∀ i, i < 3 → 1 ≤ R.gr i ∧ R.gr i ≤ 1000000 := fun i hi => gr_rng hR hi
  rw [keep, LevOk]
  simp only
  by_cases h1 : x.grade - x.err ≤ 0
  · rw [if_pos h1]
    by_cases h2 : 3 ≤ x.grade + x.err
    · rw [if_pos h2]; omega
    · rw [if_neg h2]; have := g (x.grade + x.err).toNat (by omega); omega
  · rw [if_neg h1]
    have g1 := g (x.grade - x.err - 1).toNat (by omega)
    by_cases h2 : 3 ≤ x.grade + x.err
    · rw [if_pos h2]; omega
    · rw [if_neg h2]
      have g2 := g (x.grade + x.err).toNat (by omega)
      have h3 : R.gr (x.grade - x.err - 1).toNat < R.gr (x.grade + x.err).toNat := by
        have hR1 := hR.g1; have hR2 := hR.g2
        obtain ⟨i, hi⟩ : ∃ i, i = (x.grade - x.err - 1).toNat := ⟨_, rfl⟩
        obtain ⟨j, hj⟩ : ∃ j, j = (x.grade + x.err).toNat := ⟨_, rfl⟩
        rw [← hi, ← hj]
        rcases (by omega : (i = 0 ∧ j = 1) ∨ (i = 0 ∧ j = 2) ∨ (i = 1 ∧ j = 2)) with ⟨h, h'⟩ | ⟨h, h'⟩ | ⟨h, h'⟩ <;> rw [h, h'] <;> simp only [gr0, gr1, gr2] <;> omega
      omega
/-- The reference's state keeps to the levels. -/
theorem rnow_lev {T : Task} (hk : TaskOk T) : ∀ {n : Nat}, n ≤ T.tests.length → LevOk (rfold T n).now
  | 0, _ => ⟨hk.start.1, hk.start.2.1⟩
  | n + 1, hn => by
    have ih := rnow_lev hk (n := n) (by omega)
    have hl := order_len T
    have hm := (mo_days (days_of hk) (order_lt (n := n) (by omega))).1
    have ha := (rinv (T := T) (n := n) (by omega)).at_le (days_of hk) (by omega)
    have hon : LevOk (on T.rule (forces T) (rfold T n).now (rfold T n).at_ (mo T ((orderT T).getD n 0))) := onF_lev hk ih _ (by omega)
    rw [rfold_succ T (by omega), rstep]
    have hkp := (keep_lev hk.rule (hk.tests _ (order_lt (n := n) (by omega))).1)
    split
    · exact hon
    · obtain ⟨⟨a, b⟩, c, d⟩ := hon
      obtain ⟨⟨⟨a', b'⟩, c', d'⟩, _⟩ := hkp
      simp only [LevOk, both, kp]
      omega
end Go.Proofs.Ytfjbgcaogffiaaa
