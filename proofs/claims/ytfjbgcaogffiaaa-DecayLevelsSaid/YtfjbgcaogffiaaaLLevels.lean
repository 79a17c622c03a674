/-
  DecayLevels: for every task the program's Levels returns what the reference's Levels returns (the law returns true and leaves its argument as it was). No condition.
-/
import Derived.Test.YtfjbgcaogffiaaaDLift
import Derived.Test.YtfjbgcaogffiaaaDLawLv
namespace Go.Proofs.Ytfjbgcaogffiaaa
open Go.ChangeShapes Go.WideShapes Go.ChangeAt Go.RowKit D
set_option linter.unusedVariables false
set_option maxRecDepth 100000 in
theorem levels_lifted (os : Os) (started : os.Started) (H : Type) (enc : TypeId × Value → H) :
    ReturnsInHanded {} Try.checked os 3 .any (Rows.decayLevelsSpec.pre6 enc Try.prog Try.f3 Rows.decayLevelsRow.domain false) (Rows.decayLevelsSpec.post enc Try.prog Try.f3 false true false false) := by
  refine returnsInHanded_of_change (C := Try.checked) ownT started (by kernel_rfl) Try.func3
    (ChangeSpec.witness6 (enc := enc) (C := Try.checked) false ⟨#[], #[.agg #[.slice none 0 0, .slice none 0 0, .int .i64 0, .int .i64 0, .int .i64 0, .int .i64 0, .int .i64 0, .int .i64 0, .int .i64 0, .slice none 0 0, .int .i64 0, .int .i64 0, .slice none 0 0]], []⟩ 8 (by kernel_rfl) (by kernel_rfl) (by kernel_rfl) (by kernel_rfl)) ?_
  intro W base args ds gs before hval0 hW hcnd _
  have hval : ∀ (j : Nat) t v, Try.f3.params[j]? = some t → args[j]? = some v → Value.okWide Try.prog W .any base t v := hval0
  have hW' := hW
  obtain ⟨p, q, hA0, hV, rfl, hfz, hnd⟩ := hW
  have hA : DataW.TrodAll enc Try.prog W 0 (fun _ => true) true Try.f3.params.toList args.toList ds p := hA0
  rw [Try.params3] at hA hval
  obtain ⟨v0, d0, rfl, rfl, h0⟩ := trodAll_one hA
  obtain ⟨rfl, rfl⟩ := trodVars_none hV
  clear hA0 hval0
  simp only [List.append_nil] at hW'
  have hlt : ∀ x ∈ p, x.block < W.heap.size := fun x hx => by simpa using hW'.lt x hx
  obtain ⟨T, s, hv0, hT⟩ := arg_task (hval 0 31 v0 rfl rfl) h0
  subst hv0
  refine (lawLevels_any hT).mono fun e W' ⟨he, hB⟩ => ?_
  subst he
  exact ⟨_, rfl, post_below hW' rfl (fun _ => trodAll_cons_mk (shut_bool Try.underlying4 _) trodAll_mk0) (trodAll_mk1 (Below.trod laidT (by kernel_rfl) (of_decide_eq_true (by kernel_rfl)) h0 hB hlt)) rfl hB⟩
theorem levels_over : Rows.decayLevelsRow.holds Try.pinned (OpenSpec.ofChange Rows.decayLevelsSpec) :=
  OpenClaim.holds_of_wide 3 Try.f3 rfl rfl rfl rfl rfl rfl rfl ⟨rfl, rfl, rfl, rfl, rfl⟩ rfl rfl rfl rfl rfl (by kernel_rfl) Try.func3 (by kernel_rfl)
    (of_decide_eq_true (by kernel_rfl)) (by unfold Func.isWrapper; first | (rw [if_pos (by decide +kernel)]; kernel_rfl) | (rw [if_neg (by decide +kernel)]; exact ⟨rfl, rfl⟩))
    (fun os started H enc _ => levels_lifted os started H enc)
/-- The statement. -/
theorem decayLevels_proved : Rows.DecayLevelsSaid := levels_over
#print axioms decayLevels_proved
end Go.Proofs.Ytfjbgcaogffiaaa
