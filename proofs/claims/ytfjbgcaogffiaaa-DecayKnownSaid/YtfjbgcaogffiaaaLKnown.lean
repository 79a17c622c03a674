/-
  DecayKnown: the law returns true for every input, and leaves its arguments as they were. No condition.
-/
import Derived.Test.YtfjbgcaogffiaaaDReadA
import Derived.Test.YtfjbgcaogffiaaaDLawKn
namespace Go.Proofs.Ytfjbgcaogffiaaa
open Go.ChangeShapes Go.WideShapes Go.ChangeAt Go.RowKit D
set_option linter.unusedVariables false
set_option linter.unusedSimpArgs false
set_option maxRecDepth 100000 in
theorem DecayKnown_lifted (os : Os) (started : os.Started) (H : Type) (enc : TypeId × Value → H) :
    ReturnsInHanded {} Try.checked os 16 .any (Rows.decayKnownSpec.pre6 enc Try.prog Try.f16 Rows.decayKnownRow.domain false) (Rows.decayKnownSpec.post enc Try.prog Try.f16 false true false false) := by
  refine returnsInHanded_of_change (C := Try.checked) ownT started (by kernel_rfl) Try.func16
    (ChangeSpec.witness6 (enc := enc) (C := Try.checked) false ⟨#[], #[], []⟩ 8 (by kernel_rfl) (by kernel_rfl) (by kernel_rfl) (by kernel_rfl)) ?_
  intro W base args ds gs before hval0 hW hcnd _
  have hval : ∀ (j : Nat) t v, Try.f16.params[j]? = some t → args[j]? = some v → Value.okWide Try.prog W .any base t v := hval0
  have hW' := hW
  obtain ⟨p, q, hA0, hV, rfl, hfz, hnd⟩ := hW
  have hA : DataW.TrodAll enc Try.prog W 0 (fun _ => true) true Try.f16.params.toList args.toList ds p := hA0
  rw [Try.params16] at hA hval
  obtain ⟨rfl, rfl, rfl⟩ := trodAll_none hA
  obtain ⟨rfl, rfl⟩ := trodVars_none hV
  clear hA0 hval0
  simp only [List.append_nil, List.append_assoc] at hW'
  refine (lawKnown_any W).mono fun e W' ⟨he, hB⟩ => ?_
  subst he
  exact ⟨_, rfl, post_below hW' rfl (fun _ => trodAll_cons_mk (shut_bool Try.underlying4 _) trodAll_mk0) trodAll_mk0 rfl hB⟩
theorem DecayKnown_over : Rows.decayKnownRow.holds Try.pinned (OpenSpec.ofChange Rows.decayKnownSpec) :=
  OpenClaim.holds_of_wide 16 Try.f16 rfl rfl rfl rfl rfl rfl rfl ⟨rfl, rfl, rfl, rfl, rfl⟩ rfl rfl rfl rfl rfl (by kernel_rfl) Try.func16 (by kernel_rfl)
    (of_decide_eq_true (by kernel_rfl)) (by unfold Func.isWrapper; first | (rw [if_pos (by decide +kernel)]; kernel_rfl) | (rw [if_neg (by decide +kernel)]; exact ⟨rfl, rfl⟩))
    (fun os started H enc _ => DecayKnown_lifted os started H enc)
/-- The statement. -/
theorem decayKnown_proved : Rows.DecayKnownSaid := DecayKnown_over
#print axioms decayKnown_proved
end Go.Proofs.Ytfjbgcaogffiaaa
