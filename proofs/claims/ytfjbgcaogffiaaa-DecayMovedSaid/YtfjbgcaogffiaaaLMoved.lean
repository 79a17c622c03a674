/-
  DecayMoved: the law returns true for every input, and leaves its arguments as they were. No condition.
-/
import Derived.Test.YtfjbgcaogffiaaaDReadA
import Derived.Test.YtfjbgcaogffiaaaDLawMo
import Derived.Test.YtfjbgcaogffiaaaDReadC
namespace Go.Proofs.Ytfjbgcaogffiaaa
open Go.ChangeShapes Go.WideShapes Go.ChangeAt Go.RowKit D
set_option linter.unusedVariables false
set_option linter.unusedSimpArgs false
set_option maxRecDepth 100000 in
theorem DecayMoved_lifted (os : Os) (started : os.Started) (H : Type) (enc : TypeId × Value → H) :
    ReturnsInHanded {} Try.checked os 15 .any (Rows.decayMovedSpec.pre6 enc Try.prog Try.f15 Rows.decayMovedRow.domain false) (Rows.decayMovedSpec.post enc Try.prog Try.f15 false true false false) := by
  refine returnsInHanded_of_change (C := Try.checked) ownT started (by kernel_rfl) Try.func15
    (ChangeSpec.witness6 (enc := enc) (C := Try.checked) false ⟨#[], #[.agg #[.slice none 0 0, .slice none 0 0, .int .i64 0, .int .i64 0, .int .i64 0, .int .i64 0, .int .i64 0, .int .i64 0, .int .i64 0, .slice none 0 0, .int .i64 0, .int .i64 0, .slice none 0 0], .int .i64 0, .agg #[.int .u8 0, .int .u8 0]], []⟩ 8 (by kernel_rfl) (by kernel_rfl) (by kernel_rfl) (by kernel_rfl)) ?_
  intro W base args ds gs before hval0 hW hcnd _
  have hval : ∀ (j : Nat) t v, Try.f15.params[j]? = some t → args[j]? = some v → Value.okWide Try.prog W .any base t v := hval0
  have hW' := hW
  obtain ⟨p, q, hA0, hV, rfl, hfz, hnd⟩ := hW
  have hA : DataW.TrodAll enc Try.prog W 0 (fun _ => true) true Try.f15.params.toList args.toList ds p := hA0
  rw [Try.params15] at hA hval
  obtain ⟨v0, v1, v2, d0, d1, d2, p0, p1, p2, rfl, rfl, rfl, h0, h1, h2⟩ := trodAll_three hA
  obtain ⟨rfl, rfl⟩ := trodVars_none hV
  clear hA0 hval0
  simp only [List.append_nil, List.append_assoc] at hW'
  have hlt0 : ∀ x ∈ p0, x.block < W.heap.size := fun x hx => by simpa using hW'.lt x (by simp [hx])
  have hlt1 : ∀ x ∈ p1, x.block < W.heap.size := fun x hx => by simpa using hW'.lt x (by simp [hx])
  have hlt2 : ∀ x ∈ p2, x.block < W.heap.size := fun x hx => by simpa using hW'.lt x (by simp [hx])
  obtain ⟨X0, s0, hv0, H0⟩ := arg_task (hval 0 31 v0 rfl rfl) h0
  subst hv0
  obtain ⟨X1, hv1, B1⟩ := arg_int (hval 1 3 v1 rfl rfl) h1
  subst hv1
  obtain ⟨X2, B2, hv2⟩ := arg_u8x2 (hval 2 66 v2 rfl rfl) h2
  subst hv2
  refine (lawMoved_any H0 (IntWalk.i64_in _ (by omega)) B2).mono fun e W' ⟨he, hB⟩ => ?_
  subst he
  exact ⟨_, rfl, post_below hW' rfl (fun _ => trodAll_cons_mk (shut_bool Try.underlying4 _) trodAll_mk0) (trodAll_mk3 (Below.trod laidT (by kernel_rfl) (of_decide_eq_true (by kernel_rfl)) h0 hB hlt0) (Below.trod laidT (by kernel_rfl) (of_decide_eq_true (by kernel_rfl)) h1 hB hlt1) (Below.trod laidT (by kernel_rfl) (of_decide_eq_true (by kernel_rfl)) h2 hB hlt2)) rfl hB⟩
theorem DecayMoved_over : Rows.decayMovedRow.holds Try.pinned (OpenSpec.ofChange Rows.decayMovedSpec) :=
  OpenClaim.holds_of_wide 15 Try.f15 rfl rfl rfl rfl rfl rfl rfl ⟨rfl, rfl, rfl, rfl, rfl⟩ rfl rfl rfl rfl rfl (by kernel_rfl) Try.func15 (by kernel_rfl)
    (of_decide_eq_true (by kernel_rfl)) (by unfold Func.isWrapper; first | (rw [if_pos (by decide +kernel)]; kernel_rfl) | (rw [if_neg (by decide +kernel)]; exact ⟨rfl, rfl⟩))
    (fun os started H enc _ => DecayMoved_lifted os started H enc)
/-- The statement. -/
theorem decayMoved_proved : Rows.DecayMovedSaid := DecayMoved_over
#print axioms decayMoved_proved
end Go.Proofs.Ytfjbgcaogffiaaa
