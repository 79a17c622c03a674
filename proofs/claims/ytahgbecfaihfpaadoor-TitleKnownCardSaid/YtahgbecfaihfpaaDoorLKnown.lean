/-
  TitleKnown: the law returns true for every input, and leaves its arguments as they were. No condition but the listed tables of utf8, tied to the program's text.
-/
import Derived.Test.YtahgbecfaihfpaaDoorTArgM
import Derived.Test.YtahgbecfaihfpaaDoorTLawKn
namespace Go.Proofs.YtahgbecfaihfpaaDoor
open Go.ChangeShapes Go.WideShapes Go.ChangeAt Go.RowKit D
set_option linter.unusedVariables false
set_option linter.unusedSimpArgs false
set_option maxRecDepth 100000 in
theorem TitleKnown_lifted (os : Os) (started : os.Started) (H : Type) (enc : TypeId × Value → H) :
    ReturnsInHanded {} Tryd.checked os 15 .any (fun w args => (Rows.titleKnownSpec.pre enc Tryd.prog Tryd.f15 [] false w args ∧ laidMetH Tryd.prog laidL w) ∧ sizedMet enc Tryd.prog Tryd.f15 (OpenSpec.ofChange Rows.titleKnownSpec) false w args)
      (Rows.titleKnownSpec.post enc Tryd.prog Tryd.f15 false true false false) := by
  refine handed_and_shaped (C := Tryd.checked) (X := fun w _ => laidMetH Tryd.prog laidL w) ownT started (by kernel_rfl) Tryd.func15
    (ChangeSpec.witness_shaped (enc := enc) (C := Tryd.checked) (os := os) (X := fun w _ => laidMetH Tryd.prog laidL w) false (World.laidAll Tryd.prog os laidL) #[] 8 (World.laidAll_os _ _ _)
      (World.shaped_of_ZipB (by kernel_rfl) (by kernel_rfl)) (by kernel_rfl) (by kernel_rfl) (by kernel_rfl)
      (by rw [MakeChecks.laidMetH_plain _ _ _ (by kernel_rfl)]; exact laidMet_laidAll _ (by kernel_rfl) (by kernel_rfl))) ?_
  intro W base args ds gs before hval0 hW hsh
  have hmx := maxAt_shaped hsh
  have hval : ∀ (j : Nat) t v, Tryd.f15.params[j]? = some t → args[j]? = some v → Value.okWide Tryd.prog W .any base t v := hval0
  have hW' := hW
  obtain ⟨p, q, hA0, hV, rfl, hfz, hnd⟩ := hW
  have hA : DataW.TrodAll enc Tryd.prog W 0 (fun _ => true) true Tryd.f15.params.toList args.toList ds p := hA0
  rw [Tryd.params15] at hA hval
  obtain ⟨rfl, rfl, rfl⟩ := trodAll_none hA
  obtain ⟨rfl, rfl⟩ := trodVars_none hV
  clear hA0 hval0
  simp only [List.append_nil, List.append_assoc] at hW'
  refine (lawKnown_any hmx).mono fun e W' ⟨he, hB⟩ => ?_
  subst he
  exact ⟨_, rfl, post_below hW' rfl (fun _ => trodAll_cons_mk (shut_bool Tryd.underlying4 _) trodAll_mk0) trodAll_mk0 rfl hB⟩
theorem TitleKnown_over : Rows.titleKnownRow.holds Tryd.pinned (OpenSpec.ofChange Rows.titleKnownSpec) :=
  OpenClaim.holds_of_wide 15 Tryd.f15 rfl rfl rfl rfl rfl rfl rfl ⟨rfl, rfl, rfl, rfl, rfl⟩ rfl rfl rfl rfl rfl (by kernel_rfl) Tryd.func15 (by kernel_rfl)
    (of_decide_eq_true (by kernel_rfl)) (by unfold Func.isWrapper; first | (rw [if_pos (by decide +kernel)]; kernel_rfl) | (rw [if_neg (by decide +kernel)]; exact ⟨rfl, rfl⟩))
    (fun os started H enc _ => TitleKnown_lifted os started H enc)
/-- The statement: the tied card. -/
theorem titleKnown_proved : Rows.TitleKnownCardSaid :=
  Claim7.holds_tied_plain_at .later [] [.data, .pinned] true Rows.titleKnownCard.stood.harness true TitleKnown_over (fun _ h => by cases h) (by kernel_rfl) (fun _ h => by cases h) titleKnown_row_tie rfl ⟨rfl, rfl⟩ (by kernel_rfl) rfl
    (fun f fn hf hfn => by
      obtain rfl : f = 15 := Option.some.inj ((show Tryd.prog.funcNamed "telecine/telecinelaw10.TitleKnown" = some 15 by kernel_rfl).symm.trans hf) |>.symm
      obtain rfl : fn = Tryd.f15 := (Option.some.inj (Tryd.func15.symm.trans hfn)).symm
      exact ⟨by kernel_rfl, fun j t ht => by
        rw [Tryd.params15] at ht
        simp at ht⟩)
    (by kernel_rfl)
#print axioms titleKnown_proved
end Go.Proofs.YtahgbecfaihfpaaDoor
