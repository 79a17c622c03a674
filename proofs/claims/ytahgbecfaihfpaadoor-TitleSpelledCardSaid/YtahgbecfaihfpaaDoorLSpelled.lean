/-
  TitleSpelled: the law returns true for every input, and leaves its arguments as they were. No condition but the listed tables of utf8, tied to the program's text.
-/
import Derived.Test.YtahgbecfaihfpaaDoorTArgM
import Derived.Test.YtahgbecfaihfpaaDoorTLawSp
import Derived.Test.YtahgbecfaihfpaaDoorTArgZ
namespace Go.Proofs.YtahgbecfaihfpaaDoor
open Go.ChangeShapes Go.WideShapes Go.ChangeAt Go.RowKit D
set_option linter.unusedVariables false
set_option linter.unusedSimpArgs false
set_option maxRecDepth 100000 in
theorem TitleSpelled_lifted (os : Os) (started : os.Started) (H : Type) (enc : TypeId × Value → H) :
    ReturnsInHanded {} Tryd.checked os 5 .any (fun w args => (Rows.titleSpelledSpec.pre enc Tryd.prog Tryd.f5 [] false w args ∧ laidMetH Tryd.prog laidL w) ∧ sizedMet enc Tryd.prog Tryd.f5 (OpenSpec.ofChange Rows.titleSpelledSpec) false w args)
      (Rows.titleSpelledSpec.post enc Tryd.prog Tryd.f5 false true false false) := by
  refine handed_and_sized (C := Tryd.checked) (X := fun w _ => laidMetH Tryd.prog laidL w) ownT started (by kernel_rfl) Tryd.func5
    (ChangeSpec.witness_shaped (enc := enc) (C := Tryd.checked) (os := os) (X := fun w _ => laidMetH Tryd.prog laidL w) false (World.laidAll Tryd.prog os laidL) #[.agg #[.int .i64 0, .int .i64 0, .slice none 0 0, .slice none 0 0], .slice none 0 0, .agg #[.string ByteArray.empty, .int .i64 0, .slice none 0 0]] 8 (World.laidAll_os _ _ _)
      (World.shaped_of_ZipB (by kernel_rfl) (by kernel_rfl)) (by kernel_rfl) (by kernel_rfl) (by kernel_rfl)
      (by rw [MakeChecks.laidMetH_plain _ _ _ (by kernel_rfl)]; exact laidMet_laidAll _ (by kernel_rfl) (by kernel_rfl))) ?_
  intro W base args ds gs before hval0 hW hsh hsz
  have hmx := maxAt_shaped hsh
  have hval : ∀ (j : Nat) t v, Tryd.f5.params[j]? = some t → args[j]? = some v → Value.okWide Tryd.prog W .any base t v := hval0
  have hW' := hW
  obtain ⟨p, q, hA0, hV, rfl, hfz, hnd⟩ := hW
  have hA : DataW.TrodAll enc Tryd.prog W 0 (fun _ => true) true Tryd.f5.params.toList args.toList ds p := hA0
  rw [Tryd.params5] at hA hval
  obtain ⟨v0, v1, v2, d0, d1, d2, p0, p1, p2, rfl, rfl, rfl, h0, h1, h2⟩ := trodAll_three hA
  obtain ⟨rfl, rfl⟩ := trodVars_none hV
  clear hA0 hval0
  simp only [List.append_nil, List.append_assoc] at hW'
  have hlt0 : ∀ x ∈ p0, x.block < W.heap.size := fun x hx => by simpa using hW'.lt x (by simp [hx])
  have hlt1 : ∀ x ∈ p1, x.block < W.heap.size := fun x hx => by simpa using hW'.lt x (by simp [hx])
  have hlt2 : ∀ x ∈ p2, x.block < W.heap.size := fun x hx => by simpa using hW'.lt x (by simp [hx])
  obtain ⟨X0, s0, hv0, H0⟩ := arg_font (hval 0 25 v0 rfl rfl) h0
  subst hv0
  obtain ⟨X1, s1, hv1, H1⟩ := arg_ints (hval 1 26 v1 rfl rfl) h1
  subst hv1
  obtain ⟨X2, r2, hv2, H2⟩ := arg_glyph (hval 2 41 v2 rfl rfl) h2
  subst hv2
  have hzz : ∀ i, i < X0.glyphs.length → (glD X0.glyphs i).text.size ≤ 140737488355328 := by
    obtain ⟨ds', gs', before', hW2, hw2⟩ := hsz
    obtain ⟨p', q', hA2, -, -, -, -⟩ := hW2
    have hA2 : DataW.TrodAll enc Tryd.prog W 0 (fun _ => true) true Tryd.f5.params.toList [.agg #[.int .i64 X0.high, .int .i64 X0.space, .slice s0.g.a X0.glyphs.length s0.g.cap, .slice s0.k.a X0.kerns.length s0.k.cap], _, _] ds' p' := hA2
    rw [Tryd.params5] at hA2 hw2
    obtain ⟨u0, u1, u2, e0, e1, e2, r0, r1, r2, he, rfl, rfl, k0, k1, k2⟩ := trodAll_three hA2
    have hu0 : u0 = .agg #[.int .i64 X0.high, .int .i64 X0.space, .slice s0.g.a X0.glyphs.length s0.g.cap, .slice s0.k.a X0.kerns.length s0.k.cap] := by have := congrArg (fun a : Array Value => a[0]?) he; simpa using this.symm
    subst hu0
    obtain ⟨f, hf⟩ := k0
    refine font_sized hf (fun n hn => ?_) H0
    have := List.all_eq_true.1 hw2 n (DataW.weights_mem_each (j := 0) rfl rfl n hn)
    simpa using this
  refine (lawSpelled_any H0 hzz H1 H2.1 H2.2 hmx).mono fun e W' ⟨he, hB⟩ => ?_
  subst he
  exact ⟨_, rfl, post_below hW' rfl (fun _ => trodAll_cons_mk (shut_bool Tryd.underlying4 _) trodAll_mk0) (trodAll_mk3 (Below.trod laidT (by kernel_rfl) (of_decide_eq_true (by kernel_rfl)) h0 hB hlt0) (Below.trod laidT (by kernel_rfl) (of_decide_eq_true (by kernel_rfl)) h1 hB hlt1) (Below.trod laidT (by kernel_rfl) (of_decide_eq_true (by kernel_rfl)) h2 hB hlt2)) rfl hB⟩
theorem TitleSpelled_over : Rows.titleSpelledRow.holds Tryd.pinned (OpenSpec.ofChange Rows.titleSpelledSpec) :=
  OpenClaim.holds_of_wide 5 Tryd.f5 rfl rfl rfl rfl rfl rfl rfl ⟨rfl, rfl, rfl, rfl, rfl⟩ rfl rfl rfl rfl rfl (by kernel_rfl) Tryd.func5 (by kernel_rfl)
    (of_decide_eq_true (by kernel_rfl)) (by unfold Func.isWrapper; first | (rw [if_pos (by decide +kernel)]; kernel_rfl) | (rw [if_neg (by decide +kernel)]; exact ⟨rfl, rfl⟩))
    (fun os started H enc _ => TitleSpelled_lifted os started H enc)
/-- The statement: the tied card. -/
theorem titleSpelled_proved : Rows.TitleSpelledCardSaid :=
  Claim7.holds_tied_plain_at .later [] [.data, .pinned] true Rows.titleSpelledCard.stood.harness true TitleSpelled_over (fun _ h => by cases h) (by kernel_rfl) (fun _ h => by cases h) titleSpelled_row_tie rfl ⟨rfl, rfl⟩ (by kernel_rfl) rfl
    (fun f fn hf hfn => by
      obtain rfl : f = 5 := Option.some.inj ((show Tryd.prog.funcNamed "telecine/telecinelaw10.TitleSpelled" = some 5 by kernel_rfl).symm.trans hf) |>.symm
      obtain rfl : fn = Tryd.f5 := (Option.some.inj (Tryd.func5.symm.trans hfn)).symm
      exact ⟨by kernel_rfl, fun j t ht => by
        rw [Tryd.params5] at ht
        have hm : t ∈ [25, 26, 41] := by simpa using Array.mem_of_getElem? ht
        have hall : ([25, 26, 41].all fun u => !Tryd.prog.wantsStandIn u) = true := by kernel_rfl
        exact (show Tryd.prog.wantsStandIn t = false by simpa using List.all_eq_true.1 hall t hm)⟩)
    (by kernel_rfl)
#print axioms titleSpelled_proved
end Go.Proofs.YtahgbecfaihfpaaDoor
