/-
  title.rows, title.rule, title.CheckRule.
  title.CheckRule; how functions with a deferred caught end.
  ref.rows, ref.CheckRule.
-/
import Derived.Test.YtahgbecfaihfpaaDoorTLoad
namespace Go.Proofs.YtahgbecfaihfpaaDoor.D
def rowsV (F : Font) (R : Rul) : Int := R.lines * (F.high + R.lead) - R.lead
def goodR (R : Rul) : Bool := inB R.measure 1 48 && inB R.lines 1 12 && inB R.lead 0 10 && inB R.short 0 24 && inB R.extra 0 10000 && inB R.ink 1 255
def checkRul (F : Font) (R : Rul) : Int := if (checkF F).2.2 ≠ 0 then (checkF F).2.2 else if goodR R = false then 7 else if 48 < rowsV F R then 2 else 0
structure RulOk (F : Font) (R : Rul) : Prop where
  measure : 1 ≤ R.measure ∧ R.measure ≤ 48
  lines : 1 ≤ R.lines ∧ R.lines ≤ 12
  lead : 0 ≤ R.lead ∧ R.lead ≤ 10
  short : 0 ≤ R.short ∧ R.short ≤ 24
  extra : 0 ≤ R.extra ∧ R.extra ≤ 10000
  ink : 1 ≤ R.ink ∧ R.ink ≤ 255
  rows : rowsV F R ≤ 48
theorem rul_ok {F : Font} {R : Rul} (h : checkRul F R = 0) : FontOk F ∧ RulOk F R := by
  unfold checkRul at h
  split at h
  · rename_i h1; exact absurd h h1
  · rename_i h1
    have h1' : (checkF F).2.2 = 0 := by omega
    split at h
    · exact absurd h (by decide)
    · rename_i h2
      have h2' : goodR R = true := by simpa using h2
      unfold goodR at h2'
      simp only [Bool.and_eq_true] at h2'
      obtain ⟨⟨⟨⟨⟨a1, a2⟩, a3⟩, a4⟩, a5⟩, a6⟩ := h2'
      split at h
      · exact absurd h (by decide)
      · rename_i h3
        exact ⟨font_ok h1', of_decide_eq_true a1, of_decide_eq_true a2, of_decide_eq_true a3, of_decide_eq_true a4, of_decide_eq_true a5, of_decide_eq_true a6, by omega⟩
theorem rows_rng {h l d : Int} (h1 : 1 ≤ h ∧ h ≤ 16) (h2 : 1 ≤ l ∧ l ≤ 12) (h3 : 0 ≤ d ∧ d ≤ 10) : (0 ≤ l * (h + d) ∧ l * (h + d) ≤ 312) ∧ 1 ≤ l * (h + d) - d := by
  have a : 0 ≤ l * (h + d) := Int.mul_nonneg (by omega) (by omega)
  have b : l * (h + d) ≤ 12 * 26 := Int.mul_le_mul (by omega) (by omega) (by omega) (by omega)
  have c : 1 * (h + d) ≤ l * (h + d) := Int.mul_le_mul_of_nonneg_right (by omega) (by omega)
  omega
end Go.Proofs.YtahgbecfaihfpaaDoor.D
namespace Go.Proofs.YtahgbecfaihfpaaDoor
open Go.RowKit D
set_option linter.unusedVariables false
set_option linter.unusedSimpArgs false
attribute [local go_sem high] run_minI run_maxI
attribute [local go_sem] upon2 cls_cell cls_frozen forall_const exists_eq_left'
attribute [local go_sem] FirstUpon
set_option maxRecDepth 100000 in
set_option maxHeartbeats 2000000 in
theorem rows_any {F : Font} {s : FSl} {R : Rul} {b gm km : Nat} {w : World} (hS : w.heap[b]? = some (Obj.cells #[.int .i64 F.high, .int .i64 F.space, .slice s.g.a F.glyphs.length s.g.cap, .slice s.k.a F.kerns.length s.k.cap, .int .i64 R.measure, .int .i64 R.lines, .int .i64 R.lead, .int .i64 R.short, .int .i64 R.extra, .int .i64 R.ink, .map (some gm), .map (some km)] 107)) (h1 : 1 ≤ F.high ∧ F.high ≤ 16) (h2 : 1 ≤ R.lines ∧ R.lines ≤ 12) (h3 : 0 ≤ R.lead ∧ R.lead ≤ 10) :
    Calls Tryd.prog 63 #[.pointer (some ⟨b, 0, none⟩)] w fun e w' => e = .returned (.int .i64 (rowsV F R)) ∧ Below w.heap.size w w' := by
  obtain ⟨hr1, hr2⟩ := rows_rng h1 h2 h3
  have s1 : IntKind.i64.wrap (F.high + R.lead) = F.high + R.lead := IntWalk.i64_in _ (by omega)
  obtain ⟨X, hX⟩ : ∃ X, X = R.lines * (F.high + R.lead) := ⟨_, rfl⟩
  have s2 : IntKind.i64.wrap (R.lines * (F.high + R.lead)) = X := by rw [hX]; exact IntWalk.i64_in _ (by omega)
  rw [← hX] at hr1 hr2
  have s3 : IntKind.i64.wrap (X - R.lead) = X - R.lead := IntWalk.i64_in _ (by omega)
  have HX := Lib.hid hX
  have hv : rowsV F R = X - R.lead := by unfold rowsV; rw [hX]
  rw [hv]
  clear hX hv h1 h2 h3 hr1 hr2
  have qc := cell_blk hS
  have qf := frz_blk hS
  go_enter Tryd.func63, Tryd.ntmps63
  go_wp2_with (fail)
  refine region_ev [] [0, 1, 2, 3, 4, 5, 6, 7, 8, 9, 10, 11, 12, 13, 14, 15, 16, 17, 18, 19, 20, 21, 22, 23] [] [] (by kernel_rfl) (by kernel_rfl) (by intro c a d v w h; cases d <;> exact h) ?_
  simp only [picks, List.drop_succ_cons, List.drop_zero]
  repeat (refine wpQ0_step (fun K hK => ?_); go_simp; (refine hK _ ?_; clear hK K))
  refine wpQ0_nil ?_
  repeat ((with_reducible refine wpQ2_step (fun K hK => ?_)); go_simp; first | ((with_reducible refine hK _ ?_); clear hK K) | (apply Exists.intro; refine ⟨fun x => ?_, hK _ ?_⟩; (fail); clear hK K))
  refine wpQ2_nil ?_
  refine Events.none_ fun w1 hg1 => ?_
  simp only [picks, List.drop_succ_cons, List.drop_zero]
  go_wp2_with (fail)
  go_ret
  exact ⟨rfl, hg1⟩
theorem set6 {W : World} {b : Nat} {t : TypeId} {f : Nat × Nat} {c0 c1 c2 c3 c4 c5 c6 c7 c8 c9 c10 c11 v0 v1 v2 v3 v4 v5 : Value} (h : W.heap[b]? = some (.cells #[c0, c1, c2, c3, c4, c5, c6, c7, c8, c9, c10, c11] t f)) : ((((((W.setCell ⟨b, 4, none⟩ v0).setCell ⟨b, 5, none⟩ v1).setCell ⟨b, 6, none⟩ v2).setCell ⟨b, 7, none⟩ v3).setCell ⟨b, 8, none⟩ v4).setCell ⟨b, 9, none⟩ v5).heap[b]? = some (.cells #[c0, c1, c2, c3, v0, v1, v2, v3, v4, v5, c10, c11] t f) := by
  have h1 := (blk_set (blk_set (blk_set (blk_set (blk_set (blk_set h 4 v0) 5 v1) 6 v2) 7 v3) 8 v4) 9 v5)
  simpa using h1
theorem set_oth (W : World) {b g o : Nat} (v : Value) (h : g ≠ b) : (W.setCell ⟨b, o, none⟩ v).heap[g]? = W.heap[g]? := by
  simp [World.setCell, Array.getElem?_modify, Ne.symm h]
theorem set6_oth {W : World} {b g : Nat} {v0 v1 v2 v3 v4 v5 : Value} (h : g ≠ b) : ((((((W.setCell ⟨b, 4, none⟩ v0).setCell ⟨b, 5, none⟩ v1).setCell ⟨b, 6, none⟩ v2).setCell ⟨b, 7, none⟩ v3).setCell ⟨b, 8, none⟩ v4).setCell ⟨b, 9, none⟩ v5).heap[g]? = W.heap[g]? := by
  rw [set_oth _ _ h, set_oth _ _ h, set_oth _ _ h, set_oth _ _ h, set_oth _ _ h, set_oth _ _ h]
theorem set6_below {B : Nat} {a W : World} {b : Nat} {v0 v1 v2 v3 v4 v5 : Value} (h : Below B a W) (hb : B ≤ b) : Below B a ((((((W.setCell ⟨b, 4, none⟩ v0).setCell ⟨b, 5, none⟩ v1).setCell ⟨b, 6, none⟩ v2).setCell ⟨b, 7, none⟩ v3).setCell ⟨b, 8, none⟩ v4).setCell ⟨b, 9, none⟩ v5) :=
  (((((h.setCell hb _).setCell hb _).setCell hb _).setCell hb _).setCell hb _).setCell hb _
/-- What rule does. -/
def RuleOut (w : World) (F : Font) (s : FSl) (R : Rul) (e : Ending) (w' : World) : Prop := if checkRul F R = 0 then SetOut w F s R e w' else e = .panicked [{ v := .iface 27 (.int .i64 (checkRul F R)), recovered := false }] ∧ Below w.heap.size w w'
theorem ruleOut_no {w : World} {F : Font} {s : FSl} {R : Rul} {x : Int} {e : Ending} {w' : World} (h : checkRul F R = x) (hx : x ≠ 0) (he : e = .panicked [{ v := .iface 27 (.int .i64 (x)), recovered := false }]) (hb : Below w.heap.size w w') : RuleOut w F s R e w' := by
  unfold RuleOut
  rw [h, if_neg hx]
  exact ⟨he, hb⟩
set_option maxRecDepth 100000 in
set_option maxHeartbeats 2000000 in
theorem rule_any {F : Font} {s : FSl} {R : Rul} {w : World} (hF : FontAt w F s) : Calls Tryd.prog 66 #[.agg #[.int .i64 F.high, .int .i64 F.space, .slice s.g.a F.glyphs.length s.g.cap, .slice s.k.a F.kerns.length s.k.cap], .agg #[.int .i64 R.measure, .int .i64 R.lines, .int .i64 R.lead, .int .i64 R.short, .int .i64 R.extra, .int .i64 R.ink]] w (RuleOut w F s R) := by
  by_cases h0 : (checkF F).2.2 = 0
  · have hk := font_ok h0
    have HK := Lib.hid hk
    have HLD : Hid (∀ W, Below w.heap.size w W → Calls Tryd.prog 46 #[.agg #[.int .i64 F.high, .int .i64 F.space, .slice s.g.a F.glyphs.length s.g.cap, .slice s.k.a F.kerns.length s.k.cap]] W (SetOut W F s rul0)) := Lib.hid fun W hW => load_ok (hF.below hW) h0
    have hcr : checkRul F R = if goodR R = false then 7 else if 48 < rowsV F R then 2 else 0 := by unfold checkRul; rw [if_neg (not_not_intro h0)]
    have HCR := Lib.hid hcr
    have HF := Lib.hid hF
    clear hF h0 hcr hk
    obtain ⟨v0, hv0⟩ : ∃ v, v = outB R.measure 1 48 := ⟨_, rfl⟩
    have HV0 : Hid (inB R.measure 1 48 = !v0) := Lib.hid (by rw [hv0, outB_in, Bool.not_not])
    have HO0 : Hid (∀ W, Calls Tryd.prog 55 #[.int .i64 R.measure, .int .i64 1, .int .i64 48] W fun e w' => e = .returned (.bool v0) ∧ W = w') := Lib.hid fun W => by rw [hv0]; exact out_any _ _ _ W
    clear hv0
    obtain ⟨v1, hv1⟩ : ∃ v, v = outB R.lines 1 12 := ⟨_, rfl⟩
    have HV1 : Hid (inB R.lines 1 12 = !v1) := Lib.hid (by rw [hv1, outB_in, Bool.not_not])
    have HO1 : Hid (∀ W, Calls Tryd.prog 55 #[.int .i64 R.lines, .int .i64 1, .int .i64 12] W fun e w' => e = .returned (.bool v1) ∧ W = w') := Lib.hid fun W => by rw [hv1]; exact out_any _ _ _ W
    clear hv1
    obtain ⟨v2, hv2⟩ : ∃ v, v = outB R.lead 0 10 := ⟨_, rfl⟩
    have HV2 : Hid (inB R.lead 0 10 = !v2) := Lib.hid (by rw [hv2, outB_in, Bool.not_not])
    have HO2 : Hid (∀ W, Calls Tryd.prog 55 #[.int .i64 R.lead, .int .i64 0, .int .i64 10] W fun e w' => e = .returned (.bool v2) ∧ W = w') := Lib.hid fun W => by rw [hv2]; exact out_any _ _ _ W
    clear hv2
    obtain ⟨v3, hv3⟩ : ∃ v, v = outB R.short 0 24 := ⟨_, rfl⟩
    have HV3 : Hid (inB R.short 0 24 = !v3) := Lib.hid (by rw [hv3, outB_in, Bool.not_not])
    have HO3 : Hid (∀ W, Calls Tryd.prog 55 #[.int .i64 R.short, .int .i64 0, .int .i64 24] W fun e w' => e = .returned (.bool v3) ∧ W = w') := Lib.hid fun W => by rw [hv3]; exact out_any _ _ _ W
    clear hv3
    obtain ⟨v4, hv4⟩ : ∃ v, v = outB R.extra 0 10000 := ⟨_, rfl⟩
    have HV4 : Hid (inB R.extra 0 10000 = !v4) := Lib.hid (by rw [hv4, outB_in, Bool.not_not])
    have HO4 : Hid (∀ W, Calls Tryd.prog 55 #[.int .i64 R.extra, .int .i64 0, .int .i64 10000] W fun e w' => e = .returned (.bool v4) ∧ W = w') := Lib.hid fun W => by rw [hv4]; exact out_any _ _ _ W
    clear hv4
    obtain ⟨v5, hv5⟩ : ∃ v, v = outB R.ink 1 255 := ⟨_, rfl⟩
    have HV5 : Hid (inB R.ink 1 255 = !v5) := Lib.hid (by rw [hv5, outB_in, Bool.not_not])
    have HO5 : Hid (∀ W, Calls Tryd.prog 55 #[.int .i64 R.ink, .int .i64 1, .int .i64 255] W fun e w' => e = .returned (.bool v5) ∧ W = w') := Lib.hid fun W => by rw [hv5]; exact out_any _ _ _ W
    clear hv5
    go_enter Tryd.func66, Tryd.ntmps66
    go_wp2_with (fail)
    (with_reducible refine (HLD.out _ ?_).mono ?_)
    · repeat' (first | exact Below.refl _ _ | assumption | refine below_drewN ?_ _ | refine Below.drew ?_ | refine Below.alloc ?_ (by first | assumption | omega | (simp <;> omega)) _ | refine Below.setCell ?_ (by first | assumption | omega | (simp <;> omega)) _ | refine Ext2.on (by assumption) ?_)
    rintro e w1 ⟨⟨b, gm, km, rfl, hbl, hs⟩, hb1⟩
    have hB1 : Below w.heap.size w w1 := Below.trans (by repeat' (first | exact Below.refl _ _ | assumption | refine below_drewN ?_ _ | refine Below.drew ?_ | refine Below.alloc ?_ (by first | assumption | omega | (simp <;> omega)) _ | refine Below.setCell ?_ (by first | assumption | omega | (simp <;> omega)) _ | refine Ext2.on (by assumption) ?_)) (hb1.mono (by simp; omega))
    have x3 : w1.heap[w.heap.size + 1]? = some (Obj.cells #[.int .i64 R.measure, .int .i64 R.lines, .int .i64 R.lead, .int .i64 R.short, .int .i64 R.extra, .int .i64 R.ink] 34) := below_blk hb1 (by repeat' (first | (with_reducible assumption) | (with_reducible refine blk_set_ne ?_ ?_) | (with_reducible exact blk_new _ _) | (with_reducible refine blk_new' _ _ (by first | (with_reducible rfl) | (simp; done) | (simp <;> omega))) | (with_reducible refine blk_alloc ?_ _) | (with_reducible refine blk_drew ?_) | (with_reducible refine blk_drewN ?_ _) | (with_reducible refine Ext2.blk (by assumption) ?_) | omega | (simp <;> omega) | exact blk_set (by assumption) _ _)) (by simp)
    have xs := hs.blk
    have hbl' : w.heap.size + 1 < b := by simp at hbl; omega
    have HS := Lib.hid hs
    clear hb1 hbl hs
    have q3c := cell_blk x3
    have q3f := frz_blk x3
    have qsc := cell_blk xs
    have qsf := frz_blk xs
    have hnb : ¬ w.heap.size + 1 = b := by omega
    have hnb2 : ¬ b = w.heap.size + 1 := by omega
    go_wp2_with (fail)
    refine calls_name ?_
    intro w2 h2
    have x3 : w2.heap[w.heap.size + 1]? = some (Obj.cells #[.int .i64 R.measure, .int .i64 R.lines, .int .i64 R.lead, .int .i64 R.short, .int .i64 R.extra, .int .i64 R.ink] 34) := by rw [h2, set6_oth hnb]; exact x3
    have ys : w2.heap[b]? = some (Obj.cells #[.int .i64 F.high, .int .i64 F.space, .slice s.g.a F.glyphs.length s.g.cap, .slice s.k.a F.kerns.length s.k.cap, .int .i64 R.measure, .int .i64 R.lines, .int .i64 R.lead, .int .i64 R.short, .int .i64 R.extra, .int .i64 R.ink, .map (some gm), .map (some km)] 107) := by rw [h2]; exact set6 xs
    have hB2 : Below w.heap.size w w2 := by rw [h2]; exact set6_below hB1 (by omega)
    have hso : SetAt w2 F s R b gm km := by
      have hg : gm ≠ b := fun h => by
        obtain ⟨es, c, h3, -⟩ := HS.out.gl.at_
        rw [h, xs] at h3; cases h3
      have hk : km ≠ b := fun h => by
        obtain ⟨es, c, h3, -⟩ := HS.out.kn.at_
        rw [h, xs] at h3; cases h3
      exact ⟨ys, HS.out.gl.kept (by rw [h2, set6_oth hg]), HS.out.kn.kept (by rw [h2, set6_oth hk]), HF.out.below hB2⟩
    have HSO := Lib.hid hso
    clear h2 xs q3c q3f qsc qsf hso HS hB1
    have q3c := cell_blk x3
    have q3f := frz_blk x3
    (with_reducible refine (HO0.out _).mono ?_)
    rintro e w' ⟨rfl, rfl⟩
    cases v0
    case true =>
      have hg : goodR R = false := by unfold goodR; simp [HV0.out]
      have hc : checkRul F R = 7 := by rw [HCR.out, if_pos hg]
      have HC := Lib.hid hc
      clear hg hc
      go_wp2_with (fail)
      (with_reducible refine (must_no _ _).mono ?_)
      rintro e w4 ⟨rfl, rfl⟩
      go_wp2_with (fail)
      exact ⟨rfl, ruleOut_no HC.out (by decide) rfl hB2⟩
    case false =>
    go_wp2_with (fail)
    (with_reducible refine (HO1.out _).mono ?_)
    rintro e w' ⟨rfl, rfl⟩
    cases v1
    case true =>
      have hg : goodR R = false := by unfold goodR; simp [HV0.out, HV1.out]
      have hc : checkRul F R = 7 := by rw [HCR.out, if_pos hg]
      have HC := Lib.hid hc
      clear hg hc
      go_wp2_with (fail)
      (with_reducible refine (must_no _ _).mono ?_)
      rintro e w4 ⟨rfl, rfl⟩
      go_wp2_with (fail)
      exact ⟨rfl, ruleOut_no HC.out (by decide) rfl hB2⟩
    case false =>
    go_wp2_with (fail)
    (with_reducible refine (HO2.out _).mono ?_)
    rintro e w' ⟨rfl, rfl⟩
    cases v2
    case true =>
      have hg : goodR R = false := by unfold goodR; simp [HV0.out, HV1.out, HV2.out]
      have hc : checkRul F R = 7 := by rw [HCR.out, if_pos hg]
      have HC := Lib.hid hc
      clear hg hc
      go_wp2_with (fail)
      (with_reducible refine (must_no _ _).mono ?_)
      rintro e w4 ⟨rfl, rfl⟩
      go_wp2_with (fail)
      exact ⟨rfl, ruleOut_no HC.out (by decide) rfl hB2⟩
    case false =>
    go_wp2_with (fail)
    (with_reducible refine (must_ok _ _).mono ?_)
    rintro e w4 ⟨rfl, rfl⟩
    go_wp2_with (fail)
    (with_reducible refine (HO3.out _).mono ?_)
    rintro e w' ⟨rfl, rfl⟩
    cases v3
    case true =>
      have hg : goodR R = false := by unfold goodR; simp [HV0.out, HV1.out, HV2.out, HV3.out]
      have hc : checkRul F R = 7 := by rw [HCR.out, if_pos hg]
      have HC := Lib.hid hc
      clear hg hc
      go_wp2_with (fail)
      (with_reducible refine (must_no _ _).mono ?_)
      rintro e w4 ⟨rfl, rfl⟩
      go_wp2_with (fail)
      exact ⟨rfl, ruleOut_no HC.out (by decide) rfl hB2⟩
    case false =>
    go_wp2_with (fail)
    (with_reducible refine (HO4.out _).mono ?_)
    rintro e w' ⟨rfl, rfl⟩
    cases v4
    case true =>
      have hg : goodR R = false := by unfold goodR; simp [HV0.out, HV1.out, HV2.out, HV3.out, HV4.out]
      have hc : checkRul F R = 7 := by rw [HCR.out, if_pos hg]
      have HC := Lib.hid hc
      clear hg hc
      go_wp2_with (fail)
      (with_reducible refine (must_no _ _).mono ?_)
      rintro e w4 ⟨rfl, rfl⟩
      go_wp2_with (fail)
      exact ⟨rfl, ruleOut_no HC.out (by decide) rfl hB2⟩
    case false =>
    go_wp2_with (fail)
    (with_reducible refine (HO5.out _).mono ?_)
    rintro e w' ⟨rfl, rfl⟩
    cases v5
    case true =>
      have hg : goodR R = false := by unfold goodR; simp [HV0.out, HV1.out, HV2.out, HV3.out, HV4.out, HV5.out]
      have hc : checkRul F R = 7 := by rw [HCR.out, if_pos hg]
      have HC := Lib.hid hc
      clear hg hc
      go_wp2_with (fail)
      (with_reducible refine (must_no _ _).mono ?_)
      rintro e w4 ⟨rfl, rfl⟩
      go_wp2_with (fail)
      exact ⟨rfl, ruleOut_no HC.out (by decide) rfl hB2⟩
    case false =>
    go_wp2_with (fail)
    (with_reducible refine (must_ok _ _).mono ?_)
    rintro e w4 ⟨rfl, rfl⟩
    go_wp2_with (fail)
    have hlines := of_decide_eq_true HV1.out
    have hlead := of_decide_eq_true HV2.out
    have hgood : goodR R = true := by unfold goodR; simp [HV0.out, HV1.out, HV2.out, HV3.out, HV4.out, HV5.out]
    obtain ⟨rv, hrv⟩ : ∃ v, v = rowsV F R := ⟨_, rfl⟩
    have hcr : checkRul F R = if 48 < rv then 2 else 0 := by rw [HCR.out, if_neg (by rw [hgood]; simp), hrv]
    have HC := Lib.hid hcr
    have HRW : Calls Tryd.prog 63 #[.pointer (some ⟨b, 0, none⟩)] w2 fun e w' => e = .returned (.int .i64 rv) ∧ Below w2.heap.size w2 w' := by
      rw [hrv]; exact rows_any HSO.out.blk HK.out.high hlines hlead
    have HRW := Lib.hid HRW
    clear hcr hrv hgood
    (with_reducible refine HRW.out.mono ?_)
    rintro e w5 ⟨rfl, hb5⟩
    have hE5 : Ext2 w2 w5 := hb5
    have hB5 := below_ext hB2 hE5
    have HS5 := Lib.hid (HSO.out.below hE5)
    clear hb5 hE5 q3c q3f x3
    by_cases hlow : rv ≤ 48
    · have hd : decide (rv ≤ 48) = true := decide_eq_true hlow
      have hc0 : checkRul F R = 0 := by rw [HC.out, if_neg (by omega)]
      have HC0 := Lib.hid hc0
      have hbw : w.heap.size ≤ b := by omega
      clear hc0
      go_wp2_with (fail)
      (with_reducible refine (must_ok _ _).mono ?_)
      rintro e w6 ⟨rfl, rfl⟩
      go_wp2_with (fail)
      go_ret
      show RuleOut w F s R _ _
      unfold RuleOut
      rw [if_pos HC0.out]
      exact ⟨⟨b, gm, km, rfl, hbw, HS5.out⟩, hB5⟩
    · have hd : decide (rv ≤ 48) = false := decide_eq_false hlow
      have hc2 : checkRul F R = 2 := by rw [HC.out, if_pos (by omega)]
      have HC2 := Lib.hid hc2
      clear hc2 hlow
      go_wp2_with (fail)
      (with_reducible refine (must_no _ _).mono ?_)
      rintro e w6 ⟨rfl, rfl⟩
      go_wp2_with (fail)
      exact ⟨rfl, ruleOut_no HC2.out (by decide) rfl hB5⟩
  · have hcr : checkRul F R = (checkF F).2.2 := by unfold checkRul; rw [if_pos h0]
    obtain ⟨x, hx⟩ : ∃ x, x = (checkF F).2.2 := ⟨_, rfl⟩
    have HLD : Hid (∀ W, Below w.heap.size w W → Calls Tryd.prog 46 #[.agg #[.int .i64 F.high, .int .i64 F.space, .slice s.g.a F.glyphs.length s.g.cap, .slice s.k.a F.kerns.length s.k.cap]] W fun e w' => e = .panicked [{ v := .iface 27 (.int .i64 (x)), recovered := false }] ∧ Below W.heap.size W w') := Lib.hid fun W hW => by rw [hx]; exact load_no (hF.below hW) h0
    rw [← hx] at hcr h0
    have HC := Lib.hid hcr; have H0 := Lib.hid h0
    clear hF h0 hcr hx
    go_enter Tryd.func66, Tryd.ntmps66
    go_wp2_with (fail)
    (with_reducible refine (HLD.out _ ?_).mono ?_)
    · repeat' (first | exact Below.refl _ _ | assumption | refine below_drewN ?_ _ | refine Below.drew ?_ | refine Below.alloc ?_ (by first | assumption | omega | (simp <;> omega)) _ | refine Below.setCell ?_ (by first | assumption | omega | (simp <;> omega)) _ | refine Ext2.on (by assumption) ?_)
    rintro e w1 ⟨rfl, hb1⟩
    have hB1 : Below w.heap.size w w1 := Below.trans (by repeat' (first | exact Below.refl _ _ | assumption | refine below_drewN ?_ _ | refine Below.drew ?_ | refine Below.alloc ?_ (by first | assumption | omega | (simp <;> omega)) _ | refine Below.setCell ?_ (by first | assumption | omega | (simp <;> omega)) _ | refine Ext2.on (by assumption) ?_)) (hb1.mono (by simp; omega))
    clear hb1
    go_wp2_with (fail)
    exact ⟨rfl, ruleOut_no HC.out H0.out rfl hB1⟩
end Go.Proofs.YtahgbecfaihfpaaDoor
namespace Go.Proofs.YtahgbecfaihfpaaDoor
open Go.RowKit D
set_option linter.unusedVariables false
set_option linter.unusedSimpArgs false
attribute [local go_sem high] run_minI run_maxI
attribute [local go_sem] upon2 cls_cell cls_frozen forall_const exists_eq_left'
attribute [local go_sem] FirstUpon
set_option maxRecDepth 100000 in
set_option maxHeartbeats 2000000 in
theorem checkRule_any {F : Font} {s : FSl} {R : Rul} {w : World} (hF : FontAt w F s) : Calls Tryd.prog 31 #[.agg #[.int .i64 F.high, .int .i64 F.space, .slice s.g.a F.glyphs.length s.g.cap, .slice s.k.a F.kerns.length s.k.cap], .agg #[.int .i64 R.measure, .int .i64 R.lines, .int .i64 R.lead, .int .i64 R.short, .int .i64 R.extra, .int .i64 R.ink]] w fun e w' => e = .returned (.int .i64 (checkRul F R)) ∧ Below w.heap.size w w' := by
  have HR : Hid (∀ W, Below w.heap.size w W → Calls Tryd.prog 66 #[.agg #[.int .i64 F.high, .int .i64 F.space, .slice s.g.a F.glyphs.length s.g.cap, .slice s.k.a F.kerns.length s.k.cap], .agg #[.int .i64 R.measure, .int .i64 R.lines, .int .i64 R.lead, .int .i64 R.short, .int .i64 R.extra, .int .i64 R.ink]] W (RuleOut W F s R)) := Lib.hid fun W hW => rule_any (hF.below hW)
  obtain ⟨x, hx⟩ : ∃ x, x = checkRul F R := ⟨_, rfl⟩
  have HX := Lib.hid hx
  rw [← hx]
  clear hF hx
  go_enter_defers Tryd.func31, Tryd.ntmps31
  go_wp2_with (fail)
  (with_reducible refine (HR.out _ ?_).mono ?_)
  · repeat' (first | exact Below.refl _ _ | assumption | refine below_drewN ?_ _ | refine Below.drew ?_ | refine Below.alloc ?_ (by first | assumption | omega | (simp <;> omega)) _ | refine Below.setCell ?_ (by first | assumption | omega | (simp <;> omega)) _ | refine Ext2.on (by assumption) ?_)
  intro e w1 hr
  unfold RuleOut at hr
  rw [← HX.out] at hr
  by_cases h0 : x = 0
  · rw [if_pos h0] at hr
    obtain ⟨⟨b, gm, km, rfl, hbl, hs⟩, hb1⟩ := hr
    have hB1 : Below w.heap.size w w1 := Below.trans (by repeat' (first | exact Below.refl _ _ | assumption | refine below_drewN ?_ _ | refine Below.drew ?_ | refine Below.alloc ?_ (by first | assumption | omega | (simp <;> omega)) _ | refine Below.setCell ?_ (by first | assumption | omega | (simp <;> omega)) _ | refine Ext2.on (by assumption) ?_)) (hb1.mono (by simp; omega))
    have x4 : w1.heap[w.heap.size + 1 + 1]? = some (Obj.cells #[.int .i64 0] 27) := below_blk hb1 (by repeat' (first | (with_reducible assumption) | (with_reducible refine blk_set_ne ?_ ?_) | (with_reducible exact blk_new _ _) | (with_reducible refine blk_new' _ _ (by first | (with_reducible rfl) | (simp; done) | (simp <;> omega))) | (with_reducible refine blk_alloc ?_ _) | (with_reducible refine blk_drew ?_) | (with_reducible refine blk_drewN ?_ _) | (with_reducible refine Ext2.blk (by assumption) ?_) | omega | (simp <;> omega) | exact blk_set (by assumption) _ _)) (by simp)
    clear hs hb1 hbl
    have q4c := cell_blk x4
    have q4f := frz_blk x4
    subst h0
    go_wp2_with (fail)
    have y4 : (w1.setCell ⟨w.heap.size + 1 + 1, 0, none⟩ (.int .i64 0)).heap[w.heap.size + 1 + 1]? = some (Obj.cells #[.int .i64 0] 27) := Eq.trans (blk_set x4 _ _) rfl
    have yc := cell_blk y4
    refine leave_done ?_
    refine ⟨.int .i64 0, ?_, rfl, below_set hB1 (by omega)⟩
    simp [results, Tryd.results31, go_sem, yc]
  · rw [if_neg h0] at hr
    obtain ⟨rfl, hb1⟩ := hr
    have hB1 : Below w.heap.size w w1 := Below.trans (by repeat' (first | exact Below.refl _ _ | assumption | refine below_drewN ?_ _ | refine Below.drew ?_ | refine Below.alloc ?_ (by first | assumption | omega | (simp <;> omega)) _ | refine Below.setCell ?_ (by first | assumption | omega | (simp <;> omega)) _ | refine Ext2.on (by assumption) ?_)) (hb1.mono (by simp; omega))
    have x4 : w1.heap[w.heap.size + 1 + 1]? = some (Obj.cells #[.int .i64 0] 27) := below_blk hb1 (by repeat' (first | (with_reducible assumption) | (with_reducible refine blk_set_ne ?_ ?_) | (with_reducible exact blk_new _ _) | (with_reducible refine blk_new' _ _ (by first | (with_reducible rfl) | (simp; done) | (simp <;> omega))) | (with_reducible refine blk_alloc ?_ _) | (with_reducible refine blk_drew ?_) | (with_reducible refine blk_drewN ?_ _) | (with_reducible refine Ext2.blk (by assumption) ?_) | omega | (simp <;> omega) | exact blk_set (by assumption) _ _)) (by simp)
    clear hb1
    go_wp2_with (fail)
    have y4 : (w1.setCell ⟨w.heap.size + 1 + 1, 0, none⟩ (.int .i64 x)).heap[w.heap.size + 1 + 1]? = some (Obj.cells #[.int .i64 x] 27) := Eq.trans (blk_set x4 _ _) rfl
    have yc := cell_blk y4
    refine leave_panic x4 ?_
    refine ⟨.int .i64 x, ?_, rfl, below_set hB1 (by omega)⟩
    simp [results, Tryd.results31, go_sem, yc]
end Go.Proofs.YtahgbecfaihfpaaDoor
namespace Go.Proofs.YtahgbecfaihfpaaDoor
open Go.RowKit D
set_option linter.unusedVariables false
set_option linter.unusedSimpArgs false
attribute [local go_sem high] run_minI run_maxI
attribute [local go_sem] upon2 cls_cell cls_frozen forall_const exists_eq_left'
attribute [local go_sem] FirstUpon
theorem rows_alt (h l d : Int) : l * (h + d) - d = l * h + (l - 1) * d := by
  rw [Int.mul_add, Int.sub_mul]; omega
set_option maxRecDepth 100000 in
set_option maxHeartbeats 2000000 in
theorem rowsR_any {F : Font} {s : FSl} {R : Rul} {w : World} (h1 : 1 ≤ F.high ∧ F.high ≤ 16) (h2 : 1 ≤ R.lines ∧ R.lines ≤ 12) (h3 : 0 ≤ R.lead ∧ R.lead ≤ 10) :
    Calls Tryd.prog 67 #[.agg #[.int .i64 F.high, .int .i64 F.space, .slice s.g.a F.glyphs.length s.g.cap, .slice s.k.a F.kerns.length s.k.cap], .agg #[.int .i64 R.measure, .int .i64 R.lines, .int .i64 R.lead, .int .i64 R.short, .int .i64 R.extra, .int .i64 R.ink]] w fun e w' => e = .returned (.int .i64 (rowsV F R)) ∧ Below w.heap.size w w' := by
  obtain ⟨hr1, hr2⟩ := rows_rng h1 h2 h3
  obtain ⟨X, hX⟩ : ∃ X, X = R.lines * F.high := ⟨_, rfl⟩
  obtain ⟨Y, hY⟩ : ∃ Y, Y = (R.lines - 1) * R.lead := ⟨_, rfl⟩
  have hx : 0 ≤ X ∧ X ≤ 12 * 16 := by rw [hX]; exact ⟨Int.mul_nonneg (by omega) (by omega), Int.mul_le_mul (by omega) (by omega) (by omega) (by omega)⟩
  have hy : 0 ≤ Y ∧ Y ≤ 11 * 10 := by rw [hY]; exact ⟨Int.mul_nonneg (by omega) (by omega), Int.mul_le_mul (by omega) (by omega) (by omega) (by omega)⟩
  have s1 : IntKind.i64.wrap (R.lines * F.high) = X := by rw [← hX]; exact IntWalk.i64_in _ (by omega)
  have s2 : IntKind.i64.wrap (R.lines - 1) = R.lines - 1 := IntWalk.i64_in _ (by omega)
  have s3 : IntKind.i64.wrap ((R.lines - 1) * R.lead) = Y := by rw [← hY]; exact IntWalk.i64_in _ (by omega)
  have s4 : IntKind.i64.wrap (X + Y) = X + Y := IntWalk.i64_in _ (by omega)
  have t1 : wrap64 (R.lines * F.high) = X := by rw [← hX]; exact IntWalk.wrap64_in _ (by omega)
  have t3 : wrap64 ((R.lines - 1) * R.lead) = Y := by rw [← hY]; exact IntWalk.wrap64_in _ (by omega)
  have hv : rowsV F R = X + Y := by unfold rowsV; rw [rows_alt, ← hX, ← hY]
  have HV := Lib.hid hv
  clear hv hX hY hr1 hr2 h3
  go_enter Tryd.func67, Tryd.ntmps67
  go_wp2_with (fail)
  go_ret
  exact ⟨ret_int HV.out.symm, by repeat' (first | exact Below.refl _ _ | assumption | refine below_drewN ?_ _ | refine Below.drew ?_ | refine Below.alloc ?_ (by first | assumption | omega | (simp <;> omega)) _ | refine Below.setCell ?_ (by first | assumption | omega | (simp <;> omega)) _ | refine Ext2.on (by assumption) ?_)⟩
set_option maxRecDepth 100000 in
set_option maxHeartbeats 2000000 in
theorem checkRuleR_any {F : Font} {s : FSl} {R : Rul} {w : World} (hF : FontAt w F s) : Calls Tryd.prog 32 #[.agg #[.int .i64 F.high, .int .i64 F.space, .slice s.g.a F.glyphs.length s.g.cap, .slice s.k.a F.kerns.length s.k.cap], .agg #[.int .i64 R.measure, .int .i64 R.lines, .int .i64 R.lead, .int .i64 R.short, .int .i64 R.extra, .int .i64 R.ink]] w fun e w' => e = .returned (.int .i64 (checkRul F R)) ∧ Below w.heap.size w w' := by
  obtain ⟨p1, p2, p3, hp⟩ : ∃ a b c, checkF F = (a, b, c) := ⟨_, _, _, rfl⟩
  have HC : Hid (∀ W, Below w.heap.size w W → Calls Tryd.prog 24 #[.agg #[.int .i64 F.high, .int .i64 F.space, .slice s.g.a F.glyphs.length s.g.cap, .slice s.k.a F.kerns.length s.k.cap]] W fun e w' => e = .returned (.tuple #[.int .i64 p1, .int .i64 p2, .int .i64 p3]) ∧ Below W.heap.size W w') := Lib.hid fun W hW => by
    have h := checkR_any (hF.below hW); rw [hp] at h; exact h
  have hcr : checkRul F R = if p3 ≠ 0 then p3 else if goodR R = false then 7 else if 48 < rowsV F R then 2 else 0 := by unfold checkRul; rw [hp]
  have hfo : p3 = 0 → FontOk F := fun h => font_ok (by rw [hp]; exact h)
  have HCR := Lib.hid hcr; have HFO := Lib.hid hfo
  clear hF hcr hfo hp
  by_cases h0 : p3 = 0
  · subst h0
    obtain ⟨v0, hv0⟩ : ∃ v, v = inB R.measure 1 48 := ⟨_, rfl⟩
    have HV0 := Lib.hid hv0
    have HO0 : Hid (∀ W, Calls Tryd.prog 59 #[.int .i64 R.measure, .int .i64 1, .int .i64 48] W fun e w' => e = .returned (.bool v0) ∧ W = w') := Lib.hid fun W => by rw [hv0]; exact in_any _ _ _ W
    clear hv0
    obtain ⟨v1, hv1⟩ : ∃ v, v = inB R.lines 1 12 := ⟨_, rfl⟩
    have HV1 := Lib.hid hv1
    have HO1 : Hid (∀ W, Calls Tryd.prog 59 #[.int .i64 R.lines, .int .i64 1, .int .i64 12] W fun e w' => e = .returned (.bool v1) ∧ W = w') := Lib.hid fun W => by rw [hv1]; exact in_any _ _ _ W
    clear hv1
    obtain ⟨v2, hv2⟩ : ∃ v, v = inB R.lead 0 10 := ⟨_, rfl⟩
    have HV2 := Lib.hid hv2
    have HO2 : Hid (∀ W, Calls Tryd.prog 59 #[.int .i64 R.lead, .int .i64 0, .int .i64 10] W fun e w' => e = .returned (.bool v2) ∧ W = w') := Lib.hid fun W => by rw [hv2]; exact in_any _ _ _ W
    clear hv2
    obtain ⟨v3, hv3⟩ : ∃ v, v = inB R.short 0 24 := ⟨_, rfl⟩
    have HV3 := Lib.hid hv3
    have HO3 : Hid (∀ W, Calls Tryd.prog 59 #[.int .i64 R.short, .int .i64 0, .int .i64 24] W fun e w' => e = .returned (.bool v3) ∧ W = w') := Lib.hid fun W => by rw [hv3]; exact in_any _ _ _ W
    clear hv3
    obtain ⟨v4, hv4⟩ : ∃ v, v = inB R.extra 0 10000 := ⟨_, rfl⟩
    have HV4 := Lib.hid hv4
    have HO4 : Hid (∀ W, Calls Tryd.prog 59 #[.int .i64 R.extra, .int .i64 0, .int .i64 10000] W fun e w' => e = .returned (.bool v4) ∧ W = w') := Lib.hid fun W => by rw [hv4]; exact in_any _ _ _ W
    clear hv4
    obtain ⟨v5, hv5⟩ : ∃ v, v = inB R.ink 1 255 := ⟨_, rfl⟩
    have HV5 := Lib.hid hv5
    have HO5 : Hid (∀ W, Calls Tryd.prog 59 #[.int .i64 R.ink, .int .i64 1, .int .i64 255] W fun e w' => e = .returned (.bool v5) ∧ W = w') := Lib.hid fun W => by rw [hv5]; exact in_any _ _ _ W
    clear hv5
    go_enter Tryd.func32, Tryd.ntmps32
    go_wp2_with (fail)
    (with_reducible refine (HC.out _ ?_).mono ?_)
    · repeat' (first | exact Below.refl _ _ | assumption | refine below_drewN ?_ _ | refine Below.drew ?_ | refine Below.alloc ?_ (by first | assumption | omega | (simp <;> omega)) _ | refine Below.setCell ?_ (by first | assumption | omega | (simp <;> omega)) _ | refine Ext2.on (by assumption) ?_)
    rintro e w1 ⟨rfl, hb1⟩
    have hB1 : Below w.heap.size w w1 := Below.trans (by repeat' (first | exact Below.refl _ _ | assumption | refine below_drewN ?_ _ | refine Below.drew ?_ | refine Below.alloc ?_ (by first | assumption | omega | (simp <;> omega)) _ | refine Below.setCell ?_ (by first | assumption | omega | (simp <;> omega)) _ | refine Ext2.on (by assumption) ?_)) (hb1.mono (by simp; omega))
    have x2 : w1.heap[w.heap.size]? = some (Obj.cells #[.int .i64 F.high, .int .i64 F.space, .slice s.g.a F.glyphs.length s.g.cap, .slice s.k.a F.kerns.length s.k.cap] 25) := below_blk hb1 (by repeat' (first | (with_reducible assumption) | (with_reducible refine blk_set_ne ?_ ?_) | (with_reducible exact blk_new _ _) | (with_reducible refine blk_new' _ _ (by first | (with_reducible rfl) | (simp; done) | (simp <;> omega))) | (with_reducible refine blk_alloc ?_ _) | (with_reducible refine blk_drew ?_) | (with_reducible refine blk_drewN ?_ _) | (with_reducible refine Ext2.blk (by assumption) ?_) | omega | (simp <;> omega) | exact blk_set (by assumption) _ _)) (by simp; omega)
    have x3 : w1.heap[w.heap.size + 1]? = some (Obj.cells #[.int .i64 R.measure, .int .i64 R.lines, .int .i64 R.lead, .int .i64 R.short, .int .i64 R.extra, .int .i64 R.ink] 34) := below_blk hb1 (by repeat' (first | (with_reducible assumption) | (with_reducible refine blk_set_ne ?_ ?_) | (with_reducible exact blk_new _ _) | (with_reducible refine blk_new' _ _ (by first | (with_reducible rfl) | (simp; done) | (simp <;> omega))) | (with_reducible refine blk_alloc ?_ _) | (with_reducible refine blk_drew ?_) | (with_reducible refine blk_drewN ?_ _) | (with_reducible refine Ext2.blk (by assumption) ?_) | omega | (simp <;> omega) | exact blk_set (by assumption) _ _)) (by simp)
    clear hb1
    have q2c := cell_blk x2
    have q2f := frz_blk x2
    have q3c := cell_blk x3
    have q3f := frz_blk x3
    go_wp2_with (fail)
    (with_reducible refine (HO0.out _).mono ?_)
    rintro e w' ⟨rfl, rfl⟩
    cases v0
    case false =>
      have hg : goodR R = false := by unfold goodR; simp [← HV0.out]
      have hc : checkRul F R = 7 := by rw [HCR.out, if_neg (by simp), if_pos hg]
      have HC := Lib.hid hc
      clear hg hc
      go_wp2_with (fail)
      go_ret
      exact ⟨ret_int HC.out.symm, hB1⟩
    case true =>
    go_wp2_with (fail)
    (with_reducible refine (HO1.out _).mono ?_)
    rintro e w' ⟨rfl, rfl⟩
    cases v1
    case false =>
      have hg : goodR R = false := by unfold goodR; simp [← HV0.out, ← HV1.out]
      have hc : checkRul F R = 7 := by rw [HCR.out, if_neg (by simp), if_pos hg]
      have HC := Lib.hid hc
      clear hg hc
      go_wp2_with (fail)
      go_ret
      exact ⟨ret_int HC.out.symm, hB1⟩
    case true =>
    go_wp2_with (fail)
    (with_reducible refine (HO2.out _).mono ?_)
    rintro e w' ⟨rfl, rfl⟩
    cases v2
    case false =>
      have hg : goodR R = false := by unfold goodR; simp [← HV0.out, ← HV1.out, ← HV2.out]
      have hc : checkRul F R = 7 := by rw [HCR.out, if_neg (by simp), if_pos hg]
      have HC := Lib.hid hc
      clear hg hc
      go_wp2_with (fail)
      go_ret
      exact ⟨ret_int HC.out.symm, hB1⟩
    case true =>
    go_wp2_with (fail)
    (with_reducible refine (HO3.out _).mono ?_)
    rintro e w' ⟨rfl, rfl⟩
    cases v3
    case false =>
      have hg : goodR R = false := by unfold goodR; simp [← HV0.out, ← HV1.out, ← HV2.out, ← HV3.out]
      have hc : checkRul F R = 7 := by rw [HCR.out, if_neg (by simp), if_pos hg]
      have HC := Lib.hid hc
      clear hg hc
      go_wp2_with (fail)
      go_ret
      exact ⟨ret_int HC.out.symm, hB1⟩
    case true =>
    go_wp2_with (fail)
    (with_reducible refine (HO4.out _).mono ?_)
    rintro e w' ⟨rfl, rfl⟩
    cases v4
    case false =>
      have hg : goodR R = false := by unfold goodR; simp [← HV0.out, ← HV1.out, ← HV2.out, ← HV3.out, ← HV4.out]
      have hc : checkRul F R = 7 := by rw [HCR.out, if_neg (by simp), if_pos hg]
      have HC := Lib.hid hc
      clear hg hc
      go_wp2_with (fail)
      go_ret
      exact ⟨ret_int HC.out.symm, hB1⟩
    case true =>
    go_wp2_with (fail)
    (with_reducible refine (HO5.out _).mono ?_)
    rintro e w' ⟨rfl, rfl⟩
    cases v5
    case false =>
      have hg : goodR R = false := by unfold goodR; simp [← HV0.out, ← HV1.out, ← HV2.out, ← HV3.out, ← HV4.out, ← HV5.out]
      have hc : checkRul F R = 7 := by rw [HCR.out, if_neg (by simp), if_pos hg]
      have HC := Lib.hid hc
      clear hg hc
      go_wp2_with (fail)
      go_ret
      exact ⟨ret_int HC.out.symm, hB1⟩
    case true =>
    go_wp2_with (fail)
    have hlines := of_decide_eq_true HV1.out.symm
    have hlead := of_decide_eq_true HV2.out.symm
    have hgood : goodR R = true := by unfold goodR; simp [← HV0.out, ← HV1.out, ← HV2.out, ← HV3.out, ← HV4.out, ← HV5.out]
    obtain ⟨rv, hrv⟩ : ∃ v, v = rowsV F R := ⟨_, rfl⟩
    have hcr : checkRul F R = if 48 < rv then 2 else 0 := by rw [HCR.out, if_neg (by simp), if_neg (by rw [hgood]; simp), hrv]
    have HC' := Lib.hid hcr
    have HRW : Calls Tryd.prog 67 #[.agg #[.int .i64 F.high, .int .i64 F.space, .slice s.g.a F.glyphs.length s.g.cap, .slice s.k.a F.kerns.length s.k.cap], .agg #[.int .i64 R.measure, .int .i64 R.lines, .int .i64 R.lead, .int .i64 R.short, .int .i64 R.extra, .int .i64 R.ink]] w1 fun e w' => e = .returned (.int .i64 rv) ∧ Below w1.heap.size w1 w' := by
      rw [hrv]; exact rowsR_any (HFO.out (by trivial)).high hlines hlead
    have HRW := Lib.hid HRW
    clear hcr hrv hgood
    (with_reducible refine HRW.out.mono ?_)
    rintro e w5 ⟨rfl, hb5⟩
    have hB5 := below_ext hB1 hb5
    clear hb5 q2c q2f q3c q3f
    by_cases hlow : 48 < rv
    all_goals
      have HL := Lib.hid hlow
      go_wp2_with (fail)
      go_ret
      exact ⟨ret_int (by rw [HC'.out]; first | rw [if_pos (by have := HL.out; omega)] | rw [if_neg (by have := HL.out; omega)]), hB5⟩
  · have hb : (p3 != 0) = true := by simpa using h0
    have hc : checkRul F R = p3 := by rw [HCR.out, if_pos h0]
    have HCC := Lib.hid hc
    clear h0 hc
    go_enter Tryd.func32, Tryd.ntmps32
    go_wp2_with (fail)
    (with_reducible refine (HC.out _ ?_).mono ?_)
    · repeat' (first | exact Below.refl _ _ | assumption | refine below_drewN ?_ _ | refine Below.drew ?_ | refine Below.alloc ?_ (by first | assumption | omega | (simp <;> omega)) _ | refine Below.setCell ?_ (by first | assumption | omega | (simp <;> omega)) _ | refine Ext2.on (by assumption) ?_)
    rintro e w1 ⟨rfl, hb1⟩
    have hB1 : Below w.heap.size w w1 := Below.trans (by repeat' (first | exact Below.refl _ _ | assumption | refine below_drewN ?_ _ | refine Below.drew ?_ | refine Below.alloc ?_ (by first | assumption | omega | (simp <;> omega)) _ | refine Below.setCell ?_ (by first | assumption | omega | (simp <;> omega)) _ | refine Ext2.on (by assumption) ?_)) (hb1.mono (by simp; omega))
    clear hb1
    go_wp2_with (fail)
    go_ret
    exact ⟨ret_int HCC.out.symm, hB1⟩
end Go.Proofs.YtahgbecfaihfpaaDoor
