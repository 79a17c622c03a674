/-
  title.Judge.
-/
import Derived.Test.YtahgbecfaihfpaaDoorTBreakM
namespace Go.Proofs.YtahgbecfaihfpaaDoor.D
/-- Where the line before the i-th one ends. -/
def prevE (E : List Int) : Nat → Int
  | 0 => 0
  | i + 1 => intD E i
def badEnd (n : Nat) (E : List Int) (i : Nat) : Bool := !inB (intD E i) (prevE E i + 1) n
def tooWide (F : Font) (R : Rul) (P : List ByteArray) (E : List Int) (i : Nat) : Bool := decide (R.measure < wideL F P (prevE E i).toNat (intD E i).toNat)
/-- The cost of the first lines. -/
def sumE (F : Font) (R : Rul) (P : List ByteArray) (E : List Int) : Nat → Int
  | 0 => 0
  | i + 1 => sumE F R P E i + costL F R P (prevE E i).toNat (intD E i).toNat
/-- What breaks cost, and the error. -/
def judgeS (F : Font) (R : Rul) (P : List ByteArray) (E : List Int) : Int × Int :=
  if firstN (badEnd P.length E) E.length < E.length then (0, 2)
  else if prevE E E.length ≠ P.length then (0, 2)
  else if firstN (tooWide F R P E) E.length < E.length then (0, 202)
  else (sumE F R P E E.length, 0)
def judgeV (F : Font) (R : Rul) (t : ByteArray) (E : List Int) : Int × Int := if openE F R t ≠ 0 then (0, openE F R t) else judgeS F R (partsS t) E
theorem ends_rng {n : Nat} {E : List Int} {k : Nat} (h : ∀ i, i < k → badEnd n E i = false) : ∀ i, i ≤ k → (i : Int) ≤ prevE E i ∧ (0 < i → prevE E i ≤ n)
  | 0, _ => ⟨Int.le_refl _, fun h => absurd h (Nat.lt_irrefl _)⟩
  | i + 1, hi => by
    have h1 := ends_rng h i (by omega)
    have h2 := h i (by omega)
    unfold badEnd inB at h2
    simp only [Bool.not_eq_false', decide_eq_true_eq] at h2
    refine ⟨?_, fun _ => ?_⟩
    · show ((i + 1 : Nat) : Int) ≤ intD E i
      omega
    · exact h2.2
theorem end_rng {n : Nat} {E : List Int} {i : Nat} (h : badEnd n E i = false) : prevE E i + 1 ≤ intD E i ∧ intD E i ≤ n := by
  unfold badEnd inB at h
  simpa using h
end Go.Proofs.YtahgbecfaihfpaaDoor.D
namespace Go.Proofs.YtahgbecfaihfpaaDoor
open Go.RowKit D
set_option linter.unusedVariables false
set_option linter.unusedSimpArgs false
attribute [local go_sem high] run_minI run_maxI
attribute [local go_sem] upon2 cls_cell cls_frozen forall_const exists_eq_left'
attribute [local go_sem] FirstUpon
theorem sum_rng {F : Font} {R : Rul} {P : List ByteArray} {E : List Int} {n : Nat} (hk : FontOk F) (hr : RulOk F R) (ht : TextOk F R P) (hg : ∀ i, i < n → badEnd P.length E i = false) : ∀ k, k ≤ n → 0 ≤ sumE F R P E k ∧ sumE F R P E k ≤ 9010000 * (k : Int)
  | 0, _ => ⟨Int.le_refl _, Int.le_refl _⟩
  | k + 1, h => by
    have h1 := sum_rng hk hr ht hg k (by omega)
    have h2 := end_rng (hg k (by omega))
    have h3 := ends_rng hg k (by omega)
    have h4 := costL_rng hk hr ht (a := (prevE E k).toNat) (z := (intD E k).toNat) (by omega) (by omega)
    rw [sumE]; omega
def JudgePost (w : World) (v : Int × Int) (e : Ending) (w' : World) : Prop := e = .returned (.tuple #[.int .i64 v.1, .int .i64 v.2]) ∧ Below w.heap.size w w'
set_option maxRecDepth 100000 in
set_option maxHeartbeats 2000000 in
theorem judge_any {F : Font} {s : FSl} {R : Rul} {t : ByteArray} {es : Sl} {E : List Int} {w : World} (hF : FontAt w F s) (hm : MaxAt w) (hE : IntsS w es E) : Calls Tryd.prog 21 #[.agg #[.int .i64 F.high, .int .i64 F.space, .slice s.g.a F.glyphs.length s.g.cap, .slice s.k.a F.kerns.length s.k.cap], .agg #[.int .i64 R.measure, .int .i64 R.lines, .int .i64 R.lead, .int .i64 R.short, .int .i64 R.extra, .int .i64 R.ink], .string t, .slice es.a E.length es.cap] w (JudgePost w (judgeV F R t E)) := by
  have HO : Hid (∀ W, Below w.heap.size w W → Calls Tryd.prog 54 #[.agg #[.int .i64 F.high, .int .i64 F.space, .slice s.g.a F.glyphs.length s.g.cap, .slice s.k.a F.kerns.length s.k.cap], .agg #[.int .i64 R.measure, .int .i64 R.lines, .int .i64 R.lead, .int .i64 R.short, .int .i64 R.extra, .int .i64 R.ink], .string t] W (OpenOut W F s R t)) := Lib.hid fun W hW => open_any (hF.below hW) (hm.below hW)
  obtain ⟨x, hx⟩ : ∃ x, x = openE F R t := ⟨_, rfl⟩
  obtain ⟨V, hV⟩ : ∃ V, V = judgeV F R t E := ⟨_, rfl⟩
  rw [← hV]
  have HX := Lib.hid hx; have HV := Lib.hid hV; have HES := Lib.hid hE
  have hcap := hE.le; have hmax := hE.max
  clear hF hm hx hV hE
  go_enter_defers Tryd.func21, Tryd.ntmps21
  go_wp2_with (fail)
  refine calls_name ?_
  intro wo hwo
  have hB0 : Below w.heap.size w wo := by rw [hwo]; repeat' (first | exact Below.refl _ _ | assumption | refine below_drewN ?_ _ | refine Below.drew ?_ | refine Below.alloc ?_ (by first | assumption | omega | (simp <;> omega)) _ | refine Below.setCell ?_ (by first | assumption | omega | (simp <;> omega)) _ | refine Ext2.on (by assumption) ?_)
  have x7 : wo.heap[w.heap.size + 1 + 1]? = some (Obj.cells #[.int .i64 0] 27) := by rw [hwo]; repeat' (first | (with_reducible assumption) | (with_reducible refine blk_set_ne ?_ ?_) | (with_reducible exact blk_new _ _) | (with_reducible refine blk_new' _ _ (by first | (with_reducible rfl) | (simp; done) | (simp <;> omega))) | (with_reducible refine blk_alloc ?_ _) | (with_reducible refine blk_drew ?_) | (with_reducible refine blk_drewN ?_ _) | (with_reducible refine Ext2.blk (by assumption) ?_) | omega | (simp <;> omega) | exact blk_set (by assumption) _ _)
  clear hwo
  (with_reducible refine (HO.out _ hB0).mono ?_)
  intro e w1 ho
  unfold OpenOut at ho
  rw [← HX.out] at ho
  obtain ⟨ho, hb1⟩ := ho
  have hE1 : Ext2 wo w1 := hb1
  have hB1 : Below w.heap.size w w1 := below_ext hB0 hE1
  have x7 := Ext2.blk hE1 x7
  obtain ⟨n7, hn7⟩ : ∃ n, n = w.heap.size + 1 + 1 := ⟨_, rfl⟩
  rw [← hn7] at x7
  have l7 : w.heap.size ≤ n7 := by omega
  try rw [← hn7]
  clear hb1 hn7 hE1 hB0
  by_cases h0 : x = 0
  case neg =>
    rw [if_neg h0] at ho
    subst ho
    have hv : V = (0, x) := by rw [HV.out]; unfold judgeV; rw [← HX.out, if_pos h0]
    have HB1 := Lib.hid hB1; have HVV := Lib.hid hv
    clear h0 hB1 hv
    go_wp2_with (fail)
    have y6 := Eq.trans (blk_set x7 0 (.int .i64 x)) rfl
    have yc := cell_blk y6
    refine leave_panic x7 ?_
    refine ⟨.tuple #[.int .i64 0, .int .i64 x], ?_, by rw [HVV.out], below_set HB1.out l7⟩
    simp [results, Tryd.results21, go_sem, yc]
  case pos =>
    rw [if_pos h0] at ho
    obtain ⟨b, gm, km, SB, gs, ps, ws, rb, rfl, hop⟩ := ho
    subst h0
    obtain ⟨hk, hro, htx⟩ := open_ok HX.out.symm
    obtain ⟨P, hP⟩ : ∃ P, P = partsS t := ⟨_, rfl⟩
    rw [← hP] at hop htx
    have hv : V = judgeS F R P E := by rw [HV.out]; unfold judgeV; rw [if_neg (not_not_intro HX.out.symm), ← hP]
    have h40 := htx.n40
    have HVS := Lib.hid hv
    have HOP := Lib.hid hop; have HB1 := Lib.hid hB1; have HX7 := Lib.hid x7; have HK := Lib.hid hk; have HRO := Lib.hid hro; have HTX := Lib.hid htx
    have HE1 := Lib.hid (RowS.below HES.out hB1)
    have l71 := blk_lt x7
    obtain ⟨sa, sc⟩ := es
    dsimp only at hcap hmax HE1 HES
    clear hop hB1 hP hk hro htx x7 hv
    go_wp2_with (fail)
    go_loopw [24, 11] (fun p q wr => ∃ (k : Nat), p = .int .i64 (k : Int) ∧ q = .int .i64 (prevE E k) ∧ k ≤ E.length ∧ Below w1.heap.size w1 wr ∧ ∀ i, i < k → badEnd P.length E i = false) (fun p _ _ => E.length - (intOf p).toNat)
    case atStart => exact ⟨0, rfl, rfl, by omega, Below.refl _ _, fun i hi => absurd hi (Nat.not_lt_zero i)⟩
    case round =>
      obtain ⟨k, rfl, rfl, hk, hB, hgood⟩ := hrel
      have HG := Lib.hid hgood; have HB := Lib.hid hB
      have l1r := hB.size
      have hrg := ends_rng hgood k (Nat.le_refl _)
      obtain ⟨f, hf⟩ : ∃ f, f = prevE E k := ⟨_, rfl⟩
      rw [← hf] at hrg ⊢
      have HF := Lib.hid hf
      have hf40 : f ≤ 40 ∧ 0 ≤ f := by
        rcases Nat.eq_zero_or_pos k with hk0 | hk0
        · subst hk0; have : f = 0 := HF.out; omega
        · have := hrg.2 hk0; omega
      have xS := (HOP.out.below hB).sh
      clear hgood hB hf
      have qSc := cell_blk xS
      have qSf := frz_blk xS
      by_cases hlt : k < E.length
      · go_light
        obtain ⟨b', off', ha', ck⟩ := int_cell (HE1.out.below HB.out) hlt
        dsimp only at ha'
        subst ha'
        obtain ⟨y, hy⟩ : ∃ y, y = intD E k := ⟨_, rfl⟩
        rw [← hy] at ck
        have HY := Lib.hid hy
        obtain ⟨bd, hbd⟩ : ∃ v, v = badEnd P.length E k := ⟨_, rfl⟩
        have HBD := Lib.hid hbd
        have hob : outB y (f + 1) P.length = bd := by rw [hbd]; unfold badEnd; rw [outB_in, ← hy, ← HF.out]
        have HOB : Hid (∀ W, Calls Tryd.prog 55 #[.int .i64 y, .int .i64 (f + 1), .int .i64 (P.length : Int)] W fun e w' => e = .returned (.bool bd) ∧ W = w') := Lib.hid fun W => by rw [← hob]; exact out_any _ _ _ W
        have r0 : (0 : Int) ≤ (k : Int) := by omega
        have r1 : (k : Int) < (E.length : Int) := by omega
        have w3' : IntKind.i64.wrap ((k : Int) + 1) = (k : Int) + 1 := IntWalk.i64_in _ (by omega)
        have w4' : IntKind.i64.wrap (f + 1) = f + 1 := IntWalk.i64_in _ (by omega)
        clear hy hbd hob
        go_wp2_with (fail)
        (with_reducible refine (HOB.out _).mono ?_)
        rintro e w2 ⟨rfl, rfl⟩
        cases bd with
        | true =>
          have hv : V = (0, 2) := by
            rw [HVS.out]; unfold judgeS
            rw [firstN_at HG.out HBD.out.symm hlt, if_pos hlt]
          have HVV := Lib.hid hv
          have x7 := Ext2.blk HB.out HX7.out
          clear hv
          go_wp2_with (fail)
          (with_reducible refine (must_no _ _).mono ?_)
          rintro e w3 ⟨rfl, rfl⟩
          go_wp2_with (fail)
          have y6 := Eq.trans (blk_set x7 0 (.int .i64 2)) rfl
          have yc := cell_blk y6
          refine leave_panic x7 ?_
          refine ⟨.tuple #[.int .i64 0, .int .i64 2], ?_, by rw [HVV.out], below_set (below_ext HB1.out HB.out) l7⟩
          simp [results, Tryd.results21, go_sem, yc]
        | false =>
          go_wp2_with (fail)
          (with_reducible refine (must_ok _ _).mono ?_)
          rintro e w3 ⟨rfl, rfl⟩
          go_wp2_with (fail)
          go_roundw
          case rel =>
            refine ⟨k + 1, by go_num, by rw [HY.out]; rfl, by omega, HB.out, fun i hi => ?_⟩
            rcases Nat.lt_or_ge i k with h1 | h1
            · exact HG.out i h1
            · obtain rfl : i = k := by omega
              exact HBD.out.symm
          case measure => simp [intOf]; omega
      · obtain rfl : k = E.length := by omega
        have r8 : ¬ (E.length : Int) < (E.length : Int) := by omega
        have hnb := firstN_none HG.out
        have hj : V = if f ≠ (P.length : Int) then (0, 2) else if firstN (tooWide F R P E) E.length < E.length then (0, 202) else (sumE F R P E E.length, 0) := by
          rw [HVS.out]; unfold judgeS
          rw [hnb, if_neg (Nat.lt_irrefl _), ← HF.out]
        have HJ := Lib.hid hj
        clear hlt hnb hj
        by_cases hfe : f = (P.length : Int)
        · have hj2 : V = if firstN (tooWide F R P E) E.length < E.length then (0, 202) else (sumE F R P E E.length, 0) := by rw [HJ.out, if_neg (not_not_intro hfe)]
          have HJ2 := Lib.hid hj2
          have he40 : E.length ≤ P.length := by have := hrg.1; omega
          have HFE := Lib.hid hfe
          subst hfe
          clear hj2 HJ
          go_wp2_with (fail)
          (with_reducible refine (must_ok _ _).mono ?_)
          rintro e w3 ⟨rfl, rfl⟩
          go_wp2_with (fail)
          go_loopw [51, 11, 14] (fun p q r w5 => ∃ (k : Nat), p = .int .i64 (k : Int) ∧ q = .int .i64 (prevE E k) ∧ r = .int .i64 (sumE F R P E k) ∧ k ≤ E.length ∧ Below w1.heap.size w1 w5 ∧ ∀ i, i < k → tooWide F R P E i = false) (fun p _ _ _ => E.length - (intOf p).toNat)
          case atStart => exact ⟨0, rfl, rfl, rfl, by omega, HB.out, fun i hi => absurd hi (Nat.not_lt_zero i)⟩
          case round =>
            obtain ⟨k, rfl, rfl, rfl, hk, hB5, hfits⟩ := hrel
            have HG5 := Lib.hid hfits; have HB5 := Lib.hid hB5
            have hsr := sum_rng HK.out HRO.out HTX.out HG.out k hk
            obtain ⟨S, hS⟩ : ∃ S, S = sumE F R P E k := ⟨_, rfl⟩
            rw [← hS] at hsr ⊢
            have HS := Lib.hid hS
            clear hfits hB5 hS qSc qSf xS
            by_cases hlt : k < E.length
            · go_light
              obtain ⟨b', off', ha', ck⟩ := int_cell (HE1.out.below HB5.out) hlt
              dsimp only at ha'
              subst ha'
              have her := end_rng (HG.out k hlt)
              have hpr := ends_rng HG.out k hk
              obtain ⟨a, ha⟩ : ∃ a : Nat, prevE E k = (a : Int) := ⟨(prevE E k).toNat, by omega⟩
              obtain ⟨z, hz⟩ : ∃ z : Nat, intD E k = (z : Int) := ⟨(intD E k).toNat, by omega⟩
              rw [ha, hz] at her
              rw [hz] at ck
              have HA := Lib.hid ha; have HZ := Lib.hid hz
              rw [ha]
              have HLN := Lib.hid (line_any (a := a) (z := z) (HOP.out.below HB5.out).sheet HK.out HRO.out HTX.out (by omega) (by omega))
              have hcr := costL_rng HK.out HRO.out HTX.out (a := a) (z := z) (by omega) (by omega)
              obtain ⟨W, hW⟩ : ∃ W, W = wideL F P a z := ⟨_, rfl⟩
              obtain ⟨C, hC⟩ : ∃ C, C = costL F R P a z := ⟨_, rfl⟩
              rw [← hW, ← hC] at HLN
              rw [← hC] at hcr
              have HW := Lib.hid hW; have HC := Lib.hid hC
              have htw : tooWide F R P E k = decide (R.measure < W) := by unfold tooWide; rw [HA.out, HZ.out, hW]; rfl
              have HTW := Lib.hid htw
              have r0 : (0 : Int) ≤ (k : Int) := by omega
              have r1 : (k : Int) < (E.length : Int) := by omega
              have w3' : IntKind.i64.wrap ((k : Int) + 1) = (k : Int) + 1 := IntWalk.i64_in _ (by omega)
              have w5' : IntKind.i64.wrap (S + C) = S + C := IntWalk.i64_in _ (by omega)
              clear ha hz hW hC htw hpr
              go_wp2_with (fail)
              (with_reducible refine HLN.out.mono ?_)
              rintro e w6 ⟨rfl, hb6⟩
              have hB6 := below_ext HB5.out hb6
              clear hb6
              go_wp2_with (fail)
              refine wp_name ?_
              intro w7 h7
              obtain ⟨n17, hn17⟩ : ∃ n, n = w6.heap.size := ⟨_, rfl⟩
              have hE7 : Ext2 w6 w7 := by rw [h7]; repeat' (first | exact Below.refl _ _ | assumption | refine below_drewN ?_ _ | refine Below.drew ?_ | refine Below.alloc ?_ (by first | assumption | omega | (simp <;> omega)) _ | refine Below.setCell ?_ (by first | assumption | omega | (simp <;> omega)) _ | refine Ext2.on (by assumption) ?_)
              have x17 : w7.heap[n17]? = some (Obj.cells #[.int .i64 (a : Int), .int .i64 (z : Int), .int .i64 W, .int .i64 C] 71) := by rw [h7, hn17]; exact blk_new' _ _ (by simp)
              have hB7 := below_ext hB6 hE7
              have hop7 := HOP.out.below hB7
              have xS := hop7.sh; have xs := hop7.set.blk
              rw [← hn17]
              clear h7 hE7 hn17 hop7 hB6
              have qSc := cell_blk xS
              have qSf := frz_blk xS
              have qsc := cell_blk xs
              have qsf := frz_blk xs
              have q17c := cell_blk x17
              have q17f := frz_blk x17
              by_cases hfw : W ≤ R.measure
              · have hd1 : decide (W ≤ R.measure) = true := decide_eq_true hfw
                go_wp2_with (fail)
                refine wp_calm ?_
                refine region_ev [] [0, 1, 2, 3, 4, 5, 6, 7, 8, 9, 10] [] [11] (by kernel_rfl) (by kernel_rfl) (by intro c a d v w h; cases d <;> exact h) ?_
                simp only [picks, List.drop_succ_cons, List.drop_zero]
                repeat (refine wpQ0_step (fun K hK => ?_); go_simp; (refine hK _ ?_; clear hK K))
                refine wpQ0_nil ?_
                repeat ((with_reducible refine wpQ2_step (fun K hK => ?_)); go_simp; first | ((with_reducible refine hK _ ?_); clear hK K) | (apply Exists.intro; refine ⟨fun x => ?_, hK _ ?_⟩; (fail); clear hK K))
                refine wpQ2_nil ?_
                refine Events.none_ fun w8 hg8 => ?_
                simp only [picks, List.drop_succ_cons, List.drop_zero]
                have hB8 := below_ext hB7 hg8
                have x17 := Ext2.blk hg8 x17
                clear qSc qSf qsc qsf q17c q17f xS xs hg8
                go_wp2_with (fail)
                (with_reducible refine (must_ok _ _).mono ?_)
                rintro e w9 ⟨rfl, rfl⟩
                have q17c := cell_blk x17
                have q17f := frz_blk x17
                go_wp2_with (fail)
                refine region_evC [0, 1, 2, 3, 4, 5, 6] [] (by kernel_rfl) (by kernel_rfl) ?_
                simp only [picks, List.drop_succ_cons, List.drop_zero]
                repeat ((with_reducible refine wpQ2_step (fun K hK => ?_)); go_simp; first | ((with_reducible refine hK _ ?_); clear hK K) | (apply Exists.intro; refine ⟨fun x => ?_, hK _ ?_⟩; (fail); clear hK K))
                refine wpQ2_nil ?_
                intro w9 hg9
                have hB9 := below_ext hB8 hg9
                clear q17c q17f x17 hg9
                go_wp2_with (fail)
                go_roundw
                case rel =>
                  refine ⟨k + 1, by go_num, by rw [← HZ.out]; rfl, by rw [sumE, HA.out, HZ.out, HS.out, HC.out]; rfl, by omega, hB9, fun i hi => ?_⟩
                  rcases Nat.lt_or_ge i k with h1 | h1
                  · exact HG5.out i h1
                  · obtain rfl : i = k := by omega
                    rw [HTW.out]; exact decide_eq_false (by omega)
                case measure => simp [intOf]; omega
              · have hd1 : decide (W ≤ R.measure) = false := decide_eq_false hfw
                have hv : V = (0, 202) := by
                  rw [HJ2.out, firstN_at HG5.out (by rw [HTW.out]; exact decide_eq_true (by omega)) hlt, if_pos hlt]
                have HVV := Lib.hid hv
                clear hv
                go_wp2_with (fail)
                refine region_evC [0, 1, 2, 3, 4, 5, 6, 7, 8, 9, 10] [11] (by kernel_rfl) (by kernel_rfl) ?_
                simp only [picks, List.drop_succ_cons, List.drop_zero]
                repeat ((with_reducible refine wpQ2_step (fun K hK => ?_)); go_simp; first | ((with_reducible refine hK _ ?_); clear hK K) | (apply Exists.intro; refine ⟨fun x => ?_, hK _ ?_⟩; (fail); clear hK K))
                refine wpQ2_nil ?_
                intro w8 hg8
                have hB8 := below_ext hB7 hg8
                have x7 := Ext2.blk hB8 HX7.out
                clear qSc qSf qsc qsf q17c q17f xS xs hg8
                go_wp2_with (fail)
                (with_reducible refine (must_no _ _).mono ?_)
                rintro e w9 ⟨rfl, rfl⟩
                go_wp2_with (fail)
                have y6 := Eq.trans (blk_set x7 0 (.int .i64 202)) rfl
                have yc := cell_blk y6
                refine leave_panic x7 ?_
                refine ⟨.tuple #[.int .i64 0, .int .i64 202], ?_, by rw [HVV.out], below_set (below_ext HB1.out hB8) l7⟩
                simp [results, Tryd.results21, go_sem, yc]
            · obtain rfl : k = E.length := by omega
              have r8 : ¬ (E.length : Int) < (E.length : Int) := by omega
              have hv : V = (S, 0) := by rw [HJ2.out, firstN_none HG5.out, if_neg (Nat.lt_irrefl _), ← HS.out]
              have HVV := Lib.hid hv
              have x7 := Ext2.blk HB5.out HX7.out
              clear hlt hv
              have q7c := cell_blk x7
              have q7f := frz_blk x7
              go_wp2_with (fail)
              have y7 := Eq.trans (blk_set x7 0 (.int .i64 0)) rfl
              have yc := cell_blk y7
              refine leave_done ?_
              refine ⟨.tuple #[.int .i64 S, .int .i64 0], ?_, by rw [HVV.out], below_set (below_ext HB1.out HB5.out) l7⟩
              simp [results, Tryd.results21, go_sem, yc]
        · have hd : decide (f = (P.length : Int)) = false := decide_eq_false hfe
          have hv : V = (0, 2) := by rw [HJ.out, if_pos hfe]
          have HVV := Lib.hid hv
          have x7 := Ext2.blk HB.out HX7.out
          clear hv
          go_wp2_with (fail)
          rw [show (f == (P.length : Int)) = false from beq_eq_false_iff_ne.2 hfe]
          (with_reducible refine (must_no _ _).mono ?_)
          rintro e w3 ⟨rfl, rfl⟩
          go_wp2_with (fail)
          have y6 := Eq.trans (blk_set x7 0 (.int .i64 2)) rfl
          have yc := cell_blk y6
          refine leave_panic x7 ?_
          refine ⟨.tuple #[.int .i64 0, .int .i64 2], ?_, by rw [HVV.out], below_set (below_ext HB1.out HB.out) l7⟩
          simp [results, Tryd.results21, go_sem, yc]
end Go.Proofs.YtahgbecfaihfpaaDoor
