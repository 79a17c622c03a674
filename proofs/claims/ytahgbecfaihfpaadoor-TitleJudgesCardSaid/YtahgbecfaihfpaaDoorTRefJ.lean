/-
  ref.Judge.
-/
import Derived.Test.YtahgbecfaihfpaaDoorTRefL
namespace Go.Proofs.YtahgbecfaihfpaaDoor
open Go.RowKit D
set_option linter.unusedVariables false
set_option linter.unusedSimpArgs false
attribute [local go_sem high] run_minI run_maxI
attribute [local go_sem] upon2 cls_cell cls_frozen forall_const exists_eq_left'
attribute [local go_sem] FirstUpon
theorem turn_four {b : Nat} {W : World} {x y z u0 : Value} {t : TypeId} (hb : W.heap[b]? = some (.cells #[x, y, z, u0] t (0, 0))) (u v r q : Value) : Turn b (.cells #[u, v, r, q] t (0, 0)) W ((((W.setCell ⟨b, 0, none⟩ u).setCell ⟨b, 1, none⟩ v).setCell ⟨b, 2, none⟩ r).setCell ⟨b, 3, none⟩ q) := by
  have h := (((turn_set (o := 0) hb u).set (o := 1) v).set (o := 2) r).set (o := 3) q
  simpa using h
set_option maxRecDepth 100000 in
set_option maxHeartbeats 2000000 in
theorem judgeR_any {F : Font} {s : FSl} {R : Rul} {t : ByteArray} {es : Sl} {E : List Int} {w : World} (hF : FontAt w F s) (ht : t.size ≤ maxLen) (hE : IntsS w es E) : Calls Tryd.prog 22 #[.agg #[.int .i64 F.high, .int .i64 F.space, .slice s.g.a F.glyphs.length s.g.cap, .slice s.k.a F.kerns.length s.k.cap], .agg #[.int .i64 R.measure, .int .i64 R.lines, .int .i64 R.lead, .int .i64 R.short, .int .i64 R.extra, .int .i64 R.ink], .string t, .slice es.a E.length es.cap] w (JudgePost w (judgeV F R t E)) := by
  have HRD : Hid (∀ W, Below w.heap.size w W → Calls Tryd.prog 57 #[.agg #[.int .i64 F.high, .int .i64 F.space, .slice s.g.a F.glyphs.length s.g.cap, .slice s.k.a F.kerns.length s.k.cap], .agg #[.int .i64 R.measure, .int .i64 R.lines, .int .i64 R.lead, .int .i64 R.short, .int .i64 R.extra, .int .i64 R.ink], .string t] W (ReadPost W F R t)) := Lib.hid fun W hW => readR_any (hF.below hW) ht
  obtain ⟨x, hx⟩ : ∃ x, x = openE F R t := ⟨_, rfl⟩
  have HX := Lib.hid hx; have HE := Lib.hid hE
  have hec := hE.le; have hem := hE.max
  have ea : E.length = 0 ∨ ∃ eb eoff, es.a = some ⟨eb, eoff, none⟩ := by
    rcases Nat.eq_zero_or_pos E.length with h | h
    · exact .inl h
    · obtain ⟨b, off, h1, -⟩ := int_cell hE (i := 0) h; exact .inr ⟨b, off, h1⟩
  obtain ⟨⟨c, d⟩, hV⟩ : ∃ V, V = judgeV F R t E := ⟨_, rfl⟩
  rw [← hV]
  have HV := Lib.hid hV
  clear hx hE hV
  obtain ⟨sa, sc⟩ := es
  dsimp only at hec hem ea
  go_enter Tryd.func22, Tryd.ntmps22
  go_wp2_with (fail)
  (with_reducible refine (HRD.out _ ?_).mono ?_)
  · repeat' (first | exact Below.refl _ _ | assumption | refine below_drewN ?_ _ | refine Below.drew ?_ | refine Below.alloc ?_ (by first | assumption | omega | (simp <;> omega)) _ | refine Below.setCell ?_ (by first | assumption | omega | (simp <;> omega)) _ | refine Ext2.on (by assumption) ?_)
  rintro e w1 ⟨⟨v1, v2, rfl, hv⟩, hb1⟩
  rw [← HX.out] at hv ⊢
  have hB1 : Below w.heap.size w w1 := Below.trans (by repeat' (first | exact Below.refl _ _ | assumption | refine below_drewN ?_ _ | refine Below.drew ?_ | refine Below.alloc ?_ (by first | assumption | omega | (simp <;> omega)) _ | refine Below.setCell ?_ (by first | assumption | omega | (simp <;> omega)) _ | refine Ext2.on (by assumption) ?_)) (hb1.mono (by simp; omega))
  have x4 : w1.heap[w.heap.size]? = some (Obj.cells #[.int .i64 F.high, .int .i64 F.space, .slice s.g.a F.glyphs.length s.g.cap, .slice s.k.a F.kerns.length s.k.cap] 25) := below_blk hb1 (by repeat' (first | (with_reducible assumption) | (with_reducible refine blk_set_ne ?_ ?_) | (with_reducible exact blk_new _ _) | (with_reducible refine blk_new' _ _ (by first | (with_reducible rfl) | (simp; done) | (simp <;> omega))) | (with_reducible refine blk_alloc ?_ _) | (with_reducible refine blk_drew ?_) | (with_reducible refine blk_drewN ?_ _) | (with_reducible refine Ext2.blk (by assumption) ?_) | omega | (simp <;> omega) | exact blk_set (by assumption) _ _)) (by simp; omega)
  have x5 : w1.heap[w.heap.size + 1]? = some (Obj.cells #[.int .i64 R.measure, .int .i64 R.lines, .int .i64 R.lead, .int .i64 R.short, .int .i64 R.extra, .int .i64 R.ink] 34) := below_blk hb1 (by repeat' (first | (with_reducible assumption) | (with_reducible refine blk_set_ne ?_ ?_) | (with_reducible exact blk_new _ _) | (with_reducible refine blk_new' _ _ (by first | (with_reducible rfl) | (simp; done) | (simp <;> omega))) | (with_reducible refine blk_alloc ?_ _) | (with_reducible refine blk_drew ?_) | (with_reducible refine blk_drewN ?_ _) | (with_reducible refine Ext2.blk (by assumption) ?_) | omega | (simp <;> omega) | exact blk_set (by assumption) _ _)) (by simp)
  have HB1 := Lib.hid hB1; have HX4 := Lib.hid x4; have HX5 := Lib.hid x5
  clear hb1 hB1 x4 x5 HRD
  by_cases h0 : x = 0
  case neg =>
    rw [if_neg h0] at hv
    obtain ⟨rfl, rfl⟩ := hv
    have e2 : (x != 0) = true := by simp [h0]
    have hjv : (c, d) = (0, x) := by rw [HV.out]; unfold judgeV; rw [if_pos (by rw [← HX.out]; exact h0), ← HX.out]
    obtain ⟨rfl, rfl⟩ := Prod.mk.inj hjv
    clear h0 hjv
    go_wp2_with (fail)
    refine bodyPost_ret (v := .tuple #[.int .i64 0, .int .i64 d]) ?_ rfl ⟨rfl, HB1.out⟩
    simp [results, Tryd.results22, go_sem]
  case pos =>
    rw [if_pos h0] at hv
    subst h0
    obtain ⟨hk, hr, htx⟩ := open_ok HX.out.symm
    obtain ⟨P, hP⟩ : ∃ P, P = partsS t := ⟨_, rfl⟩
    rw [← hP] at hv htx
    obtain ⟨⟨s1, rfl, hs1⟩, ⟨s2, rfl, hs2⟩⟩ := hv
    have hjv : (c, d) = judgeS F R P E := by rw [HV.out]; unfold judgeV; rw [if_neg (by rw [← HX.out]; exact not_not_intro rfl), ← hP]
    have HJ := Lib.hid hjv; have HK := Lib.hid hk; have HRO := Lib.hid hr; have HTX := Lib.hid htx; have HS1 := Lib.hid hs1; have HS2 := Lib.hid hs2
    have h40 := htx.n40
    have h1c := hs1.le; have h1m := hs1.max; have h2c := hs2.le; have h2m := hs2.max
    rw [widL_len] at h2c
    clear hk hr htx hs1 hs2 hjv hP
    rcases ea with hE0 | ⟨eb, eoff, rfl⟩
    · have r8 : ¬ (0 : Int) < (E.length : Int) := by omega
      have hn1 := HTX.out.n1
      have e0 : ((0 : Int) != (P.length : Int)) = true := by simp; omega
      have hjj : (c, d) = (0, 2) := by
        rw [HJ.out]; unfold judgeS
        have h1 := firstN_le (badEnd P.length E) E.length
        rw [if_neg (by omega), if_pos (by rw [hE0]; show (0 : Int) ≠ _; omega)]
      obtain ⟨rfl, rfl⟩ := Prod.mk.inj hjj
      clear hE0 hjj
      go_wp2_with (fail)
      go_loopw [13, 14] (fun l i wr => l = .int .i64 0 ∧ i = .int .i64 0 ∧ wr = w1) (fun _ _ _ => 0)
      case atStart => exact ⟨rfl, rfl, rfl⟩
      case round =>
        obtain ⟨rfl, rfl, rfl⟩ := hrel
        go_wp2_with (fail)
        refine bodyPost_ret (v := .tuple #[.int .i64 0, .int .i64 2]) ?_ rfl ⟨rfl, HB1.out⟩
        simp [results, Tryd.results22, go_sem]
    go_wp2_with (fail)
    go_loopw [13, 14] (fun l i wr => ∃ k : Nat, i = .int .i64 (k : Int) ∧ k ≤ E.length ∧ l = .int .i64 (prevE E k) ∧ wr = w1 ∧ ∀ i, i < k → badEnd P.length E i = false) (fun _ i _ => E.length - (intOf i).toNat)
    case atStart => exact ⟨0, rfl, Nat.zero_le _, rfl, rfl, fun i h => absurd h (Nat.not_lt_zero i)⟩
    case round =>
      obtain ⟨k, rfl, hk, rfl, rfl, hgood⟩ := hrel
      have HG := Lib.hid hgood
      obtain ⟨f, hf⟩ : ∃ f, f = prevE E k := ⟨_, rfl⟩
      rw [← hf]
      have HF := Lib.hid hf
      clear hgood hf
      by_cases hlt : k < E.length
      · obtain ⟨_, _, e1, ck⟩ := int_cell (HE.out.below HB1.out) hlt
        obtain ⟨rfl, rfl⟩ : eb = _ ∧ eoff = _ := by simpa using e1
        obtain ⟨y, hy⟩ : ∃ y, y = intD E k := ⟨_, rfl⟩
        rw [← hy] at ck
        have HY := Lib.hid hy
        have hbe : badEnd P.length E k = decide (y ≤ f ∨ (P.length : Int) < y) := by
          unfold badEnd inB
          rw [← HY.out, ← HF.out]
          by_cases h : f + 1 ≤ y ∧ y ≤ (P.length : Int)
          · rw [decide_eq_true h, decide_eq_false (by omega)]; rfl
          · rw [decide_eq_false h, decide_eq_true (by omega)]; rfl
        have HBE := Lib.hid hbe
        have r0 : (0 : Int) ≤ (k : Int) := by omega
        have r1 : (k : Int) < (E.length : Int) := by omega
        have w3' : IntKind.i64.wrap ((k : Int) + 1) = (k : Int) + 1 := IntWalk.i64_in _ (by omega)
        clear e1 hy hbe
        by_cases hb1 : y ≤ f
        · have hjj : (c, d) = (0, 2) := by rw [HJ.out]; unfold judgeS; rw [firstN_at HG.out (by rw [HBE.out]; exact decide_eq_true (.inl hb1)) hlt, if_pos hlt]
          obtain ⟨rfl, rfl⟩ := Prod.mk.inj hjj
          clear hjj
          go_wp2_with (fail)
          refine bodyPost_ret (v := .tuple #[.int .i64 0, .int .i64 2]) ?_ rfl ⟨rfl, HB1.out⟩
          simp [results, Tryd.results22, go_sem]
        · by_cases hb2 : y > (P.length : Int)
          · have hjj : (c, d) = (0, 2) := by rw [HJ.out]; unfold judgeS; rw [firstN_at HG.out (by rw [HBE.out]; exact decide_eq_true (.inr hb2)) hlt, if_pos hlt]
            obtain ⟨rfl, rfl⟩ := Prod.mk.inj hjj
            clear hjj
            go_wp2_with (fail)
            refine bodyPost_ret (v := .tuple #[.int .i64 0, .int .i64 2]) ?_ rfl ⟨rfl, HB1.out⟩
            simp [results, Tryd.results22, go_sem]
          · have hno : badEnd P.length E k = false := by rw [HBE.out]; exact decide_eq_false (by omega)
            have HNO := Lib.hid hno
            clear hno
            go_wp2_with (fail)
            go_roundw
            case rel => exact ⟨k + 1, by go_num, hlt, by rw [HY.out]; rfl, True.intro, fun j hj => by
              rcases Nat.lt_or_ge j k with h | h
              · exact HG.out j h
              · obtain rfl : j = k := by omega
                exact HNO.out⟩
            case measure => simp [intOf]; omega
      · obtain rfl : k = E.length := by omega
        have r8 : ¬ (E.length : Int) < (E.length : Int) := by omega
        have hnb := firstN_none HG.out
        clear hlt
        by_cases hfe : f = (P.length : Int)
        · have hjj : (c, d) = if firstN (tooWide F R P E) E.length < E.length then (0, 202) else (sumE F R P E E.length, 0) := by
            rw [HJ.out]; unfold judgeS; rw [hnb, if_neg (Nat.lt_irrefl _), ← HF.out, if_neg (not_not_intro hfe)]
          have HJ2 := Lib.hid hjj
          have hrg := ends_rng HG.out E.length (Nat.le_refl _)
          have he40 : E.length ≤ 40 := by have := hrg.1; rw [← HF.out] at this; omega
          have HFE := Lib.hid hfe
          subst hfe
          clear hjj hnb hrg
          obtain ⟨w2, hw2⟩ : ∃ x, x = wr := ⟨_, rfl⟩
          have HB2 := Lib.hid (show Below w.heap.size w w2 by rw [hw2]; exact HB1.out)
          have HY4 := Lib.hid (show w2.heap[w.heap.size]? = some ((Obj.cells #[.int .i64 F.high, .int .i64 F.space, .slice s.g.a F.glyphs.length s.g.cap, .slice s.k.a F.kerns.length s.k.cap] 25)) by rw [hw2]; exact HX4.out)
          have HY5 := Lib.hid (show w2.heap[w.heap.size + 1]? = some ((Obj.cells #[.int .i64 R.measure, .int .i64 R.lines, .int .i64 R.lead, .int .i64 R.short, .int .i64 R.extra, .int .i64 R.ink] 34)) by rw [hw2]; exact HX5.out)
          have HT1 := Lib.hid (show StrsS w2 s1 P by rw [hw2]; exact HS1.out)
          have HT2 := Lib.hid (show IntsS w2 s2 (widL F P) by rw [hw2]; exact HS2.out)
          rw [← hw2]
          go_wp2_with (fail)
          go_loopw [15, 16, 17] (fun cs fr i wx => ∃ k : Nat, i = .int .i64 (k : Int) ∧ k ≤ E.length ∧ cs = .int .i64 (sumE F R P E k) ∧ fr = .int .i64 (prevE E k) ∧ Ext2 w2 wx ∧ ∀ j, j < k → tooWide F R P E j = false) (fun _ _ i _ => E.length - (intOf i).toNat)
          case atStart => exact ⟨0, rfl, Nat.zero_le _, rfl, rfl, (by rw [hw2]; exact Below.refl _ _), fun j h => absurd h (Nat.not_lt_zero j)⟩
          case round =>
            obtain ⟨k, rfl, hk, rfl, rfl, hEr, hfits⟩ := hrel
            have HFT := Lib.hid hfits; have HEr := Lib.hid hEr
            have hsr := sum_rng HK.out HRO.out HTX.out HG.out k hk
            have hBr := below_ext HB2.out hEr
            obtain ⟨S, hS⟩ : ∃ S, S = sumE F R P E k := ⟨_, rfl⟩
            rw [← hS] at hsr ⊢
            have HS := Lib.hid hS
            clear hfits hS
            by_cases hlt : k < E.length
            · obtain ⟨_, _, e1, ck⟩ := int_cell (HE.out.below hBr) hlt
              obtain ⟨rfl, rfl⟩ : eb = _ ∧ eoff = _ := by simpa using e1
              have her := end_rng (HG.out k hlt)
              have hpr := ends_rng HG.out k hk
              obtain ⟨a, ha⟩ : ∃ a : Nat, prevE E k = (a : Int) := ⟨(prevE E k).toNat, by omega⟩
              obtain ⟨z, hz⟩ : ∃ z : Nat, intD E k = (z : Int) := ⟨(intD E k).toNat, by omega⟩
              rw [ha, hz] at her
              rw [hz] at ck
              have HA := Lib.hid ha; have HZ := Lib.hid hz
              rw [ha]
              have hLN : ∀ W, Ext2 wr W → Calls Tryd.prog 58 #[.agg #[.int .i64 F.high, .int .i64 F.space, .slice s.g.a F.glyphs.length s.g.cap, .slice s.k.a F.kerns.length s.k.cap], .agg #[.int .i64 R.measure, .int .i64 R.lines, .int .i64 R.lead, .int .i64 R.short, .int .i64 R.extra, .int .i64 R.ink], .slice s1.a P.length s1.cap, .slice s2.a P.length s2.cap, .int .i64 (a : Int), .int .i64 (z : Int)] W fun e w' => e = .returned (.agg #[.int .i64 (a : Int), .int .i64 (z : Int), .int .i64 (wideL F P a z), .int .i64 (costL F R P a z)]) ∧ Below W.heap.size W w' := fun W hW => by
                have h := lineR_any (s := s) (s1 := s1) (s2 := s2) (w := W) HK.out HRO.out HTX.out (RowS.below HT1.out (ext_trans hEr hW)) (RowS.below HT2.out (ext_trans hEr hW)) (a := a) (z := z) (by omega) (by omega)
                exact h
              have hcr := costL_rng HK.out HRO.out HTX.out (a := a) (z := z) (by omega) (by omega)
              obtain ⟨Wd, hW⟩ : ∃ W, W = wideL F P a z := ⟨_, rfl⟩
              obtain ⟨C, hC⟩ : ∃ C, C = costL F R P a z := ⟨_, rfl⟩
              rw [← hW, ← hC] at hLN
              rw [← hC] at hcr
              have htw : tooWide F R P E k = decide (R.measure < Wd) := by unfold tooWide; rw [HA.out, HZ.out, hW]; rfl
              have hsk : sumE F R P E (k + 1) = S + C := by rw [sumE, HA.out, HZ.out, HS.out, hC]; rfl
              have HLN := Lib.hid hLN; have HTW := Lib.hid htw; have HSK := Lib.hid hsk
              have r0 : (0 : Int) ≤ (k : Int) := by omega
              have r1 : (k : Int) < (E.length : Int) := by omega
              have w3' : IntKind.i64.wrap ((k : Int) + 1) = (k : Int) + 1 := IntWalk.i64_in _ (by omega)
              have w5' : IntKind.i64.wrap (S + C) = S + C := IntWalk.i64_in _ (by omega)
              have y4 := Ext2.blk hEr HY4.out
              have y5 := Ext2.blk hEr HY5.out
              clear e1 ha hz hW hC htw hsk hLN hpr her hcr hEr
              have q4c := cell_blk y4
              have q4f := frz_blk y4
              have q5c := cell_blk y5
              have q5f := frz_blk y5
              go_wp2_with (fail)
              refine region_ev [] [0, 1, 2, 3, 4, 5, 6, 7, 8, 9] [(10, 18, some 11)] [] (by kernel_rfl) (by kernel_rfl) (by intro c a d v w h; cases d <;> exact h) ?_
              simp only [picks, List.drop_succ_cons, List.drop_zero]
              repeat (refine wpQ0_step (fun K hK => ?_); go_simp; (refine hK _ ?_; clear hK K))
              refine wpQ0_nil ?_
              repeat ((with_reducible refine wpQ2_step (fun K hK => ?_)); go_simp; first | ((with_reducible refine hK _ ?_); clear hK K) | (apply Exists.intro; refine ⟨fun x => ?_, hK _ ?_⟩; ((with_reducible exact HLN.out x.1 x.2)); clear hK K))
              refine wpQ2_nil ?_
              refine Events.fill1 (fun b => .pointer (some ⟨b, 0, none⟩)) (Obj.cells #[.int .i64 0, .int .i64 0, .int .i64 0, .int .i64 0] 71) (Obj.cells #[.int .i64 (a : Int), .int .i64 (z : Int), .int .i64 Wd, .int .i64 C] 71) ⟨_, rfl, rfl, rfl, fun W => by kernel_rfl⟩ ⟨_, rfl, rfl, rfl, fun b W hb => ?_⟩ fun b18 w7 hb18 hg7 nb18 => ?_
              · have hbc := cell_blk hb; have hbf := frz_blk hb; go_simp; exact turn_four hb _ _ _ _
              simp only [picks, List.drop_succ_cons, List.drop_zero]
              have HE7 := Lib.hid (ext_trans HEr.out hg7)
              have HB7 := Lib.hid (below_ext hBr hg7)
              have y5 := Ext2.blk hg7 y5
              have ck := (Below.cell hg7 (cell_lt ck)).trans ck
              clear q4c q4f q5c q5f y4 hg7 hb18 hBr
              have qlc := cell_blk nb18
              have qlf := frz_blk nb18
              have q5c := cell_blk y5
              have q5f := frz_blk y5
              by_cases hwide : Wd > R.measure
              · have hjj : (c, d) = (0, 202) := by rw [HJ2.out, firstN_at HFT.out (by rw [HTW.out]; exact decide_eq_true (by omega)) hlt, if_pos hlt]
                obtain ⟨rfl, rfl⟩ := Prod.mk.inj hjj
                clear hjj
                go_wp2_with (fail)
                refine bodyPost_ret (v := .tuple #[.int .i64 0, .int .i64 202]) ?_ rfl ⟨rfl, HB7.out⟩
                simp [results, Tryd.results22, go_sem]
              · go_wp2_with (fail)
                refine region_ev [] [0, 1, 2, 3, 4, 5, 6, 7, 8, 9] [] [] (by kernel_rfl) (by kernel_rfl) (by intro c a d v w h; cases d <;> exact h) ?_
                simp only [picks, List.drop_succ_cons, List.drop_zero]
                repeat (refine wpQ0_step (fun K hK => ?_); go_simp; (refine hK _ ?_; clear hK K))
                refine wpQ0_nil ?_
                repeat ((with_reducible refine wpQ2_step (fun K hK => ?_)); go_simp; first | ((with_reducible refine hK _ ?_); clear hK K) | (apply Exists.intro; refine ⟨fun x => ?_, hK _ ?_⟩; (fail); clear hK K))
                refine wpQ2_nil ?_
                refine Events.none_ fun w8 hg8 => ?_
                simp only [picks, List.drop_succ_cons, List.drop_zero]
                have hE8 := ext_trans HE7.out hg8
                clear qlc qlf q5c q5f nb18 y5 ck hg8
                go_wp2_with (fail)
                go_roundw
                case rel => exact ⟨k + 1, by go_num, hlt, by rw [HSK.out], by rw [← HZ.out]; rfl, hE8, fun j hj => by
                  rcases Nat.lt_or_ge j k with h | h
                  · exact HFT.out j h
                  · obtain rfl : j = k := by omega
                    rw [HTW.out]; exact decide_eq_false (by omega)⟩
                case measure => simp [intOf]; omega
            · obtain rfl : k = E.length := by omega
              have r9 : ¬ (E.length : Int) < (E.length : Int) := by omega
              have hjj : (c, d) = (S, 0) := by rw [HJ2.out, if_neg (by rw [firstN_none HFT.out]; exact Nat.lt_irrefl _), HS.out]
              obtain ⟨rfl, rfl⟩ := Prod.mk.inj hjj
              clear hlt hEr hjj
              go_wp2_with (fail)
              refine bodyPost_ret (v := .tuple #[.int .i64 c, .int .i64 0]) ?_ rfl ⟨rfl, hBr⟩
              simp [results, Tryd.results22, go_sem]
        · have hfn : (f != (P.length : Int)) = true := by simp [hfe]
          have hjj : (c, d) = (0, 2) := by rw [HJ.out]; unfold judgeS; rw [hnb, if_neg (Nat.lt_irrefl _), ← HF.out, if_pos hfe]
          obtain ⟨rfl, rfl⟩ := Prod.mk.inj hjj
          clear hjj hnb hfe
          go_wp2_with (fail)
          refine bodyPost_ret (v := .tuple #[.int .i64 0, .int .i64 2]) ?_ rfl ⟨rfl, HB1.out⟩
          simp [results, Tryd.results22, go_sem]
end Go.Proofs.YtahgbecfaihfpaaDoor
