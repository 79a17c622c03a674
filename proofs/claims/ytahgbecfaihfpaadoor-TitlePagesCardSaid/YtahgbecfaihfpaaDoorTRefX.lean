/-
  ref.width, ref.Set.
-/
import Derived.Test.YtahgbecfaihfpaaDoorTRefW
namespace Go.Proofs.YtahgbecfaihfpaaDoor
open Go.RowKit D
set_option linter.unusedVariables false
set_option linter.unusedSimpArgs false
attribute [local go_sem high] run_minI run_maxI
attribute [local go_sem] upon2 cls_cell cls_frozen forall_const exists_eq_left'
attribute [local go_sem] FirstUpon
theorem cand_ne {F : Font} {w : List UInt8} {r : Nat → Option (List Nat)} {long : Nat} {best : Option (List Nat)} (hb : ∀ l, best = some l → l ≠ []) : ∀ l, candS F w r long best = some l → l ≠ [] := fun l h => by
  unfold candS at h
  split at h
  · split at h
    · rcases better_some h with h1 | h1
      · exact h1
      · exact hb l h1
    · exact hb l h
  · exact hb l h
theorem setS_ne {F : Font} {w : List UInt8} (hw : w ≠ []) {l : List Nat} (h : setS F w = some l) : l ≠ [] := by
  rw [setS_eq F hw] at h
  exact cand_ne (cand_ne (cand_ne fun l h => by cases h)) l h
set_option maxRecDepth 100000 in
set_option maxHeartbeats 2000000 in
theorem widthR_any {F : Font} {s : FSl} {l : List Nat} {sl : Sl} {w : World} (hF : FontAt w F s) (hk : FontOk F) (hl : IntsS w sl (l.map Int.ofNat)) (hm : ∀ x ∈ l, x < F.glyphs.length) (h24 : l.length ≤ 24) (h0 : 0 < l.length) :
    Calls Tryd.prog 52 #[.agg #[.int .i64 F.high, .int .i64 F.space, .slice s.g.a F.glyphs.length s.g.cap, .slice s.k.a F.kerns.length s.k.cap], .slice sl.a l.length sl.cap] w fun e w' => e = .returned (.int .i64 (widS F l l.length)) ∧ Below w.heap.size w w' := by
  have HPL : Hid (∀ W, Below w.heap.size w W → Calls Tryd.prog 72 #[.agg #[.int .i64 F.high, .int .i64 F.space, .slice s.g.a F.glyphs.length s.g.cap, .slice s.k.a F.kerns.length s.k.cap], .slice sl.a l.length sl.cap] W fun e w' => (∃ s' : Sl, e = .returned (.slice s'.a l.length s'.cap) ∧ IntsS w' s' (placesS F l)) ∧ Below W.heap.size W w') := Lib.hid fun W hW => placesR_any (hF.below hW) hk (RowS.below hl hW) hm h24 h0
  obtain ⟨gb, goff, hga, -⟩ := hF.gls.gl.row (by have := hk.ng; omega) (by omega)
  have hgc := hF.gls.gl.le; have hgm := hF.gls.gl.max
  obtain ⟨⟨ga, gc⟩, rs, ks⟩ := s
  dsimp only at hga hgc hgm
  subst hga
  have hlc := hl.le; have hlm := hl.max
  rw [ints_len] at hlc
  obtain ⟨lb, loff, hla, -⟩ := int_cell hl (i := 0) (by rw [ints_len]; exact h0)
  obtain ⟨la, lc⟩ := sl
  dsimp only at hla hlc hlm
  subst hla
  dsimp only at HPL
  have HF := Lib.hid hF; have HK := Lib.hid hk; have HL := Lib.hid hl; have HM := Lib.hid hm
  have hng := hk.ng
  clear hF hk hl hm
  go_enter Tryd.func52, Tryd.ntmps52
  go_wp2_with (fail)
  (with_reducible refine (HPL.out _ (below_alloc' _ _)).mono ?_)
  rintro e w1 ⟨⟨⟨pa, pc⟩, rfl, hp⟩, hb1⟩
  have hB1 : Below w.heap.size w w1 := (below_alloc' _ _).trans (hb1.mono (by simp))
  have xf : w1.heap[w.heap.size]? = some (Obj.cells #[.int .i64 F.high, .int .i64 F.space, .slice (some ⟨gb, goff, none⟩) F.glyphs.length gc, .slice ks.a F.kerns.length ks.cap] 25) := below_blk hb1 (blk_new _ _) (by simp)
  have hpc := hp.le; have hpm := hp.max
  rw [places_len] at hpc
  obtain ⟨pb, poff, hpa, -⟩ := int_cell hp (i := 0) (by rw [places_len]; exact h0)
  dsimp only at hpa hpc hpm
  subst hpa
  have HXF := Lib.hid xf; have HB1 := Lib.hid hB1; have HP := Lib.hid hp
  clear xf hB1 hp hb1
  go_wp2_with (fail)
  go_loopw [5, 7] (fun v i wr => ∃ k : Nat, i = .int .i64 (k : Int) ∧ k ≤ l.length ∧ v = .int .i64 (widS F l k) ∧ Ext2 w1 wr) (fun _ i _ => l.length - (intOf i).toNat)
  case atStart => exact ⟨0, rfl, Nat.zero_le _, rfl, Below.refl _ _⟩
  case round =>
    obtain ⟨k, rfl, hk, rfl, hEr⟩ := hrel
    have HEr := Lib.hid hEr
    have hBr := below_ext HB1.out hEr
    by_cases hlt : k < l.length
    · go_light
      have r0 : (0 : Int) ≤ (k : Int) := by omega
      have r1 : (k : Int) < (l.length : Int) := by omega
      have w3' : IntKind.i64.wrap ((k : Int) + 1) = (k : Int) + 1 := IntWalk.i64_in _ (by omega)
      obtain ⟨_, _, h1, p0⟩ := int_cell (RowS.below HP.out hEr) (i := k) (by rw [places_len]; exact hlt)
      obtain ⟨rfl, rfl⟩ : pb = _ ∧ poff = _ := by simpa using h1
      rw [places_at F l hlt] at p0
      obtain ⟨_, _, h2, ck⟩ := int_cell (HL.out.below hBr) (i := k) (by rw [ints_len]; exact hlt)
      obtain ⟨rfl, rfl⟩ : lb = _ ∧ loff = _ := by simpa using h2
      rw [show intD (l.map Int.ofNat) k = ((l.getD k 0 : Nat) : Int) by simp [intD, List.getD_eq_getElem?_getD, hlt]] at ck
      have hjF := getD_mem HM.out hlt
      have hwr := wd_rng HK.out hjF
      have hpr := posS_rng HK.out HM.out k hlt
      have hws := widS_rng HK.out HM.out k hk
      have hst : widS F l (k + 1) = max (widS F l k) (posS F l k + wd F (l.getD k 0)) := rfl
      obtain ⟨_, _, h3, -, g1, -⟩ := gl_cells (HF.out.below hBr).gls.gl hjF
      obtain ⟨rfl, rfl⟩ : gb = _ ∧ goff = _ := by simpa using h3
      have e1 : (glD F.glyphs (l.getD k 0)).wide = wd F (l.getD k 0) := rfl
      rw [e1] at g1
      obtain ⟨gk, hgk⟩ : ∃ x, x = l.getD k 0 := ⟨_, rfl⟩
      rw [← hgk] at ck hjF hwr g1 hst
      obtain ⟨pk, hpk⟩ : ∃ x, x = posS F l k := ⟨_, rfl⟩
      obtain ⟨wk, hwk⟩ : ∃ x, x = wd F gk := ⟨_, rfl⟩
      obtain ⟨mk, hmk⟩ : ∃ x, x = widS F l k := ⟨_, rfl⟩
      rw [← hpk] at p0 hpr hst
      rw [← hwk] at g1 hwr hst
      rw [← hmk] at hws hst ⊢
      have HST := Lib.hid hst
      have s2 : IntKind.i64.wrap (pk + wk) = pk + wk := IntWalk.i64_in _ (by omega)
      have t3 : (0 : Int) ≤ (gk : Int) := by omega
      have t4 : (gk : Int) < (F.glyphs.length : Int) := by omega
      have xf := Ext2.blk hEr HXF.out
      clear h1 h2 h3 hst hgk hpk hwk hmk e1 hwr hpr hws hEr
      have qFc := cell_blk xf
      have qFf := frz_blk xf
      go_wp2_with (fail)
      refine region_ev [] [0, 1, 2, 3, 4, 5, 6, 7, 8, 9, 10, 11, 12, 13, 14, 15, 16] [] [] (by kernel_rfl) (by kernel_rfl) (by intro c a d v w h; cases d <;> exact h) ?_
      simp only [picks, List.drop_succ_cons, List.drop_zero]
      repeat (refine wpQ0_step (fun K hK => ?_); go_simp; (refine hK _ ?_; clear hK K))
      refine wpQ0_nil ?_
      repeat ((with_reducible refine wpQ2_step (fun K hK => ?_)); go_simp; first | ((with_reducible refine hK _ ?_); clear hK K) | (apply Exists.intro; refine ⟨fun x => ?_, hK _ ?_⟩; (fail); clear hK K))
      refine wpQ2_nil ?_
      refine Events.none_ fun w3 hg3 => ?_
      simp only [picks, List.drop_succ_cons, List.drop_zero]
      have hE3 := ext_trans HEr.out hg3
      clear qFc qFf xf ck p0 g1 hg3
      go_wp2_with (fail)
      go_roundw
      case rel => exact ⟨k + 1, by go_num, hlt, by rw [HST.out], hE3⟩
      case measure => simp [intOf]; omega
    · obtain rfl : k = l.length := by omega
      have r1 : ¬ (l.length : Int) < (l.length : Int) := by omega
      clear hlt hEr
      go_wp2_with (fail)
      go_ret
      exact ⟨ret_int rfl, hBr⟩
set_option maxRecDepth 100000 in
set_option maxHeartbeats 2000000 in
theorem setApiR_any {F : Font} {s : FSl} {t : ByteArray} {w : World} (hF : FontAt w F s) (ht : t.size ≤ maxLen) : Calls Tryd.prog 18 #[.agg #[.int .i64 F.high, .int .i64 F.space, .slice s.g.a F.glyphs.length s.g.cap, .slice s.k.a F.kerns.length s.k.cap], .string t] w (SetPost w F t) := by
  obtain ⟨p1, p2, p3, hp⟩ : ∃ a b c, checkF F = (a, b, c) := ⟨_, _, _, rfl⟩
  have HC : Hid (∀ W, Below w.heap.size w W → Calls Tryd.prog 24 #[.agg #[.int .i64 F.high, .int .i64 F.space, .slice s.g.a F.glyphs.length s.g.cap, .slice s.k.a F.kerns.length s.k.cap]] W fun e w' => e = .returned (.tuple #[.int .i64 p1, .int .i64 p2, .int .i64 p3]) ∧ Below W.heap.size W w') := Lib.hid fun W hW => by
    have h := checkR_any (hF.below hW); rw [hp] at h; exact h
  have hse : setE F t = if p3 ≠ 0 then p3 else if lettersS t 24 = false then 6 else if (setS F t.data.toList).isNone then 200 else 0 := by unfold setE; rw [hp]
  have hfo : p3 = 0 → FontOk F := fun h => font_ok (by rw [hp]; exact h)
  have HSE := Lib.hid hse; have HFO := Lib.hid hfo; have HF := Lib.hid hF
  clear hF hse hfo hp
  go_enter Tryd.func18, Tryd.ntmps18
  go_wp2_with (fail)
  (with_reducible refine (HC.out _ ?_).mono ?_)
  · repeat' (first | exact Below.refl _ _ | assumption | refine below_drewN ?_ _ | refine Below.drew ?_ | refine Below.alloc ?_ (by first | assumption | omega | (simp <;> omega)) _ | refine Below.setCell ?_ (by first | assumption | omega | (simp <;> omega)) _ | refine Ext2.on (by assumption) ?_)
  rintro e w1 ⟨rfl, hb1⟩
  have hB1 : Below w.heap.size w w1 := Below.trans (by repeat' (first | exact Below.refl _ _ | assumption | refine below_drewN ?_ _ | refine Below.drew ?_ | refine Below.alloc ?_ (by first | assumption | omega | (simp <;> omega)) _ | refine Below.setCell ?_ (by first | assumption | omega | (simp <;> omega)) _ | refine Ext2.on (by assumption) ?_)) (hb1.mono (by simp))
  have x2 : w1.heap[w.heap.size]? = some (Obj.cells #[.int .i64 F.high, .int .i64 F.space, .slice s.g.a F.glyphs.length s.g.cap, .slice s.k.a F.kerns.length s.k.cap] 25) := below_blk hb1 (by repeat' (first | (with_reducible assumption) | (with_reducible refine blk_set_ne ?_ ?_) | (with_reducible exact blk_new _ _) | (with_reducible refine blk_new' _ _ (by first | (with_reducible rfl) | (simp; done) | (simp <;> omega))) | (with_reducible refine blk_alloc ?_ _) | (with_reducible refine blk_drew ?_) | (with_reducible refine blk_drewN ?_ _) | (with_reducible refine Ext2.blk (by assumption) ?_) | omega | (simp <;> omega) | exact blk_set (by assumption) _ _)) (by simp)
  have HB1 := Lib.hid hB1
  clear hb1 hB1
  have q2c := cell_blk x2
  have q2f := frz_blk x2
  by_cases h0 : p3 = 0
  · subst h0
    have hk := HFO.out rfl
    have HK := Lib.hid hk
    obtain ⟨v, hv⟩ : ∃ v, v = lettersS t 24 := ⟨_, rfl⟩
    have HV := Lib.hid hv
    have HLT : Hid (∀ W, Calls Tryd.prog 50 #[.string t, .int .i64 24] W fun e w' => e = .returned (.bool v) ∧ W = w') := Lib.hid fun W => by rw [hv]; exact letters_any t 24 W ht
    clear hk hv
    cases v
    case false =>
      go_wp2_with (go_at_call 50; (with_reducible refine (HLT.out _).mono ?_); rintro e w' ⟨rfl, rfl⟩)
      refine bodyPost_ret (v := .tuple #[.slice none 0 0, .int .i64 0, .int .i64 6]) ?_ rfl (setPost_no (by rw [HSE.out, ← HV.out]; rfl) (by decide) HB1.out)
      simp [results, Tryd.results18, go_sem]
    case true =>
      have hsz : 1 ≤ t.size ∧ t.size ≤ 24 := by
        have h := HV.out.symm
        unfold lettersS at h
        rw [Bool.and_eq_true] at h
        have h2 := of_decide_eq_true h.2
        omega
      have HS : Hid (∀ W, Below w.heap.size w W → Calls Tryd.prog 51 #[.agg #[.int .i64 F.high, .int .i64 F.space, .slice s.g.a F.glyphs.length s.g.cap, .slice s.k.a F.kerns.length s.k.cap], .string t] W fun e w' => (∃ v, e = .returned (.tuple #[v, .bool (setS F t.data.toList).isSome]) ∧ RV w' (setS F t.data.toList) v) ∧ Below W.heap.size W w') := Lib.hid fun W hW => setR_any (HF.out.below hW) HK.out hsz.2
      go_wp2_with (go_at_call 50; (with_reducible refine (HLT.out _).mono ?_); rintro e w' ⟨rfl, rfl⟩)
      (with_reducible refine (HS.out _ HB1.out).mono ?_)
      rintro e w3 ⟨⟨v, rfl, hrv⟩, hb3⟩
      have hB3 := below_ext HB1.out hb3
      have x2 := Ext2.blk hb3 x2
      clear q2c q2f
      have q2c := cell_blk x2
      have q2f := frz_blk x2
      have hne : t.data.toList ≠ [] := fun h => by
        have h1 : t.data.toList.length = t.size := Array.length_toList
        rw [h] at h1; simp at h1; omega
      cases hs : setS F t.data.toList with
      | none =>
        rw [hs] at hrv
        have HSN := Lib.hid hs
        obtain ⟨va, vc, rfl⟩ := hrv.val
        clear hs hrv hb3
        go_wp2_with (fail)
        refine bodyPost_ret (v := .tuple #[.slice none 0 0, .int .i64 0, .int .i64 200]) ?_ rfl (setPost_no (by rw [HSE.out, ← HV.out, HSN.out]; rfl) (by decide) hB3)
        simp [results, Tryd.results18, go_sem]
      | some l =>
        rw [hs] at hrv
        have hl0 := setS_ne hne hs
        have hlp : 0 < l.length := List.length_pos_iff.2 hl0
        have hl24 := setS_len F _ _ (Nat.le_refl _) l hs
        have hsl : t.data.toList.length = t.size := Array.length_toList
        have hmem := setS_mem F _ _ (Nat.le_refl _) l hs
        rcases hrv with ⟨-, h1⟩ | ⟨b, off, cap, rfl, hi⟩
        · exact absurd h1 hl0
        · have hi : IntsT w3 ⟨some ⟨b, off, none⟩, cap⟩ (l.map Int.ofNat) := hi
          have HI := Lib.hid hi
          have HWD := Lib.hid (widthR_any (HF.out.below hB3) HK.out hi.1 hmem (by omega) hlp)
          have HSN := Lib.hid hs; have HB3 := Lib.hid hB3
          clear hs hb3 hmem hl0 hi hB3
          go_wp2_with (fail)
          refine HWD.out.mono ?_
          rintro e w4 ⟨rfl, hb4⟩
          have hB4 := below_ext HB3.out hb4
          have hi4 := HI.out.below hb4
          clear hb4 q2c q2f x2
          go_wp2_with (fail)
          have he : setE F t = 0 := by rw [HSE.out, ← HV.out, HSN.out]; rfl
          refine bodyPost_ret (v := .tuple #[.slice (some ⟨b, off, none⟩) l.length cap, .int .i64 (widS F l l.length), .int .i64 0]) ?_ rfl ⟨⟨_, _, by rw [he], ?_⟩, hB4⟩
          · simp [results, Tryd.results18, go_sem]
          · unfold SetVal
            rw [if_pos he]
            exact ⟨l, HSN.out, rfl, ⟨some ⟨b, off, none⟩, cap⟩, rfl, hi4⟩
  · have hp3 : (p3 == 0) = false := beq_eq_false_iff_ne.2 h0
    have hp4 : (p3 != 0) = true := by simp [h0]
    have H0 := Lib.hid h0
    clear h0
    go_wp2_with (fail)
    refine bodyPost_ret (v := .tuple #[.slice none 0 0, .int .i64 0, .int .i64 p3]) ?_ rfl (setPost_no (by rw [HSE.out, if_pos H0.out]) H0.out HB1.out)
    simp [results, Tryd.results18, go_sem]
end Go.Proofs.YtahgbecfaihfpaaDoor
