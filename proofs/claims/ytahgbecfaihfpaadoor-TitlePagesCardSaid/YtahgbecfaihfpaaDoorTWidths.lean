/-
  law.widths.
-/
import Derived.Test.YtahgbecfaihfpaaDoorTWordsL
namespace Go.Proofs.YtahgbecfaihfpaaDoor
open Go.RowKit D
set_option linter.unusedVariables false
set_option linter.unusedSimpArgs false
attribute [local go_sem high] run_minI run_maxI
attribute [local go_sem] upon2 cls_cell cls_frozen forall_const exists_eq_left'
attribute [local go_sem] FirstUpon
def widL (F : Font) (P : List ByteArray) : List Int := P.map (wW F)
theorem widL_len (F : Font) (P : List ByteArray) : (widL F P).length = P.length := List.length_map ..
theorem widL_at (F : Font) (P : List ByteArray) {i : Nat} (h : i < P.length) : intD (widL F P) i = wW F (strD P i) := by
  simp [intD, widL, strD, List.getD_eq_getElem?_getD, h]
/-- A word of a text that is accepted can be set. -/
theorem setE_ok {F : Font} {R : Rul} {t : ByteArray} (h : openE F R t = 0) {i : Nat} (hi : i < (partsS t).length) : setE F (strD (partsS t) i) = 0 := by
  obtain ⟨-, -, htx⟩ := open_ok h
  have h1 : checkRul F R = 0 := by unfold openE at h; split at h <;> omega
  have h2 : (checkF F).2.2 = 0 := by
    by_cases h3 : (checkF F).2.2 = 0
    · exact h3
    · unfold checkRul at h1
      rw [if_pos h3] at h1
      exact h1
  have h3 := htx.odd i hi
  have h4 := htx.size i hi
  have h5 : lettersS (strD (partsS t) i) 24 = true := by
    unfold oddS at h3
    rw [Bool.or_eq_false_iff] at h3
    have h6 := of_decide_eq_false h3.2
    unfold lettersS
    rw [Bool.and_eq_true]
    exact ⟨by cases h : okS (strD (partsS t) i) <;> simp_all, decide_eq_true (by omega)⟩
  have h6 := htx.set i hi
  unfold setE
  rw [if_neg (not_not_intro h2), if_neg (by rw [h5]; simp), if_neg (by cases hs : setS F (strD (partsS t) i).data.toList <;> simp_all)]
set_option maxRecDepth 100000 in
set_option maxHeartbeats 2000000 in
theorem widthsL_any {F : Font} {s : FSl} {P : List ByteArray} {sl : Sl} {w : World} (hF : FontAt w F s) (hw : ∀ i, i < P.length → setE F (strD P i) = 0) (hl : StrsS w sl P) (hn : P.length ≤ 40) : Calls Tryd.prog 27 #[.agg #[.int .i64 F.high, .int .i64 F.space, .slice s.g.a F.glyphs.length s.g.cap, .slice s.k.a F.kerns.length s.k.cap], .slice sl.a P.length sl.cap] w fun e w' => (∃ s' : Sl, e = .returned (.tuple #[.slice s'.a P.length s'.cap, .bool true]) ∧ IntsS w' s' (widL F P)) ∧ Below w.heap.size w w' := by
  rcases Nat.eq_zero_or_pos P.length with h00 | h00
  case inl =>
    have hle := hl.le; have hmx := hl.max
    have r1 : ¬ (0 : Int) < (P.length : Int) := by omega
    have HL0 := Lib.hid h00
    clear hF hw hl hn h00
    go_enter Tryd.func27, Tryd.ntmps27
    go_wp2_with (fail)
    go_loopw [6, 7] (fun v i wr => v = .slice none 0 0 ∧ i = .int .i64 0 ∧ Below w.heap.size w wr) (fun _ _ _ => 0)
    case atStart => exact ⟨rfl, rfl, by repeat' (first | exact Below.refl _ _ | assumption | refine below_drewN ?_ _ | refine Below.drew ?_ | refine Below.alloc ?_ (by first | assumption | omega | (simp <;> omega)) _ | refine Below.setCell ?_ (by first | assumption | omega | (simp <;> omega)) _ | refine Ext2.on (by assumption) ?_)⟩
    case round =>
      obtain ⟨rfl, rfl, hB⟩ := hrel
      go_wp2_with (fail)
      refine bodyPost_ret (v := .tuple #[.slice none 0 0, .bool true]) ?_ rfl ⟨⟨⟨none, 0⟩, by rw [HL0.out], ?_⟩, hB⟩
      · simp [results, Tryd.results27, go_sem]
      · unfold IntsS; rw [widL_len, HL0.out]; exact ⟨Nat.le_refl _, by simp, fun i j hi => absurd hi (Nat.not_lt_zero i)⟩
  case inr =>
    have hlc := hl.le; have hlm := hl.max
    obtain ⟨lb, loff, hla, -⟩ := str_cell hl h00
    obtain ⟨la, lc⟩ := sl
    dsimp only at hla hlc hlm
    subst hla
    have HF := Lib.hid hF; have HL := Lib.hid hl; have HW := Lib.hid hw
    clear hF hl hw
    go_enter Tryd.func27, Tryd.ntmps27
    go_wp2_with (fail)
    refine wp_name ?_
    intro w1 h1
    have xf : w1.heap[w.heap.size]? = some (Obj.cells #[.int .i64 F.high, .int .i64 F.space, .slice s.g.a F.glyphs.length s.g.cap, .slice s.k.a F.kerns.length s.k.cap] 25) := by rw [h1]; exact blk_new _ _
    have hB1 : Below w.heap.size w w1 := by rw [h1]; exact below_alloc' _ _
    have HXF := Lib.hid xf; have HB1 := Lib.hid hB1
    clear h1 xf hB1
    go_loopw [6, 7] (fun v i wr => ∃ k : Nat, i = .int .i64 (k : Int) ∧ k ≤ P.length ∧ OwnR wr w1.heap.size 3 1 v k (fun i _ => .int .i64 (wW F (strD P i))) ∧ Ext2 w1 wr) (fun _ i _ => P.length - (intOf i).toNat)
    case atStart => exact ⟨0, rfl, Nat.zero_le _, own_nil _ _ _ _ _, Below.refl _ _⟩
    case round =>
      obtain ⟨k, rfl, hk, hO, hEr⟩ := hrel
      have HO := Lib.hid hO; have HEr := Lib.hid hEr
      have hsz := hEr.size
      have hBr := below_ext HB1.out hEr
      clear hO
      by_cases hlt : k < P.length
      · go_light
        have r0 : (0 : Int) ≤ (k : Int) := by omega
        have r1 : (k : Int) < (P.length : Int) := by omega
        have w3' : IntKind.i64.wrap ((k : Int) + 1) = (k : Int) + 1 := IntWalk.i64_in _ (by omega)
        obtain ⟨_, _, h1, c0⟩ := str_cell (HL.out.below hBr) hlt
        obtain ⟨rfl, rfl⟩ : lb = _ ∧ loff = _ := by simpa using h1
        obtain ⟨p, hp⟩ : ∃ p, p = strD P k := ⟨_, rfl⟩
        rw [← hp] at c0
        have HPK := Lib.hid hp
        have xf := Ext2.blk hEr HXF.out
        clear h1 hp hEr
        have qFc := cell_blk xf
        have qFf := frz_blk xf
        go_wp2_with (fail)
        have HSC : Hid (∀ W, Ext2 wr W → Calls Tryd.prog 17 #[.agg #[.int .i64 F.high, .int .i64 F.space, .slice s.g.a F.glyphs.length s.g.cap, .slice s.k.a F.kerns.length s.k.cap], .string p] W (SetPost W F p)) := Lib.hid fun W hW => setApi_any (HF.out.below (below_ext hBr hW))
        have hse : setE F p = 0 := by rw [HPK.out]; exact HW.out k hlt
        have HSE := Lib.hid hse
        clear hse
        refine region_st [⟨[], [0, 1, 2, 3, 4], [5]⟩, ⟨[], [6, 7, 8, 9, 10, 11, 12], []⟩] (by kernel_rfl) (by kernel_rfl) (by intro c a d v w h; cases d <;> exact h) ?_
        refine wpSt_cons ?_
        simp only [picks, List.drop_succ_cons, List.drop_zero]
        repeat ((with_reducible refine wpQ0_step (fun K hK => ?_)); go_simp; ((with_reducible refine hK _ ?_); clear hK K))
        refine wpQ0_nil ?_
        repeat ((with_reducible refine wpQ2_step (fun K hK => ?_)); go_simp; first | ((with_reducible refine hK _ ?_); clear hK K) | (apply Exists.intro; refine ⟨fun x => ?_, hK _ ?_⟩; (fail); clear hK K))
        refine wpQ2_nil ?_
        intro w3 hw3
        refine wpTl_cons ?_
        go_wp2_with (fail)
        refine (HSC.out _ hw3).mono ?_
        rintro e w4 ⟨⟨gv, wd, rfl, hv⟩, hb4⟩
        unfold SetVal at hv
        rw [HSE.out] at hv ⊢
        rw [if_pos rfl] at hv
        obtain ⟨l, hl, hwd, gs, rfl, -⟩ := hv
        have hwp : wd = wW F p := by rw [hwd]; unfold wW gL; rw [hl]; rfl
        subst hwp
        obtain ⟨wd, hwd2⟩ : ∃ x, x = wW F p := ⟨_, rfl⟩
        rw [← hwd2]
        have HWD := Lib.hid hwd2
        have HR4 := Lib.hid (ext_trans hw3 hb4)
        clear hl hwd2 hw3 hb4
        clear hwd
        go_wp2_with (fail)
        refine wpTl_nil ?_
        refine wpSt_name ?_
        intro w5 hw5
        refine wpSt_cons ?_
        simp only [picks, List.drop_succ_cons, List.drop_zero]
        repeat ((with_reducible refine wpQ0_step (fun K hK => ?_)); go_simp; ((with_reducible refine hK _ ?_); clear hK K))
        refine wpQ0_nil ?_
        repeat ((with_reducible refine wpQ2_step (fun K hK => ?_)); go_simp; first | ((with_reducible refine hK _ ?_); clear hK K) | (apply Exists.intro; refine ⟨fun x => ?_, hK _ ?_⟩; (fail); clear hK K))
        refine wpQ2_nil ?_
        intro w6 hw6
        refine wpTl_nil ?_
        refine wpSt_nil ?_
        subst hw5
        have hR6 := ext_trans HR4.out hw6
        have HR6 := Lib.hid hR6
        have HE6 := Lib.hid (ext_trans HEr.out hR6)
        have HB6 := Lib.hid (below_ext hBr hR6)
        have hsz6 := hR6.size
        clear hw6 hR6 hBr
        go_wp2_with (at_builtin; refine app_one [.int .i64 wd] elInt rfl _ _ rfl w1.heap.size rfl ((HO.out.below HR6.out).below (below_alloc' _ _)) w6.heap.size 1 rfl (blk_new _ _) (by simp [Value.oneCell']) (by omega) (by simp; omega) ?_; intro v' w7 hO7 hg7)
        have hE7 : Ext2 w1 w7 := app_below (HE6.out.alloc (by omega) _) ((HO.out.below HR6.out).below (below_alloc' _ _)) (Nat.le_refl _) (by simp; omega) hg7
        have hO7' : OwnR w7 w1.heap.size 3 1 v' (k + 1) (fun i _ => .int .i64 (wW F (strD P i))) := hO7.congr fun i j hi hj => by
          by_cases hik : i = k
          · subst hik
            obtain rfl : j = 0 := by have : j < 1 := hj; omega
            rw [upd_at, ← HPK.out, ← HWD.out]; rfl
          · rw [upd_lt (by omega)]
        have HO7 := Lib.hid hO7'
        clear hO7 hg7 hO7'
        go_roundw
        case rel => exact ⟨k + 1, by go_num, hlt, HO7.out, hE7⟩
        case measure => simp [intOf]; omega
      · obtain rfl : k = P.length := by omega
        have r1 : ¬ (P.length : Int) < (P.length : Int) := by omega
        obtain ⟨⟨a', cp⟩, rfl, hro⟩ := HO.out.sl
        have HRO := Lib.hid hro
        clear hlt hro hEr
        go_wp2_with (fail)
        refine bodyPost_ret (v := .tuple #[.slice a' P.length cp, .bool true]) ?_ rfl ⟨⟨⟨a', cp⟩, rfl, ?_⟩, hBr⟩
        · simp [results, Tryd.results27, go_sem]
        · unfold IntsS
          rw [widL_len]
          refine ⟨HRO.out.le, HRO.out.max, fun i j hi hj => ?_⟩
          obtain ⟨b, off, h1, h2⟩ := HRO.out.cell i j hi hj
          exact ⟨b, off, h1, h2.trans (by simp only [intC]; rw [widL_at F P hi])⟩
end Go.Proofs.YtahgbecfaihfpaaDoor
