/-
  ref.glyph, ref.kern, ref.Check.
-/
import Derived.Test.YtahgbecfaihfpaaDoorTFont
import Derived.Test.YtahgbecfaihfpaaDoorDRegX
import Derived.Test.YtahgbecfaihfpaaDoorDMem
import Derived.Deep.Light
namespace Go.Proofs.YtahgbecfaihfpaaDoor
open Go.RowKit D
set_option linter.unusedVariables false
set_option linter.unusedSimpArgs false
attribute [local go_sem high] run_minI run_maxI
attribute [local go_sem] upon2 cls_cell cls_frozen forall_const exists_eq_left'
attribute [local go_sem] FirstUpon
theorem hid_ext {w w1 : World} {P : World → Prop} (H : Hid (∀ W, Below w.heap.size w W → P W)) (hB : Below w.heap.size w w1) : Hid (∀ W, Ext2 w1 W → P W) := Lib.hid fun W hW => H.out W (hB.trans (Below.mono hW hB.size))
theorem hid_ext2 {w w1 : World} {P : World → Prop} (H : Hid (∀ W, Ext2 w W → P W)) (hE : Ext2 w w1) : Hid (∀ W, Ext2 w1 W → P W) := Lib.hid fun W hW => H.out W (hE.trans (Below.mono hW hE.size))
theorem ext_trans {w w1 w2 : World} (h : Ext2 w w1) (g : Ext2 w1 w2) : Ext2 w w2 := h.trans (Below.mono g h.size)
theorem below_ext {w w1 w2 : World} (h : Below w.heap.size w w1) (g : Ext2 w1 w2) : Below w.heap.size w w2 := h.trans (Below.mono g h.size)
theorem shl_one {d : Int} (h : 1 ≤ d ∧ d ≤ 12) : IntKind.i64.wrap (2 ^ min (IntKind.u64.wrap d).toNat 64) = 2 ^ d.toNat ∧ (2 : Int) ≤ 2 ^ d.toNat ∧ (2 : Int) ^ d.toNat ≤ 4096 := by
  have e : d = 1 ∨ d = 2 ∨ d = 3 ∨ d = 4 ∨ d = 5 ∨ d = 6 ∨ d = 7 ∨ d = 8 ∨ d = 9 ∨ d = 10 ∨ d = 11 ∨ d = 12 := by omega
  rcases e with rfl | rfl | rfl | rfl | rfl | rfl | rfl | rfl | rfl | rfl | rfl | rfl <;> decide
theorem in_b (n lo hi : Int) (W : World) : Calls Tryd.prog 59 #[.int .i64 n, .int .i64 lo, .int .i64 hi] W fun e w' => e = .returned (.bool (inB n lo hi)) ∧ Below W.heap.size W w' := (in_any n lo hi W).mono fun e w' ⟨he, hw⟩ => ⟨he, by rw [← hw]; exact Below.refl _ _⟩
theorem out_b (n lo hi : Int) (W : World) : Calls Tryd.prog 55 #[.int .i64 n, .int .i64 lo, .int .i64 hi] W fun e w' => e = .returned (.bool (outB n lo hi)) ∧ Below W.heap.size W w' := (out_any n lo hi W).mono fun e w' ⟨he, hw⟩ => ⟨he, by rw [← hw]; exact Below.refl _ _⟩
set_option maxRecDepth 100000 in
set_option maxHeartbeats 2000000 in
theorem glyphR_any {F : Font} {s : FSl} {i : Nat} {w : World} (hF : FontAt w F s) (hi : i < F.glyphs.length) (hn : F.glyphs.length ≤ 60) (hh : 1 ≤ F.high ∧ F.high ≤ 16) :
    Calls Tryd.prog 60 #[.agg #[.int .i64 F.high, .int .i64 F.space, .slice s.g.a F.glyphs.length s.g.cap, .slice s.k.a F.kerns.length s.k.cap], .int .i64 (i : Int)] w fun e w' => e = .returned (.int .i64 (glE F i)) ∧ Below w.heap.size w w' := by
  have HF := Lib.hid hF
  obtain ⟨gb, goff, hga, g0, g1, g2⟩ := gl_cells hF.gls.gl hi
  have hsz := hF.gls.size i hi
  have hrow := hF.gls.rows i hi
  have hcap := hF.gls.gl.le
  have hmax := hF.gls.gl.max
  obtain ⟨⟨ga, gc⟩, rs, ks⟩ := s
  dsimp only at hga hcap hmax g2 hrow
  subst hga
  obtain ⟨x, hx⟩ : ∃ x, x = glD F.glyphs i := ⟨_, rfl⟩
  rw [← hx] at g0 g1 g2 hsz hrow
  obtain ⟨⟨ra, rc⟩, hr⟩ : ∃ r, r = rs i := ⟨_, rfl⟩
  rw [← hr] at g2 hrow
  have hrl := hrow.le
  have hrm := hrow.max
  dsimp only at hrl hrm
  obtain ⟨E, hE⟩ : ∃ E, E = glE F i := ⟨_, rfl⟩
  have hE' := hE
  unfold glE at hE'
  rw [← hx] at hE'
  rw [← hE]
  have hgb := cell_lt g0
  dsimp only at hgb
  have HX := Lib.hid hx; have HR := Lib.hid hrow; have HE := Lib.hid hE'; have HS := Lib.hid hsz
  have p0 : (0 : Int) ≤ (i : Int) := by omega
  have p1 : (i : Int) < (F.glyphs.length : Int) := by omega
  clear hF hx hE hE' hrow hr hsz
  go_enter Tryd.func60, Tryd.ntmps60
  go_wp2_with (fail)
  refine calls_name ?_
  intro w1 h1
  have x2 : w1.heap[w.heap.size]? = some (Obj.cells #[.int .i64 F.high, .int .i64 F.space, .slice (some ⟨gb, goff, none⟩) F.glyphs.length gc, .slice ks.a F.kerns.length ks.cap] 25) := by rw [h1]; repeat' (first | (with_reducible assumption) | (with_reducible refine blk_set_ne ?_ ?_) | (with_reducible exact blk_new _ _) | (with_reducible refine blk_new' _ _ (by first | (with_reducible rfl) | (simp; done) | (simp <;> omega))) | (with_reducible refine blk_alloc ?_ _) | (with_reducible refine blk_drew ?_) | (with_reducible refine blk_drewN ?_ _) | (with_reducible refine Ext2.blk (by assumption) ?_) | omega | (simp <;> omega) | exact blk_set (by assumption) _ _)
  have x5 : w1.heap[w.heap.size + 1]? = some (Obj.cells #[.string x.text, .int .i64 x.wide, .slice ra x.rows.length rc] 41) := by rw [h1]; repeat' (first | (with_reducible assumption) | (with_reducible refine blk_set_ne ?_ ?_) | (with_reducible exact blk_new _ _) | (with_reducible refine blk_new' _ _ (by first | (with_reducible rfl) | (simp; done) | (simp <;> omega))) | (with_reducible refine blk_alloc ?_ _) | (with_reducible refine blk_drew ?_) | (with_reducible refine blk_drewN ?_ _) | (with_reducible refine Ext2.blk (by assumption) ?_) | omega | (simp <;> omega) | exact blk_set (by assumption) _ _)
  have hB1 : Below w.heap.size w w1 := by rw [h1]; repeat' (first | exact Below.refl _ _ | assumption | refine below_drewN ?_ _ | refine Below.drew ?_ | refine Below.alloc ?_ (by first | assumption | omega | (simp <;> omega)) _ | refine Below.setCell ?_ (by first | assumption | omega | (simp <;> omega)) _ | refine Ext2.on (by assumption) ?_)
  have HX2 := Lib.hid x2; have HX5 := Lib.hid x5
  clear h1 g0 g1 g2
  (with_reducible refine (letters_any _ _ _ HS.out).mono ?_)
  rintro e w' ⟨rfl, rfl⟩
  obtain ⟨v, hv⟩ : ∃ v, v = lettersS x.text 3 := ⟨_, rfl⟩
  rw [← hv]
  have HV := Lib.hid hv
  clear hv
  have q2c := cell_blk x2
  have q2f := frz_blk x2
  have q5c := cell_blk x5
  have q5f := frz_blk x5
  cases v
  case false =>
    go_wp2_with (fail)
    go_ret
    exact ⟨ret_int (by rw [HE.out, ← HV.out]; rfl), hB1⟩
  case true =>
    go_wp2_with (fail)
    clear q2c q2f q5c q5f x2 x5
    go_loopw [6] (fun p wr => ∃ k : Nat, p = .int .i64 (k : Int) ∧ k ≤ i ∧ Ext2 w1 wr ∧ ∀ j, j < k → sameS (glD F.glyphs j).text (glD F.glyphs i).text = false) (fun p _ => i - (intOf p).toNat)
    case atStart => exact ⟨0, rfl, by omega, Below.refl _ _, fun j hj => absurd hj (Nat.not_lt_zero j)⟩
    case round =>
      obtain ⟨k, rfl, hk, hEr, hall⟩ := hrel
      have HALL := Lib.hid hall
      clear hall
      have hBr := below_ext hB1 hEr
      have x2 := Ext2.blk hEr HX2.out
      have x5 := Ext2.blk hEr HX5.out
      by_cases hlt : k < i
      · go_light
        obtain ⟨_, _, h1, c0, -, -⟩ := gl_cells (HF.out.below hBr).gls.gl (i := k) (by omega)
        obtain ⟨rfl, rfl⟩ : gb = _ ∧ goff = _ := by simpa using h1
        obtain ⟨t, ht⟩ : ∃ t, t = (glD F.glyphs k).text := ⟨_, rfl⟩
        rw [← ht] at c0
        have r0 : (0 : Int) ≤ (k : Int) := by omega
        have r1 : (k : Int) < (F.glyphs.length : Int) := by omega
        have w3' : IntKind.i64.wrap ((k : Int) + 1) = (k : Int) + 1 := IntWalk.i64_in _ (by omega)
        have HT := Lib.hid ht
        clear h1 ht
        cases he : sameS t x.text
        case false =>
          have he2 : (t.toList == x.text.toList) = false := by rw [beq_list]; exact he
          have HEQ := Lib.hid he
          clear he
          go_wp2_with (fail)
          have q2c := cell_blk x2
          have q2f := frz_blk x2
          have q5c := cell_blk x5
          have q5f := frz_blk x5
          refine region_ev [] [0, 1, 2, 3, 4, 5, 6, 7, 8] [] [] (by kernel_rfl) (by kernel_rfl) (by intro c a d v w h; cases d <;> exact h) ?_
          simp only [picks, List.drop_succ_cons, List.drop_zero]
          repeat (refine wpQ0_step (fun K hK => ?_); go_simp; (refine hK _ ?_; clear hK K))
          refine wpQ0_nil ?_
          repeat ((with_reducible refine wpQ2_step (fun K hK => ?_)); go_simp; first | ((with_reducible refine hK _ ?_); clear hK K) | (apply Exists.intro; refine ⟨fun x => ?_, hK _ ?_⟩; (fail); clear hK K))
          refine wpQ2_nil ?_
          refine Events.none_ fun w3 hg3 => ?_
          simp only [picks, List.drop_succ_cons, List.drop_zero]
          have hE3 := ext_trans hEr hg3
          clear q2c q2f q5c q5f c0
          go_wp2_with (fail)
          go_roundw
          case rel =>
            refine ⟨k + 1, by go_num, by omega, hE3, fun j hj => ?_⟩
            rcases Nat.lt_or_ge j k with h | h
            · exact HALL.out j h
            · obtain rfl : j = k := by omega
              rw [← HT.out, ← HX.out]; exact HEQ.out
          case measure => simp [intOf]; omega
        case true =>
          have he2 : (t.toList == x.text.toList) = true := by rw [beq_list]; exact he
          have HEQ := Lib.hid he
          clear he
          go_wp2_with (fail)
          have q2c := cell_blk x2
          have q2f := frz_blk x2
          have q5c := cell_blk x5
          have q5f := frz_blk x5
          refine region_ev [] [0, 1, 2, 3, 4, 5, 6, 7, 8] [] [] (by kernel_rfl) (by kernel_rfl) (by intro c a d v w h; cases d <;> exact h) ?_
          simp only [picks, List.drop_succ_cons, List.drop_zero]
          repeat (refine wpQ0_step (fun K hK => ?_); go_simp; (refine hK _ ?_; clear hK K))
          refine wpQ0_nil ?_
          repeat ((with_reducible refine wpQ2_step (fun K hK => ?_)); go_simp; first | ((with_reducible refine hK _ ?_); clear hK K) | (apply Exists.intro; refine ⟨fun x => ?_, hK _ ?_⟩; (fail); clear hK K))
          refine wpQ2_nil ?_
          refine Events.none_ fun w3 hg3 => ?_
          simp only [picks, List.drop_succ_cons, List.drop_zero]
          have hB3 := below_ext hBr hg3
          clear q2c q2f q5c q5f c0
          have ht : twice F.glyphs i = true := decide_eq_true (by rw [firstN_at (k := k) HALL.out (by rw [← HT.out, ← HX.out]; exact HEQ.out) hlt]; exact hlt)
          have HTW := Lib.hid ht
          clear ht
          go_wp2_with (fail)
          go_ret
          exact ⟨ret_int (by rw [HE.out, ← HV.out, HTW.out]; rfl), hB3⟩
      · obtain rfl : k = i := by omega
        have ht : twice F.glyphs k = false := decide_eq_false (by rw [firstN_none HALL.out]; omega)
        have HTW := Lib.hid ht
        clear ht HALL hlt
        obtain ⟨v, hv⟩ : ∃ v, v = inB x.wide 1 12 := ⟨_, rfl⟩
        have HW := Lib.hid hv
        have r1 : ¬ (k : Int) < (k : Int) := by omega
        have q2c := cell_blk x2
        have q2f := frz_blk x2
        have q5c := cell_blk x5
        have q5f := frz_blk x5
        cases v
        case false =>
          have hv1 := hv.symm
          clear hv
          go_wp2_with (go_at_call 59; (with_reducible refine (in_any _ _ _ _).mono ?_); rintro e w' ⟨rfl, rfl⟩)
          go_ret
          exact ⟨ret_int (by rw [HE.out, ← HV.out, HTW.out, ← HW.out]; rfl), hBr⟩
        case true =>
          have hv1 := hv.symm
          have hwd := of_decide_eq_true hv1
          clear hv
          by_cases hlh : (x.rows.length : Int) = F.high
          · have hne : ((x.rows.length : Int) != F.high) = false := by simp [hlh]
            have HLH := Lib.hid hlh
            have hrp : 0 < x.rows.length := by omega
            clear hlh
            go_wp2_with (go_at_call 59; (with_reducible refine (in_any _ _ _ _).mono ?_); rintro e w' ⟨rfl, rfl⟩)
            obtain ⟨rb, roff, hra, -⟩ := int_cell HR.out (i := 0) hrp
            dsimp only at hra
            subst hra
            clear q2c q2f q5c q5f x2 x5
            go_loopw [7] (fun p wr' => ∃ n : Nat, p = .int .i64 (n : Int) ∧ n ≤ x.rows.length ∧ Ext2 w1 wr' ∧ ∀ j, j < n → rowBad x j = false) (fun p _ => x.rows.length - (intOf p).toNat)
            case atStart => exact ⟨0, rfl, by omega, hEr, fun j hj => absurd hj (Nat.not_lt_zero j)⟩
            case round =>
              obtain ⟨n, rfl, hnl, hEr', hall⟩ := hrel
              have HALL := Lib.hid hall
              clear hall hEr hBr
              have hBr := below_ext hB1 hEr'
              have x5 := Ext2.blk hEr' HX5.out
              by_cases hlt : n < x.rows.length
              · go_light
                obtain ⟨_, _, h1, c0⟩ := int_cell (HR.out.below hBr) (i := n) hlt
                obtain ⟨rfl, rfl⟩ : rb = _ ∧ roff = _ := by simpa using h1
                obtain ⟨r, hr⟩ : ∃ r, r = intD x.rows n := ⟨_, rfl⟩
                rw [← hr] at c0
                have r0 : (0 : Int) ≤ (n : Int) := by omega
                have r1 : (n : Int) < (x.rows.length : Int) := by omega
                have w3' : IntKind.i64.wrap ((n : Int) + 1) = (n : Int) + 1 := IntWalk.i64_in _ (by omega)
                have HR' := Lib.hid hr
                obtain ⟨X, hX⟩ : ∃ X : Int, X = 2 ^ x.wide.toNat := ⟨_, rfl⟩
                obtain ⟨s1, s2, s3⟩ := shl_one hwd
                rw [← hX] at s1 s2 s3
                have s4 : IntKind.i64.wrap (X - 1) = X - 1 := IntWalk.i64_in _ (by omega)
                obtain ⟨v, hv⟩ : ∃ v, v = inB r 0 (X - 1) := ⟨_, rfl⟩
                have hrb : rowBad x n = !v := by rw [hv, hX, hr]; rfl
                have HIN : Hid (∀ W, Calls Tryd.prog 59 #[.int .i64 r, .int .i64 0, .int .i64 (X - 1)] W fun e w' => e = .returned (.bool v) ∧ Below W.heap.size W w') := Lib.hid fun W => by rw [hv]; exact in_b _ _ _ W
                have HRB := Lib.hid hrb
                clear h1 hr hX hv hrb
                have q5c := cell_blk x5
                have q5f := frz_blk x5
                cases v
                case false =>
                  go_wp2_with (fail)
                  refine region_ev [] [0, 1, 2, 3, 4, 5, 6, 7, 8, 9, 10, 11] [] [] (by kernel_rfl) (by kernel_rfl) (by intro c a d v w h; cases d <;> exact h) ?_
                  simp only [picks, List.drop_succ_cons, List.drop_zero]
                  repeat (refine wpQ0_step (fun K hK => ?_); go_simp; (refine hK _ ?_; clear hK K))
                  refine wpQ0_nil ?_
                  repeat ((with_reducible refine wpQ2_step (fun K hK => ?_)); go_simp; first | ((with_reducible refine hK _ ?_); clear hK K) | (apply Exists.intro; refine ⟨fun x => ?_, hK _ ?_⟩; ((with_reducible exact HIN.out x.1)); clear hK K))
                  refine wpQ2_nil ?_
                  refine Events.none_ fun w3 hg3 => ?_
                  simp only [picks, List.drop_succ_cons, List.drop_zero]
                  have hB3 := below_ext hBr hg3
                  have hrs : rowsBad x = true := decide_eq_true (by rw [firstN_at (k := n) HALL.out HRB.out hlt]; exact hlt)
                  have HRS := Lib.hid hrs
                  clear hrs q5c q5f c0
                  go_wp2_with (fail)
                  go_ret
                  exact ⟨ret_int (by rw [HE.out, ← HV.out, HTW.out, ← HW.out, if_neg (not_not_intro HLH.out), HRS.out]; rfl), hB3⟩
                case true =>
                  go_wp2_with (fail)
                  refine region_ev [] [0, 1, 2, 3, 4, 5, 6, 7, 8, 9, 10, 11] [] [] (by kernel_rfl) (by kernel_rfl) (by intro c a d v w h; cases d <;> exact h) ?_
                  simp only [picks, List.drop_succ_cons, List.drop_zero]
                  repeat (refine wpQ0_step (fun K hK => ?_); go_simp; (refine hK _ ?_; clear hK K))
                  refine wpQ0_nil ?_
                  repeat ((with_reducible refine wpQ2_step (fun K hK => ?_)); go_simp; first | ((with_reducible refine hK _ ?_); clear hK K) | (apply Exists.intro; refine ⟨fun x => ?_, hK _ ?_⟩; ((with_reducible exact HIN.out x.1)); clear hK K))
                  refine wpQ2_nil ?_
                  refine Events.none_ fun w3 hg3 => ?_
                  simp only [picks, List.drop_succ_cons, List.drop_zero]
                  have hE3 := ext_trans hEr' hg3
                  clear q5c q5f c0
                  go_wp2_with (fail)
                  go_roundw
                  case rel =>
                    refine ⟨n + 1, by go_num, by omega, hE3, fun j hj => ?_⟩
                    rcases Nat.lt_or_ge j n with h | h
                    · exact HALL.out j h
                    · obtain rfl : j = n := by omega
                      exact HRB.out
                  case measure => simp [intOf]; omega
              · obtain rfl : n = x.rows.length := by omega
                have hrs : rowsBad x = false := decide_eq_false (by rw [firstN_none HALL.out]; omega)
                have HRS := Lib.hid hrs
                have r9 : ¬ (x.rows.length : Int) < (x.rows.length : Int) := by omega
                clear hrs
                have q5c := cell_blk x5
                have q5f := frz_blk x5
                go_wp2_with (fail)
                go_ret
                exact ⟨ret_int (by rw [HE.out, ← HV.out, HTW.out, ← HW.out, if_neg (not_not_intro HLH.out), HRS.out]; rfl), hBr⟩
          · have hne : ((x.rows.length : Int) != F.high) = true := by simp [hlh]
            have HLH := Lib.hid hlh
            clear hlh
            go_wp2_with (go_at_call 59; (with_reducible refine (in_any _ _ _ _).mono ?_); rintro e w' ⟨rfl, rfl⟩)
            go_ret
            exact ⟨ret_int (by rw [HE.out, ← HV.out, HTW.out, ← HW.out, if_pos HLH.out]; rfl), hBr⟩
set_option maxRecDepth 100000 in
set_option maxHeartbeats 2000000 in
theorem kernR_any {F : Font} {s : FSl} {i : Nat} {w : World} (hF : FontAt w F s) (hi : i < F.kerns.length) (hg : 1 ≤ F.glyphs.length ∧ F.glyphs.length ≤ 60) (hn : F.kerns.length ≤ 60) (hw : ∀ j, j < F.glyphs.length → 1 ≤ (glD F.glyphs j).wide ∧ (glD F.glyphs j).wide ≤ 12) :
    Calls Tryd.prog 61 #[.agg #[.int .i64 F.high, .int .i64 F.space, .slice s.g.a F.glyphs.length s.g.cap, .slice s.k.a F.kerns.length s.k.cap], .int .i64 (i : Int)] w fun e w' => e = .returned (.int .i64 (knE F i)) ∧ Below w.heap.size w w' := by
  have HF := Lib.hid hF
  obtain ⟨kb, koff, hka, g0, g1, g2⟩ := kn_cells hF.kn hi
  have hcap := hF.kn.le
  have hmax := hF.kn.max
  have hgcap := hF.gls.gl.le
  have hgmax := hF.gls.gl.max
  obtain ⟨⟨ga, gc⟩, rs, ⟨ka, kc⟩⟩ := s
  dsimp only at hka hcap hmax hgcap hgmax
  subst hka
  obtain ⟨gb, goff, hga, -⟩ := gl_cells hF.gls.gl (i := 0) (by omega)
  dsimp only at hga
  subst hga
  obtain ⟨x, hx⟩ : ∃ x, x = knD F.kerns i := ⟨_, rfl⟩
  rw [← hx] at g0 g1 g2
  obtain ⟨E, hE⟩ : ∃ E, E = knE F i := ⟨_, rfl⟩
  have hE' := hE
  unfold knE at hE'
  rw [← hx] at hE'
  rw [← hE]
  have hkb := cell_lt g0
  dsimp only at hkb
  have HX := Lib.hid hx; have HE := Lib.hid hE'; have HW := Lib.hid hw
  have p0 : (0 : Int) ≤ (i : Int) := by omega
  have p1 : (i : Int) < (F.kerns.length : Int) := by omega
  have wl : IntKind.i64.wrap ((F.glyphs.length : Int) - 1) = (F.glyphs.length : Int) - 1 := IntWalk.i64_in _ (by omega)
  obtain ⟨v1, hv1⟩ : ∃ v, v = inB x.left 0 (F.glyphs.length - 1) := ⟨_, rfl⟩
  obtain ⟨v2, hv2⟩ : ∃ v, v = inB x.right 0 (F.glyphs.length - 1) := ⟨_, rfl⟩
  have HV1 := Lib.hid hv1; have HV2 := Lib.hid hv2
  have HIN1 : Hid (∀ W, Calls Tryd.prog 59 #[.int .i64 x.left, .int .i64 0, .int .i64 ((F.glyphs.length : Int) - 1)] W fun e w' => e = .returned (.bool v1) ∧ W = w') := Lib.hid fun W => by rw [hv1]; exact in_any _ _ _ W
  have HIN2 : Hid (∀ W, Calls Tryd.prog 59 #[.int .i64 x.right, .int .i64 0, .int .i64 ((F.glyphs.length : Int) - 1)] W fun e w' => e = .returned (.bool v2) ∧ W = w') := Lib.hid fun W => by rw [hv2]; exact in_any _ _ _ W
  clear hF hx hE hE' hw hv1 hv2
  go_enter Tryd.func61, Tryd.ntmps61
  go_wp2_with (fail)
  refine calls_name ?_
  intro w1 h1
  have x2 : w1.heap[w.heap.size]? = some (Obj.cells #[.int .i64 F.high, .int .i64 F.space, .slice (some ⟨gb, goff, none⟩) F.glyphs.length gc, .slice (some ⟨kb, koff, none⟩) F.kerns.length kc] 25) := by rw [h1]; repeat' (first | (with_reducible assumption) | (with_reducible refine blk_set_ne ?_ ?_) | (with_reducible exact blk_new _ _) | (with_reducible refine blk_new' _ _ (by first | (with_reducible rfl) | (simp; done) | (simp <;> omega))) | (with_reducible refine blk_alloc ?_ _) | (with_reducible refine blk_drew ?_) | (with_reducible refine blk_drewN ?_ _) | (with_reducible refine Ext2.blk (by assumption) ?_) | omega | (simp <;> omega) | exact blk_set (by assumption) _ _)
  have x5 : w1.heap[w.heap.size + 1]? = some (Obj.cells #[.int .i64 x.left, .int .i64 x.right, .int .i64 x.by_] 62) := by rw [h1]; repeat' (first | (with_reducible assumption) | (with_reducible refine blk_set_ne ?_ ?_) | (with_reducible exact blk_new _ _) | (with_reducible refine blk_new' _ _ (by first | (with_reducible rfl) | (simp; done) | (simp <;> omega))) | (with_reducible refine blk_alloc ?_ _) | (with_reducible refine blk_drew ?_) | (with_reducible refine blk_drewN ?_ _) | (with_reducible refine Ext2.blk (by assumption) ?_) | omega | (simp <;> omega) | exact blk_set (by assumption) _ _)
  have hB1 : Below w.heap.size w w1 := by rw [h1]; repeat' (first | exact Below.refl _ _ | assumption | refine below_drewN ?_ _ | refine Below.drew ?_ | refine Below.alloc ?_ (by first | assumption | omega | (simp <;> omega)) _ | refine Below.setCell ?_ (by first | assumption | omega | (simp <;> omega)) _ | refine Ext2.on (by assumption) ?_)
  have HX2 := Lib.hid x2; have HX5 := Lib.hid x5
  clear h1 g0 g1 g2
  (with_reducible refine (HIN1.out _).mono ?_)
  rintro e w' ⟨rfl, rfl⟩
  have q2c := cell_blk x2
  have q2f := frz_blk x2
  have q5c := cell_blk x5
  have q5f := frz_blk x5
  cases v1
  case false =>
    go_wp2_with (fail)
    go_ret
    exact ⟨ret_int (by rw [HE.out, ← HV1.out]; rfl), hB1⟩
  case true =>
    go_wp2_with (fail)
    (with_reducible refine (HIN2.out _).mono ?_)
    rintro e w' ⟨rfl, rfl⟩
    cases v2
    case false =>
      go_wp2_with (fail)
      go_ret
      exact ⟨ret_int (by rw [HE.out, ← HV1.out, ← HV2.out]; rfl), hB1⟩
    case true =>
      go_wp2_with (fail)
      clear q2c q2f q5c q5f x2 x5
      go_loopw [6] (fun p wr => ∃ k : Nat, p = .int .i64 (k : Int) ∧ k ≤ i ∧ Ext2 w1 wr ∧ ∀ j, j < k → decide ((knD F.kerns j).left = (knD F.kerns i).left ∧ (knD F.kerns j).right = (knD F.kerns i).right) = false) (fun p _ => i - (intOf p).toNat)
      case atStart => exact ⟨0, rfl, by omega, Below.refl _ _, fun j hj => absurd hj (Nat.not_lt_zero j)⟩
      case round =>
        obtain ⟨k, rfl, hk, hEr, hall⟩ := hrel
        have HALL := Lib.hid hall
        clear hall
        have hBr := below_ext hB1 hEr
        have x2 := Ext2.blk hEr HX2.out
        have x5 := Ext2.blk hEr HX5.out
        by_cases hlt : k < i
        · go_light
          obtain ⟨_, _, h1, c0, c1, -⟩ := kn_cells (HF.out.below hBr).kn (i := k) (by omega)
          obtain ⟨rfl, rfl⟩ : kb = _ ∧ koff = _ := by simpa using h1
          obtain ⟨y, hy⟩ : ∃ y, y = knD F.kerns k := ⟨_, rfl⟩
          rw [← hy] at c0 c1
          have r0 : (0 : Int) ≤ (k : Int) := by omega
          have r1 : (k : Int) < (F.kerns.length : Int) := by omega
          have w3' : IntKind.i64.wrap ((k : Int) + 1) = (k : Int) + 1 := IntWalk.i64_in _ (by omega)
          have HY := Lib.hid hy
          clear h1 hy
          have q2c := cell_blk x2
          have q2f := frz_blk x2
          have q5c := cell_blk x5
          have q5f := frz_blk x5
          have hcase : ((y.left == x.left) = true ∧ (y.right == x.right) = true) ∨ (((y.left == x.left) = false ∨ ((y.left == x.left) = true ∧ (y.right == x.right) = false)) ∧ decide (y.left = x.left ∧ y.right = x.right) = false) := by
            by_cases e1 : y.left = x.left
            · by_cases e2 : y.right = x.right
              · exact .inl ⟨by simp [e1], by simp [e2]⟩
              · exact .inr ⟨.inr ⟨by simp [e1], by simp [e2]⟩, by simp [e2]⟩
            · exact .inr ⟨.inl (by simp [e1]), by simp [e1]⟩
          rcases hcase with ⟨d1, d2⟩ | ⟨hd, hnd⟩
          · have HD : Hid (y.left = x.left ∧ y.right = x.right) := Lib.hid ⟨by simpa using d1, by simpa using d2⟩
            go_wp2_with (fail)
            refine region_ev [] [0, 1, 2, 3, 4, 5, 6, 7, 8, 9, 10, 11, 12, 13, 14, 15, 16, 17, 18, 19] [] [] (by kernel_rfl) (by kernel_rfl) (by intro c a d v w h; cases d <;> exact h) ?_
            simp only [picks, List.drop_succ_cons, List.drop_zero]
            repeat (refine wpQ0_step (fun K hK => ?_); go_simp; (refine hK _ ?_; clear hK K))
            refine wpQ0_nil ?_
            repeat ((with_reducible refine wpQ2_step (fun K hK => ?_)); go_simp; first | ((with_reducible refine hK _ ?_); clear hK K) | (apply Exists.intro; refine ⟨fun x => ?_, hK _ ?_⟩; (fail); clear hK K))
            refine wpQ2_nil ?_
            refine Events.none_ fun w3 hg3 => ?_
            simp only [picks, List.drop_succ_cons, List.drop_zero]
            have hB3 := below_ext hBr hg3
            clear q2c q2f q5c q5f c0 c1
            have ht : twiceK F.kerns i = true := decide_eq_true (by rw [firstN_at (k := k) HALL.out (by rw [← HY.out, ← HX.out]; exact decide_eq_true HD.out) hlt]; exact hlt)
            have HTW := Lib.hid ht
            clear ht
            go_wp2_with (fail)
            go_ret
            exact ⟨ret_int (by rw [HE.out, ← HV1.out, ← HV2.out, HTW.out]; rfl), hB3⟩
          · have HND := Lib.hid hnd
            clear hnd
            rcases hd with d1 | ⟨d1, d2⟩
            all_goals
              go_wp2_with (fail)
              refine region_ev [] [0, 1, 2, 3, 4, 5, 6, 7, 8, 9, 10, 11, 12, 13, 14, 15, 16, 17, 18, 19] [] [] (by kernel_rfl) (by kernel_rfl) (by intro c a d v w h; cases d <;> exact h) ?_
              simp only [picks, List.drop_succ_cons, List.drop_zero]
              repeat (refine wpQ0_step (fun K hK => ?_); go_simp; (refine hK _ ?_; clear hK K))
              refine wpQ0_nil ?_
              repeat ((with_reducible refine wpQ2_step (fun K hK => ?_)); go_simp; first | ((with_reducible refine hK _ ?_); clear hK K) | (apply Exists.intro; refine ⟨fun x => ?_, hK _ ?_⟩; (fail); clear hK K))
              refine wpQ2_nil ?_
              refine Events.none_ fun w3 hg3 => ?_
              simp only [picks, List.drop_succ_cons, List.drop_zero]
              have hE3 := ext_trans hEr hg3
              clear q2c q2f q5c q5f c0 c1
              go_wp2_with (fail)
              go_roundw
              case rel =>
                refine ⟨k + 1, by go_num, by omega, hE3, fun j hj => ?_⟩
                rcases Nat.lt_or_ge j k with h | h
                · exact HALL.out j h
                · obtain rfl : j = k := by omega
                  rw [← HY.out, ← HX.out]; exact HND.out
              case measure => simp [intOf]; omega
        · obtain rfl : k = i := by omega
          have ht : twiceK F.kerns k = false := decide_eq_false (by rw [firstN_none HALL.out]; omega)
          have HTW := Lib.hid ht
          have r1 : ¬ (k : Int) < (k : Int) := by omega
          clear ht HALL hlt
          obtain ⟨v3, hv3⟩ : ∃ v, v = inB x.by_ (-12) 12 := ⟨_, rfl⟩
          have HV3 := Lib.hid hv3
          have HIN3 : Hid (∀ W, Calls Tryd.prog 59 #[.int .i64 x.by_, .int .i64 (-12), .int .i64 12] W fun e w' => e = .returned (.bool v3) ∧ W = w') := Lib.hid fun W => by rw [hv3]; exact in_any _ _ _ W
          clear hv3
          have q2c := cell_blk x2
          have q2f := frz_blk x2
          have q5c := cell_blk x5
          have q5f := frz_blk x5
          go_wp2_with (fail)
          (with_reducible refine (HIN3.out _).mono ?_)
          rintro e w' ⟨rfl, rfl⟩
          cases v3
          case false =>
            go_wp2_with (fail)
            go_ret
            exact ⟨ret_int (by rw [HE.out, ← HV1.out, ← HV2.out, HTW.out, ← HV3.out]; rfl), hBr⟩
          case true =>
            have hl := of_decide_eq_true HV1.out.symm
            have hby := of_decide_eq_true HV3.out.symm
            obtain ⟨L, hL⟩ : ∃ L : Nat, x.left = (L : Int) := ⟨x.left.toNat, by omega⟩
            have hLn : L < F.glyphs.length := by omega
            obtain ⟨_, _, h1, -, c1, -⟩ := gl_cells (HF.out.below hBr).gls.gl (i := L) hLn
            obtain ⟨rfl, rfl⟩ : gb = _ ∧ goff = _ := by simpa using h1
            have hwL := HW.out L hLn
            obtain ⟨d, hd⟩ : ∃ d, d = (glD F.glyphs L).wide := ⟨_, rfl⟩
            rw [← hd] at c1 hwL
            have hfin : E = if d + x.by_ < 1 then 2 else 0 := by
              rw [HE.out, ← HV1.out, ← HV2.out, HTW.out, ← HV3.out, hL, hd]; rfl
            have HFIN := Lib.hid hfin
            rw [hL] at x5
            have s1 : IntKind.i64.wrap (d + x.by_) = d + x.by_ := IntWalk.i64_in _ (by omega)
            have r0 : (0 : Int) ≤ (L : Int) := by omega
            have r2 : (L : Int) < (F.glyphs.length : Int) := by omega
            clear q5c q5f hl hby hL h1 hd hfin hwL
            have q5c := cell_blk x5
            have q5f := frz_blk x5
            by_cases hlow : d + x.by_ < 1
            all_goals
              have HLW := Lib.hid hlow
              go_wp2_with (fail)
              refine region_ev [] [0, 1, 2, 3, 4, 5, 6, 7, 8, 9, 10] [] [] (by kernel_rfl) (by kernel_rfl) (by intro c a d v w h; cases d <;> exact h) ?_
              simp only [picks, List.drop_succ_cons, List.drop_zero]
              repeat (refine wpQ0_step (fun K hK => ?_); go_simp; (refine hK _ ?_; clear hK K))
              refine wpQ0_nil ?_
              repeat ((with_reducible refine wpQ2_step (fun K hK => ?_)); go_simp; first | ((with_reducible refine hK _ ?_); clear hK K) | (apply Exists.intro; refine ⟨fun x => ?_, hK _ ?_⟩; (fail); clear hK K))
              refine wpQ2_nil ?_
              refine Events.none_ fun w3 hg3 => ?_
              simp only [picks, List.drop_succ_cons, List.drop_zero]
              have hB3 := below_ext hBr hg3
              clear q2c q2f q5c q5f c1
              go_wp2_with (fail)
              go_ret
              exact ⟨ret_int (by rw [HFIN.out]; first | rw [if_pos (by have := HLW.out; omega)] | rw [if_neg (by have := HLW.out; omega)]), hB3⟩
theorem glE_wide {F : Font} {i : Nat} (h : glE F i = 0) : (lettersS (glD F.glyphs i).text 3 = true ∧ twice F.glyphs i = false ∧ ((glD F.glyphs i).rows.length : Int) = F.high ∧ rowsBad (glD F.glyphs i) = false) ∧ 1 ≤ (glD F.glyphs i).wide ∧ (glD F.glyphs i).wide ≤ 12 := by
  unfold glE at h
  split at h
  · omega
  · rename_i h1
    split at h
    · omega
    · rename_i h2
      split at h
      · omega
      · rename_i h3
        split at h
        · omega
        · rename_i h4
          split at h
          · omega
          · rename_i h5
            have h6 : inB (glD F.glyphs i).wide 1 12 = true := by simpa using h3
            exact ⟨⟨by simpa using h1, by simpa using h2, by omega, by simpa using h5⟩, of_decide_eq_true h6⟩
set_option maxRecDepth 100000 in
set_option maxHeartbeats 2000000 in
theorem checkR_any {F : Font} {s : FSl} {w : World} (hF : FontAt w F s) : Calls Tryd.prog 24 #[.agg #[.int .i64 F.high, .int .i64 F.space, .slice s.g.a F.glyphs.length s.g.cap, .slice s.k.a F.kerns.length s.k.cap]] w fun e w' => e = .returned (.tuple #[.int .i64 (checkF F).1, .int .i64 (checkF F).2.1, .int .i64 (checkF F).2.2]) ∧ Below w.heap.size w w' := by
  have HF := Lib.hid hF
  obtain ⟨E, hE⟩ : ∃ E, E = checkF F := ⟨_, rfl⟩
  have hE' := hE
  unfold checkF at hE'
  rw [← hE]
  have HE := Lib.hid hE'
  have hgl := hF.gls.gl.le; have hgm := hF.gls.gl.max; have hkl := hF.kn.le; have hkm := hF.kn.max
  obtain ⟨v1, hv1⟩ : ∃ v, v = inB F.high 1 16 := ⟨_, rfl⟩
  obtain ⟨v2, hv2⟩ : ∃ v, v = inB F.space 1 20 := ⟨_, rfl⟩
  obtain ⟨v3, hv3⟩ : ∃ v, v = inB (F.glyphs.length : Int) 1 60 := ⟨_, rfl⟩
  have HV1 := Lib.hid hv1; have HV2 := Lib.hid hv2; have HV3 := Lib.hid hv3
  have HIN1 : Hid (∀ W, Calls Tryd.prog 59 #[.int .i64 F.high, .int .i64 1, .int .i64 16] W fun e w' => e = .returned (.bool v1) ∧ W = w') := Lib.hid fun W => by rw [hv1]; exact in_any _ _ _ W
  have HIN2 : Hid (∀ W, Calls Tryd.prog 59 #[.int .i64 F.space, .int .i64 1, .int .i64 20] W fun e w' => e = .returned (.bool v2) ∧ W = w') := Lib.hid fun W => by rw [hv2]; exact in_any _ _ _ W
  have HIN3 : Hid (∀ W, Calls Tryd.prog 59 #[.int .i64 (F.glyphs.length : Int), .int .i64 1, .int .i64 60] W fun e w' => e = .returned (.bool v3) ∧ W = w') := Lib.hid fun W => by rw [hv3]; exact in_any _ _ _ W
  clear hF hE hE' hv1 hv2 hv3
  go_enter Tryd.func24, Tryd.ntmps24
  go_wp2_with (fail)
  refine calls_name ?_
  intro w1 h1
  have x1 : w1.heap[w.heap.size]? = some (Obj.cells #[.int .i64 F.high, .int .i64 F.space, .slice s.g.a F.glyphs.length s.g.cap, .slice s.k.a F.kerns.length s.k.cap] 25) := by rw [h1]; repeat' (first | (with_reducible assumption) | (with_reducible refine blk_set_ne ?_ ?_) | (with_reducible exact blk_new _ _) | (with_reducible refine blk_new' _ _ (by first | (with_reducible rfl) | (simp; done) | (simp <;> omega))) | (with_reducible refine blk_alloc ?_ _) | (with_reducible refine blk_drew ?_) | (with_reducible refine blk_drewN ?_ _) | (with_reducible refine Ext2.blk (by assumption) ?_) | omega | (simp <;> omega) | exact blk_set (by assumption) _ _)
  have hB1 : Below w.heap.size w w1 := by rw [h1]; repeat' (first | exact Below.refl _ _ | assumption | refine below_drewN ?_ _ | refine Below.drew ?_ | refine Below.alloc ?_ (by first | assumption | omega | (simp <;> omega)) _ | refine Below.setCell ?_ (by first | assumption | omega | (simp <;> omega)) _ | refine Ext2.on (by assumption) ?_)
  have HX1 := Lib.hid x1
  clear h1
  (with_reducible refine (HIN1.out _).mono ?_)
  rintro e w' ⟨rfl, rfl⟩
  have q1c := cell_blk x1
  have q1f := frz_blk x1
  cases v1
  case false =>
    go_wp2_with (fail)
    go_ret3
    exact ⟨by rw [HE.out, ← HV1.out]; rfl, hB1⟩
  case true =>
  go_wp2_with (fail)
  (with_reducible refine (HIN2.out _).mono ?_)
  rintro e w' ⟨rfl, rfl⟩
  cases v2
  case false =>
    go_wp2_with (fail)
    go_ret3
    exact ⟨by rw [HE.out, ← HV1.out, ← HV2.out]; rfl, hB1⟩
  case true =>
  go_wp2_with (fail)
  (with_reducible refine (HIN3.out _).mono ?_)
  rintro e w' ⟨rfl, rfl⟩
  cases v3
  case false =>
    go_wp2_with (fail)
    go_ret3
    exact ⟨by rw [HE.out, ← HV1.out, ← HV2.out, ← HV3.out]; rfl, hB1⟩
  case true =>
  by_cases hkn : F.kerns.length ≤ 60
  · have hkd : decide ((60 : Int) < (F.kerns.length : Int)) = false := decide_eq_false (by omega)
    have hh := of_decide_eq_true HV1.out.symm
    have hgn := of_decide_eq_true HV3.out.symm
    have hE2 : E = if firstN (fun i => glE F i != 0) F.glyphs.length < F.glyphs.length then ((2 : Int), ((firstN (fun i => glE F i != 0) F.glyphs.length : Nat) : Int), glE F (firstN (fun i => glE F i != 0) F.glyphs.length))
        else if firstN (fun i => knE F i != 0) F.kerns.length < F.kerns.length then ((3 : Int), ((firstN (fun i => knE F i != 0) F.kerns.length : Nat) : Int), knE F (firstN (fun i => knE F i != 0) F.kerns.length)) else (0, 0, 0) := by
      rw [HE.out, ← HV1.out, ← HV2.out, ← HV3.out, decide_eq_true hkn]; rfl
    have HE2 := Lib.hid hE2
    clear hE2
    go_wp2_with (fail)
    clear q1c q1f x1
    go_loopw [5] (fun p wr => ∃ k : Nat, p = .int .i64 (k : Int) ∧ k ≤ F.glyphs.length ∧ Ext2 w1 wr ∧ ∀ j, j < k → (glE F j != 0) = false) (fun p _ => F.glyphs.length - (intOf p).toNat)
    case atStart => exact ⟨0, rfl, by omega, Below.refl _ _, fun j hj => absurd hj (Nat.not_lt_zero j)⟩
    case round =>
      obtain ⟨k, rfl, hk, hEr, hall⟩ := hrel
      have HALL := Lib.hid hall
      clear hall
      have hBr := below_ext hB1 hEr
      have x1 := Ext2.blk hEr HX1.out
      have q1c := cell_blk x1
      have q1f := frz_blk x1
      by_cases hlt : k < F.glyphs.length
      · go_light
        obtain ⟨g, hg⟩ : ∃ g, g = glE F k := ⟨_, rfl⟩
        have HG := Lib.hid hg
        have HC : Hid (∀ W, Below w.heap.size w W → Calls Tryd.prog 60 #[.agg #[.int .i64 F.high, .int .i64 F.space, .slice s.g.a F.glyphs.length s.g.cap, .slice s.k.a F.kerns.length s.k.cap], .int .i64 (k : Int)] W fun e w' => e = .returned (.int .i64 g) ∧ Below W.heap.size W w') := Lib.hid fun W hW => by
          rw [hg]; exact glyphR_any (HF.out.below hW) hlt (by omega) hh
        have w3' : IntKind.i64.wrap ((k : Int) + 1) = (k : Int) + 1 := IntWalk.i64_in _ (by omega)
        clear hg
        by_cases hg0 : g = 0
        · subst hg0
          go_wp2_with (fail)
          (with_reducible refine (HC.out _ hBr).mono ?_)
          rintro e w2 ⟨rfl, hb2⟩
          have hE2' := ext_trans hEr hb2
          clear q1c q1f hb2
          go_wp2_with (fail)
          go_roundw
          case rel =>
            refine ⟨k + 1, by go_num, by omega, hE2', fun j hj => ?_⟩
            rcases Nat.lt_or_ge j k with h | h
            · exact HALL.out j h
            · obtain rfl : j = k := by omega
              rw [← HG.out]; rfl
          case measure => simp [intOf]; omega
        · have hgn0 : (g != 0) = true := by simp [hg0]
          have HGN := Lib.hid hgn0
          clear hg0
          go_wp2_with (fail)
          (with_reducible refine (HC.out _ hBr).mono ?_)
          rintro e w2 ⟨rfl, hb2⟩
          have hB2 := below_ext hBr hb2
          clear q1c q1f hb2
          have hf : firstN (fun i => glE F i != 0) F.glyphs.length = k := firstN_at HALL.out (by rw [← HG.out]; exact HGN.out) hlt
          have HFI := Lib.hid hf
          clear hf
          go_wp2_with (fail)
          go_ret3
          exact ⟨by rw [HE2.out, HFI.out, if_pos hlt, ← HG.out]; first | done | rfl, hB2⟩
      · obtain rfl : k = F.glyphs.length := by omega
        have hf : firstN (fun i => glE F i != 0) F.glyphs.length = F.glyphs.length := firstN_none HALL.out
        have hE3 : E = if firstN (fun i => knE F i != 0) F.kerns.length < F.kerns.length then ((3 : Int), ((firstN (fun i => knE F i != 0) F.kerns.length : Nat) : Int), knE F (firstN (fun i => knE F i != 0) F.kerns.length)) else (0, 0, 0) := by
          rw [HE2.out, hf, if_neg (Nat.lt_irrefl _)]
        have HE3 := Lib.hid hE3
        have HWD : Hid (∀ j, j < F.glyphs.length → 1 ≤ (glD F.glyphs j).wide ∧ (glD F.glyphs j).wide ≤ 12) := Lib.hid fun j hj => (glE_wide (by have := HALL.out j hj; simpa using this)).2
        have r9 : ¬ (F.glyphs.length : Int) < (F.glyphs.length : Int) := by omega
        clear hf hE3 HALL hlt
        go_wp2_with (fail)
        clear q1c q1f x1
        go_loopw [7] (fun p wr => ∃ k : Nat, p = .int .i64 (k : Int) ∧ k ≤ F.kerns.length ∧ Ext2 w1 wr ∧ ∀ j, j < k → (knE F j != 0) = false) (fun p _ => F.kerns.length - (intOf p).toNat)
        case atStart => exact ⟨0, rfl, by omega, hEr, fun j hj => absurd hj (Nat.not_lt_zero j)⟩
        case round =>
          obtain ⟨k, rfl, hk, hEr', hall⟩ := hrel
          have HALL := Lib.hid hall
          clear hall
          have hBr := below_ext hB1 hEr'
          have x1 := Ext2.blk hEr' HX1.out
          have q1c := cell_blk x1
          have q1f := frz_blk x1
          by_cases hlt : k < F.kerns.length
          · go_light
            obtain ⟨g, hg⟩ : ∃ g, g = knE F k := ⟨_, rfl⟩
            have HG := Lib.hid hg
            have HC : Hid (∀ W, Below w.heap.size w W → Calls Tryd.prog 61 #[.agg #[.int .i64 F.high, .int .i64 F.space, .slice s.g.a F.glyphs.length s.g.cap, .slice s.k.a F.kerns.length s.k.cap], .int .i64 (k : Int)] W fun e w' => e = .returned (.int .i64 g) ∧ Below W.heap.size W w') := Lib.hid fun W hW => by
              rw [hg]; exact kernR_any (HF.out.below hW) hlt (by omega) hkn HWD.out
            have w3' : IntKind.i64.wrap ((k : Int) + 1) = (k : Int) + 1 := IntWalk.i64_in _ (by omega)
            clear hg
            by_cases hg0 : g = 0
            · subst hg0
              go_wp2_with (fail)
              (with_reducible refine (HC.out _ hBr).mono ?_)
              rintro e w2 ⟨rfl, hb2⟩
              have hE2' := ext_trans hEr' hb2
              clear q1c q1f hb2
              go_wp2_with (fail)
              go_roundw
              case rel =>
                refine ⟨k + 1, by go_num, by omega, hE2', fun j hj => ?_⟩
                rcases Nat.lt_or_ge j k with h | h
                · exact HALL.out j h
                · obtain rfl : j = k := by omega
                  rw [← HG.out]; rfl
              case measure => simp [intOf]; omega
            · have hgn0 : (g != 0) = true := by simp [hg0]
              have HGN := Lib.hid hgn0
              clear hg0
              go_wp2_with (fail)
              (with_reducible refine (HC.out _ hBr).mono ?_)
              rintro e w2 ⟨rfl, hb2⟩
              have hB2 := below_ext hBr hb2
              clear q1c q1f hb2
              have hf : firstN (fun i => knE F i != 0) F.kerns.length = k := firstN_at HALL.out (by rw [← HG.out]; exact HGN.out) hlt
              have HFI := Lib.hid hf
              clear hf
              go_wp2_with (fail)
              go_ret3
              exact ⟨by rw [HE3.out, HFI.out, if_pos hlt, ← HG.out]; first | done | rfl, hB2⟩
          · obtain rfl : k = F.kerns.length := by omega
            have hf : firstN (fun i => knE F i != 0) F.kerns.length = F.kerns.length := firstN_none HALL.out
            have hE4 : E = (0, 0, 0) := by rw [HE3.out, hf, if_neg (Nat.lt_irrefl _)]
            have HE4 := Lib.hid hE4
            have r8 : ¬ (F.kerns.length : Int) < (F.kerns.length : Int) := by omega
            clear hf hE4 HALL hlt
            go_wp2_with (fail)
            go_ret3
            exact ⟨by rw [HE4.out]; first | done | rfl, hBr⟩
  · have hkd : decide ((60 : Int) < (F.kerns.length : Int)) = true := decide_eq_true (by omega)
    have HKN := Lib.hid hkn
    clear hkn
    go_wp2_with (fail)
    go_ret3
    exact ⟨by rw [HE.out, ← HV1.out, ← HV2.out, ← HV3.out, decide_eq_false HKN.out]; rfl, hB1⟩
end Go.Proofs.YtahgbecfaihfpaaDoor
