/-
  ref.between, ref.places, ref.width.
-/
import Derived.Test.YtahgbecfaihfpaaDoorTRefS
namespace Go.Proofs.YtahgbecfaihfpaaDoor
open Go.RowKit D
set_option linter.unusedVariables false
set_option linter.unusedSimpArgs false
attribute [local go_sem high] run_minI run_maxI
attribute [local go_sem] upon2 cls_cell cls_frozen forall_const exists_eq_left'
attribute [local go_sem] FirstUpon
theorem betw_at {l : List Kn} {a b : Int} {k : Nat} (hk : k < l.length) (hall : ∀ j, j < k → decide ((knD l j).left = a ∧ (knD l j).right = b) = false) (h1 : (knD l k).left = a) (h2 : (knD l k).right = b) : betw l a b = (knD l k).by_ := by
  have he : kIx l a b l.length = k := firstN_at hall (decide_eq_true ⟨h1, h2⟩) hk
  unfold betw
  rw [he, if_pos hk]
theorem betw_none {l : List Kn} {a b : Int} (hall : ∀ j, j < l.length → decide ((knD l j).left = a ∧ (knD l j).right = b) = false) : betw l a b = 0 := by
  have he : kIx l a b l.length = l.length := firstN_none hall
  unfold betw
  rw [he, if_neg (Nat.lt_irrefl _)]
set_option maxRecDepth 100000 in
set_option maxHeartbeats 2000000 in
theorem between_any {F : Font} {s : FSl} {a b : Int} {w : World} (hF : FontAt w F s) (hn : F.kerns.length ≤ 60) : Calls Tryd.prog 82 #[.agg #[.int .i64 F.high, .int .i64 F.space, .slice s.g.a F.glyphs.length s.g.cap, .slice s.k.a F.kerns.length s.k.cap], .int .i64 a, .int .i64 b] w fun e w' => e = .returned (.int .i64 (betw F.kerns a b)) ∧ Below w.heap.size w w' := by
  rcases Nat.eq_zero_or_pos F.kerns.length with h0 | h0
  · have hb : betw F.kerns a b = 0 := betw_none fun j hj => by omega
    have HB := Lib.hid hb
    have hle := hF.kn.le; have hmx := hF.kn.max
    have r1 : ¬ (0 : Int) < (F.kerns.length : Int) := by omega
    clear hF hb hn h0
    go_enter Tryd.func82, Tryd.ntmps82
    go_wp2_with (fail)
    go_loopw [7] (fun i wr => i = .int .i64 0 ∧ wr = w.alloc (Obj.cells #[.int .i64 F.high, .int .i64 F.space, .slice s.g.a F.glyphs.length s.g.cap, .slice s.k.a F.kerns.length s.k.cap] 25)) (fun _ _ => 0)
    case atStart => exact ⟨rfl, rfl⟩
    case round =>
      obtain ⟨rfl, rfl⟩ := hrel
      go_wp2_with (fail)
      go_ret
      exact ⟨ret_int HB.out.symm, below_alloc' _ _⟩
  · obtain ⟨kb, koff, hka, -⟩ := hF.kn.row h0 (by omega)
    have hkc := hF.kn.le; have hkm := hF.kn.max
    obtain ⟨gs, rs, ⟨ka, kc⟩⟩ := s
    dsimp only at hka hkc hkm
    subst hka
    have HF := Lib.hid hF
    clear hF
    go_enter Tryd.func82, Tryd.ntmps82
    go_wp2_with (fail)
    refine wp_name ?_
    intro w1 h1
    have xf : w1.heap[w.heap.size]? = some (Obj.cells #[.int .i64 F.high, .int .i64 F.space, .slice gs.a F.glyphs.length gs.cap, .slice (some ⟨kb, koff, none⟩) F.kerns.length kc] 25) := by rw [h1]; exact blk_new _ _
    have hB1 : Below w.heap.size w w1 := by rw [h1]; exact below_alloc' _ _
    have HXF := Lib.hid xf; have HB1 := Lib.hid hB1
    clear h1 xf hB1
    go_loopw [7] (fun i wr => ∃ k : Nat, i = .int .i64 (k : Int) ∧ k ≤ F.kerns.length ∧ wr = w1 ∧ ∀ j, j < k → decide ((knD F.kerns j).left = a ∧ (knD F.kerns j).right = b) = false) (fun i _ => F.kerns.length - (intOf i).toNat)
    case atStart => exact ⟨0, rfl, Nat.zero_le _, rfl, fun j hj => absurd hj (Nat.not_lt_zero j)⟩
    case round =>
      obtain ⟨k, rfl, hk, rfl, hall⟩ := hrel
      have HALL := Lib.hid hall
      have xf := HXF.out
      clear hall
      by_cases hlt : k < F.kerns.length
      · go_light
        obtain ⟨_, _, h1, c0, c1, c2⟩ := kn_cells (HF.out.below HB1.out).kn hlt
        obtain ⟨rfl, rfl⟩ : kb = _ ∧ koff = _ := by simpa using h1
        obtain ⟨⟨x, y, z⟩, hx⟩ : ∃ x, x = knD F.kerns k := ⟨_, rfl⟩
        rw [← hx] at c0 c1 c2
        dsimp only at c0 c1 c2
        have r0 : (0 : Int) ≤ (k : Int) := by omega
        have r1 : (k : Int) < (F.kerns.length : Int) := by omega
        have w3' : IntKind.i64.wrap ((k : Int) + 1) = (k : Int) + 1 := IntWalk.i64_in _ (by omega)
        have HX := Lib.hid hx
        clear h1 hx
        have qFc := cell_blk xf
        have qFf := frz_blk xf
        by_cases ha : x = a
        · by_cases hb : y = b
          · have hbt := betw_at (l := F.kerns) (a := a) (b := b) hlt HALL.out (by rw [← HX.out]; exact ha) (by rw [← HX.out]; exact hb)
            rw [← HX.out] at hbt
            have HBT := Lib.hid hbt
            subst ha hb
            clear hbt
            go_wp2_with (fail)
            go_ret
            exact ⟨ret_int HBT.out.symm, HB1.out⟩
          · have hbe : (y == b) = false := beq_eq_false_iff_ne.2 hb
            have hd : decide ((knD F.kerns k).left = a ∧ (knD F.kerns k).right = b) = false := decide_eq_false fun h => hb (by have := h.2; rw [← HX.out] at this; exact this)
            have HD := Lib.hid hd
            subst ha
            clear hd hb
            go_wp2_with (fail)
            go_roundw
            case rel => exact ⟨k + 1, by go_num, hlt, True.intro, fun j hj => by
              rcases Nat.lt_or_ge j k with h | h
              · exact HALL.out j h
              · obtain rfl : j = k := by omega
                exact HD.out⟩
            case measure => simp [intOf]; omega
        · have hae : (x == a) = false := beq_eq_false_iff_ne.2 ha
          have hd : decide ((knD F.kerns k).left = a ∧ (knD F.kerns k).right = b) = false := decide_eq_false fun h => ha (by have := h.1; rw [← HX.out] at this; exact this)
          have HD := Lib.hid hd
          clear hd ha
          go_wp2_with (fail)
          go_roundw
          case rel => exact ⟨k + 1, by go_num, hlt, True.intro, fun j hj => by
            rcases Nat.lt_or_ge j k with h | h
            · exact HALL.out j h
            · obtain rfl : j = k := by omega
              exact HD.out⟩
          case measure => simp [intOf]; omega
      · obtain rfl : k = F.kerns.length := by omega
        have r1 : ¬ (F.kerns.length : Int) < (F.kerns.length : Int) := by omega
        have hbt : betw F.kerns a b = 0 := betw_none HALL.out
        have HBT := Lib.hid hbt
        clear hbt hlt
        have qFc := cell_blk xf
        have qFf := frz_blk xf
        go_wp2_with (fail)
        go_ret
        exact ⟨ret_int HBT.out.symm, HB1.out⟩
set_option maxRecDepth 100000 in
set_option maxHeartbeats 2000000 in
theorem placesR_any {F : Font} {s : FSl} {l : List Nat} {sl : Sl} {w : World} (hF : FontAt w F s) (hk : FontOk F) (hl : IntsS w sl (l.map Int.ofNat)) (hm : ∀ x ∈ l, x < F.glyphs.length) (h24 : l.length ≤ 24) (h0 : 0 < l.length) :
    Calls Tryd.prog 72 #[.agg #[.int .i64 F.high, .int .i64 F.space, .slice s.g.a F.glyphs.length s.g.cap, .slice s.k.a F.kerns.length s.k.cap], .slice sl.a l.length sl.cap] w fun e w' => (∃ s' : Sl, e = .returned (.slice s'.a l.length s'.cap) ∧ IntsS w' s' (placesS F l)) ∧ Below w.heap.size w w' := by
  obtain ⟨gb, goff, hga, -⟩ := hF.gls.gl.row (by have := hk.ng; omega) (by omega)
  have hgc := hF.gls.gl.le; have hgm := hF.gls.gl.max
  obtain ⟨⟨ga, gc⟩, rs, ks⟩ := s
  dsimp only at hga hgc hgm
  subst hga
  have hlc := hl.le; have hlm := hl.max
  rw [ints_len] at hlc
  obtain ⟨lb, loff, hla, -⟩ := int_cell hl (i := 0) (by rw [ints_len]; exact h0)
  obtain ⟨la, lc⟩ := sl
  dsimp only at hla hlc hlm
  subst hla
  have HF := Lib.hid hF; have HK := Lib.hid hk; have HL := Lib.hid hl; have HM := Lib.hid hm
  have hng := hk.ng
  clear hF hk hl hm
  go_enter Tryd.func72, Tryd.ntmps72
  go_wp2_with (fail)
  refine wp_name ?_
  intro w1 h1
  have xf : w1.heap[w.heap.size]? = some (Obj.cells #[.int .i64 F.high, .int .i64 F.space, .slice (some ⟨gb, goff, none⟩) F.glyphs.length gc, .slice ks.a F.kerns.length ks.cap] 25) := by rw [h1]; exact blk_new _ _
  have hB1 : Below w.heap.size w w1 := by rw [h1]; exact below_alloc' _ _
  have HXF := Lib.hid xf; have HB1 := Lib.hid hB1
  have hsz1 := hB1.size
  clear h1 xf hB1
  go_loopw [5, 6] (fun v i wr => ∃ k : Nat, i = .int .i64 (k : Int) ∧ k ≤ l.length ∧ OwnR wr w1.heap.size 3 1 v k (fun i _ => .int .i64 (posS F l i)) ∧ Ext2 w1 wr) (fun _ i _ => l.length - (intOf i).toNat)
  case atStart => exact ⟨0, rfl, Nat.zero_le _, own_nil _ _ _ _ _, Below.refl _ _⟩
  case round =>
    obtain ⟨k, rfl, hk, hO, hEr⟩ := hrel
    have HO := Lib.hid hO; have HEr := Lib.hid hEr
    have hsz := hEr.size
    have hBr := below_ext HB1.out hEr
    clear hO
    by_cases hlt : k < l.length
    · go_light
      have r0 : (0 : Int) ≤ (k : Int) := by omega
      have r1 : (k : Int) < (l.length : Int) := by omega
      have w3' : IntKind.i64.wrap ((k : Int) + 1) = (k : Int) + 1 := IntWalk.i64_in _ (by omega)
      have HEr3 := HEr
      by_cases hk0 : k = 0
      · have r2 : ¬ (k : Int) > 0 := by omega
        have hpx : posS F l k = 0 := by rw [hk0]; rfl
        have HPX := Lib.hid hpx
        clear hpx hEr hk0
        go_wp2_with (at_builtin; refine app_one [.int .i64 0] elInt rfl _ _ rfl w1.heap.size rfl ((HO.out.below (Below.refl _ _)).below (below_alloc' _ _)) wr.heap.size 1 rfl (blk_new _ _) (by simp [Value.oneCell']) (by omega) (by simp; omega) ?_; intro v' w7 hO7 hg7)
        have hE7 : Ext2 w1 w7 := app_below ((HEr3.out).alloc (by omega) _) ((HO.out.below (Below.refl _ _)).below (below_alloc' _ _)) (Nat.le_refl _) (by simp; omega) hg7
        have hO7' : OwnR w7 w1.heap.size 3 1 v' (k + 1) (fun i _ => .int .i64 (posS F l i)) := hO7.congr fun i j hi hj => by
          by_cases hik : i = k
          · subst hik
            obtain rfl : j = 0 := by have : j < 1 := hj; omega
            rw [upd_at, HPX.out]; rfl
          · rw [upd_lt (by omega)]
        have HO7 := Lib.hid hO7'
        clear hO7 hg7 hO7'
        go_roundw
        case rel => exact ⟨k + 1, by go_num, hlt, HO7.out, hE7⟩
        case measure => simp [intOf]; omega
      · have r2 : (k : Int) > 0 := by omega
        obtain ⟨j, hkj⟩ : ∃ j, k = j + 1 := ⟨k - 1, by omega⟩
        have hjl : j < l.length := by omega
        obtain ⟨ob, oc, hv, -, hoc, hom, hrow, -⟩ := own_some HO.out (by omega)
        subst hv
        have o0 := hrow.one (i := j) (by omega)
        rw [Nat.zero_add] at o0
        have hlr := HL.out.below hBr
        obtain ⟨_, _, h1, cj⟩ := int_cell hlr (i := j) (by rw [ints_len]; exact hjl)
        obtain ⟨rfl, rfl⟩ : lb = _ ∧ loff = _ := by simpa using h1
        obtain ⟨_, _, h2, ck⟩ := int_cell hlr (i := k) (by rw [ints_len]; exact hlt)
        obtain ⟨rfl, rfl⟩ : lb = _ ∧ loff = _ := by simpa using h2
        have ij : ∀ i, i < l.length → intD (l.map Int.ofNat) i = ((l.getD i 0 : Nat) : Int) := fun i hi => by simp [intD, List.getD_eq_getElem?_getD, hi]
        rw [ij j hjl] at cj
        rw [ij k hlt] at ck
        have hjF := getD_mem HM.out hjl
        have hkr := kr_rng HK.out hjF (l.getD k 0)
        have hwr := wd_rng HK.out hjF
        have hpr := posS_rng HK.out HM.out j hjl
        have hpx : posS F l k = posS F l j + wd F (l.getD j 0) + kr F (l.getD j 0) (l.getD k 0) := by rw [hkj, posS]; omega
        obtain ⟨_, _, h3, -, g1, -⟩ := gl_cells (HF.out.below hBr).gls.gl hjF
        obtain ⟨rfl, rfl⟩ : gb = _ ∧ goff = _ := by simpa using h3
        have hBT : ∀ W, Ext2 wr W → Calls Tryd.prog 82 #[.agg #[.int .i64 F.high, .int .i64 F.space, .slice (some ⟨gb, goff, none⟩) F.glyphs.length gc, .slice ks.a F.kerns.length ks.cap], .int .i64 ((l.getD j 0 : Nat) : Int), .int .i64 ((l.getD k 0 : Nat) : Int)] W fun e w' => e = .returned (.int .i64 (kr F (l.getD j 0) (l.getD k 0))) ∧ Below W.heap.size W w' := fun W hW => between_any (s := ⟨⟨some ⟨gb, goff, none⟩, gc⟩, rs, ks⟩) (HF.out.below (below_ext hBr hW)) HK.out.nk
        have e1 : (glD F.glyphs (l.getD j 0)).wide = wd F (l.getD j 0) := rfl
        rw [e1] at g1
        obtain ⟨gj, hgj⟩ : ∃ x, x = l.getD j 0 := ⟨_, rfl⟩
        obtain ⟨gk, hgk⟩ : ∃ x, x = l.getD k 0 := ⟨_, rfl⟩
        rw [← hgj] at cj hjF hkr hwr hpx g1 hBT
        rw [← hgk] at ck hkr hpx hBT
        obtain ⟨pj, hpj⟩ : ∃ x, x = posS F l j := ⟨_, rfl⟩
        obtain ⟨wj, hwj⟩ : ∃ x, x = wd F gj := ⟨_, rfl⟩
        obtain ⟨bj, hbj⟩ : ∃ x, x = kr F gj gk := ⟨_, rfl⟩
        rw [← hpj] at o0 hpr hpx
        rw [← hwj] at g1 hwr hkr hpx
        rw [← hbj] at hkr hpx hBT
        have HBT := Lib.hid hBT; have HPX := Lib.hid hpx
        have s1 : IntKind.i64.wrap ((k : Int) - 1) = (j : Int) := by rw [hkj]; rw [IntWalk.i64_in _ (by omega)]; omega
        have s2 : IntKind.i64.wrap (pj + wj) = pj + wj := IntWalk.i64_in _ (by omega)
        have s3 : IntKind.i64.wrap (pj + wj + bj) = pj + wj + bj := IntWalk.i64_in _ (by omega)
        have t0 : (0 : Int) ≤ (j : Int) := by omega
        have t1 : (j : Int) < (l.length : Int) := by omega
        have t2 : (j : Int) < (k : Int) := by omega
        have t3 : (0 : Int) ≤ (gj : Int) := by omega
        have t4 : (gj : Int) < (F.glyphs.length : Int) := by omega
        have xf := Ext2.blk hEr HXF.out
        clear h1 h2 h3 ij hlr hrow hBT hpx hgj hgk hpj hwj hbj e1 hk0 hkj hkr hwr hpr hEr
        have qFc := cell_blk xf
        have qFf := frz_blk xf
        go_wp2_with (fail)
        refine region_ev [] [0, 1, 2, 3, 4, 5, 6, 7, 8, 9, 10, 11, 12, 13, 14, 15, 16, 17, 18, 19, 20, 21, 22, 23, 24, 25, 26, 27, 28] [] [] (by kernel_rfl) (by kernel_rfl) (by intro c a d v w h; cases d <;> exact h) ?_
        simp only [picks, List.drop_succ_cons, List.drop_zero]
        repeat (refine wpQ0_step (fun K hK => ?_); go_simp; (refine hK _ ?_; clear hK K))
        refine wpQ0_nil ?_
        repeat ((with_reducible refine wpQ2_step (fun K hK => ?_)); go_simp; first | ((with_reducible refine hK _ ?_); clear hK K) | (apply Exists.intro; refine ⟨fun x => ?_, hK _ ?_⟩; ((with_reducible exact HBT.out x.1 x.2)); clear hK K))
        refine wpQ2_nil ?_
        refine Events.none_ fun w3 hg3 => ?_
        simp only [picks, List.drop_succ_cons, List.drop_zero]
        have HEr3 := Lib.hid (ext_trans HEr.out hg3)
        have hsz3 := hg3.size
        clear qFc qFf xf cj ck o0 g1
        go_wp2_with (at_builtin; refine app_one [.int .i64 (pj + wj + bj)] elInt rfl _ _ rfl w1.heap.size rfl ((HO.out.below hg3).below (below_alloc' _ _)) w3.heap.size 1 rfl (blk_new _ _) (by simp [Value.oneCell']) (by omega) (by simp; omega) ?_; intro v' w7 hO7 hg7)
        have hE7 : Ext2 w1 w7 := app_below ((HEr3.out).alloc (by omega) _) ((HO.out.below hg3).below (below_alloc' _ _)) (Nat.le_refl _) (by simp; omega) hg7
        have hO7' : OwnR w7 w1.heap.size 3 1 v' (k + 1) (fun i _ => .int .i64 (posS F l i)) := hO7.congr fun i j hi hj => by
          by_cases hik : i = k
          · subst hik
            obtain rfl : j = 0 := by have : j < 1 := hj; omega
            rw [upd_at, HPX.out]; rfl
          · rw [upd_lt (by omega)]
        have HO7 := Lib.hid hO7'
        clear hO7 hg7 hO7'
        go_roundw
        case rel => exact ⟨k + 1, by go_num, hlt, HO7.out, hE7⟩
        case measure => simp [intOf]; omega
    · obtain rfl : k = l.length := by omega
      have r1 : ¬ (l.length : Int) < (l.length : Int) := by omega
      obtain ⟨⟨a', cp⟩, rfl, hro⟩ := HO.out.sl
      have HRO := Lib.hid hro
      clear hlt hro hEr
      go_wp2_with (fail)
      go_ret
      refine ⟨⟨⟨a', cp⟩, rfl, ?_⟩, hBr⟩
      unfold IntsS
      rw [places_len]
      refine ⟨HRO.out.le, HRO.out.max, fun i j hi hj => ?_⟩
      obtain ⟨b, off, h1, h2⟩ := HRO.out.cell i j hi hj
      exact ⟨b, off, h1, h2.trans (by simp only [intC]; rw [places_at F l hi])⟩
end Go.Proofs.YtahgbecfaihfpaaDoor
