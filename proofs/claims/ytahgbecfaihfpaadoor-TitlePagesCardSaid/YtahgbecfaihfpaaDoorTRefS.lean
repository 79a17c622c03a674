/-
  ref.begins, ref.set.
-/
import Derived.Test.YtahgbecfaihfpaaDoorTRefSP
import Derived.Laws.AppendOwnNone
import Derived.Test.YtahgbecfaihfpaaDoorTOpenM
namespace Go.Proofs.YtahgbecfaihfpaaDoor
open Go.RowKit D
set_option linter.unusedVariables false
set_option linter.unusedSimpArgs false
attribute [local go_sem high] run_minI run_maxI
attribute [local go_sem] upon2 cls_cell cls_frozen forall_const exists_eq_left'
attribute [local go_sem] FirstUpon beq_list
set_option maxRecDepth 100000 in
set_option maxHeartbeats 2000000 in
theorem begins_any (s t : ByteArray) (w : World) (hs : s.size ≤ maxLen) (ht : t.size ≤ maxLen) : Calls Tryd.prog 74 #[.string s, .string t] w fun e w' => e = .returned (.bool (begS s t)) ∧ w = w' := by
  unfold maxLen at hs ht
  by_cases h : t.size ≤ s.size
  · have h1 : decide ((s.size : Int) ≥ (t.size : Int)) = true := by simp; omega
    have h2 : (t.size : Int) ≤ (s.size : Int) := by omega
    have hb : begS s t = sameS (s.extract 0 t.size) t := by unfold begS; rw [decide_eq_true h]; rfl
    have HB := Lib.hid hb
    clear hb
    go_enter Tryd.func74, Tryd.ntmps74
    go_wp2_with (fail)
    go_ret
    exact ⟨ret_bool HB.out.symm, rfl⟩
  · have h1 : decide ((s.size : Int) ≥ (t.size : Int)) = false := by simp; omega
    have h2 : ¬ (t.size : Int) ≤ (s.size : Int) := by omega
    have hb : begS s t = false := by unfold begS; rw [decide_eq_false h]; rfl
    have HB := Lib.hid hb
    clear hb
    go_enter Tryd.func74, Tryd.ntmps74
    go_wp2_with (fail)
    go_ret
    exact ⟨ret_bool HB.out.symm, rfl⟩
theorem made_one {z : Value} {m k : Nat} (h : k < m) : (madeCells #[z] m)[k]? = some z := by simp [madeCells, Nat.mod_one, h]
theorem wpList_name {P : Program} {ops : Array Oper} {Q : Exit → Act → World → Prop} {l : List Oper} {a : Act} {w : World} (h : ∀ w0, w0 = w → wpList P ops Q l a w0) : wpList P ops Q l a w := h w rfl
set_option maxRecDepth 100000 in
set_option maxHeartbeats 2000000 in
theorem setR_any {F : Font} {s : FSl} {t : ByteArray} {w : World} (hF : FontAt w F s) (hk : FontOk F) (ht : t.size ≤ 24) : Calls Tryd.prog 51 #[.agg #[.int .i64 F.high, .int .i64 F.space, .slice s.g.a F.glyphs.length s.g.cap, .slice s.k.a F.kerns.length s.k.cap], .string t] w fun e w' =>
    (∃ v, e = .returned (.tuple #[v, .bool (setS F t.data.toList).isSome]) ∧ RV w' (setS F t.data.toList) v) ∧ Below w.heap.size w w' := by
  obtain ⟨gb, goff, hga, -⟩ := hF.gls.gl.row (by have := hk.ng; omega) (by omega)
  have hgc := hF.gls.gl.le; have hgm := hF.gls.gl.max
  obtain ⟨⟨ga, gc⟩, rs, ks⟩ := s
  dsimp only at hga hgc hgm
  subst hga
  have HF := Lib.hid hF; have HK := Lib.hid hk
  clear hF hk
  obtain ⟨n, hn⟩ : ∃ n, n = t.size := ⟨_, rfl⟩
  have hnl : t.data.toList.length = n := by rw [hn]; exact Array.length_toList
  obtain ⟨wd, hwd⟩ : ∃ x, x = t.data.toList := ⟨_, rfl⟩
  have HWD := Lib.hid hwd
  rw [← hwd] at hnl
  have HN := Lib.hid hn; have HNL := Lib.hid hnl
  have hn24 : n ≤ 24 := by omega
  have hts : t.size = n := hn.symm
  have wl : IntKind.i64.wrap ((n : Int) + 1) = (n : Int) + 1 := IntWalk.i64_in _ (by omega)
  clear hn hnl
  rw [← hwd]
  clear hwd
  go_enter Tryd.func51, Tryd.ntmps51
  have i0 : (0 : Int) ≤ (n : Int) := by omega
  have i1 : (n : Int) < (n : Int) + 1 := by omega
  have wm : IntKind.i64.wrap ((n : Int) - 1) = (n : Int) - 1 := IntWalk.i64_in _ (by omega)
  have hma : (madeCells #[Value.bool false] (n + 1))[n]? = some (.bool false) := made_one (by omega)
  go_wp2_with (at_make; first | refine wpList_mk elSli rfl _ rfl (n + 1) rfl (by omega) ?_ | refine wpList_mk elBool rfl _ rfl (n + 1) rfl (by omega) ?_)
  refine wp_name ?_
  intro w3 hw3
  have xb : w3.heap[w.heap.size + 1]? = some (.cells (madeCells #[.slice none 0 0] (n + 1)) 26) := by rw [hw3]; exact blk_alloc (blk_new' _ _ (by simp)) _
  have xc : w3.heap[w.heap.size + 1 + 1]? = some (.cells ((madeCells #[.bool false] (n + 1)).setIfInBounds n (.bool true)) 4) := by rw [hw3]; exact blk_new' _ _ (by simp)
  have xf3 : w3.heap[w.heap.size]? = some (Obj.cells #[.int .i64 F.high, .int .i64 F.space, .slice (some ⟨gb, goff, none⟩) F.glyphs.length gc, .slice ks.a F.kerns.length ks.cap] 25) := by rw [hw3]; exact blk_alloc (blk_alloc (blk_new _ _) _) _
  have hB2 : Below w.heap.size w w3 := by rw [hw3]; repeat' (first | exact Below.refl _ _ | assumption | refine below_drewN ?_ _ | refine Below.drew ?_ | refine Below.alloc ?_ (by first | assumption | omega | (simp <;> omega)) _ | refine Below.setCell ?_ (by first | assumption | omega | (simp <;> omega)) _ | refine Ext2.on (by assumption) ?_)
  clear hw3
  obtain ⟨bb, hbb⟩ : ∃ x, x = w.heap.size + 1 := ⟨_, rfl⟩
  obtain ⟨cb, hcb⟩ : ∃ x, x = w.heap.size + 1 + 1 := ⟨_, rfl⟩
  rw [← hbb] at xb
  rw [← hcb] at xc
  have hS3 : RSt w w3 n bb cb (tblR F wd n (some [])) := by
    refine ⟨hB2, ⟨by omega, by omega⟩, ⟨_, xb, by simp [madeCells], fun k hk => ⟨.slice none 0 0, ?_, .inl ⟨rfl, ?_⟩⟩⟩, ⟨_, xc, by simp [madeCells], fun k hk => ?_⟩⟩
    · exact made_one (by omega)
    · unfold tblR; rw [if_neg (by omega)]; split <;> rfl
    · unfold tblR; rw [if_neg (by omega)]
      by_cases hkn : k = n
      · rw [if_pos hkn, hkn, Array.getElem?_setIfInBounds, if_pos rfl, if_pos (by simp [madeCells])]; rfl
      · rw [if_neg hkn, Array.getElem?_setIfInBounds, if_neg (Ne.symm hkn)]; exact made_one (by omega)
  try rw [← hcb]
  try rw [← hbb]
  have HXF := Lib.hid xf3
  have HS3 := Lib.hid hS3
  have HBB := Lib.hid hbb; have HCB := Lib.hid hcb
  clear xb xc xf3 hB2 hma hS3 hbb hcb i0 i1 wl
  go_loopw [8] (fun p wr => ∃ m : Nat, p = .int .i64 ((m : Int) - 1) ∧ m ≤ n ∧ RSt w wr n bb cb (fun k => if m ≤ k then setS F (wd.drop k) else none) ∧ wr.heap[w.heap.size]? = some (Obj.cells #[.int .i64 F.high, .int .i64 F.space, .slice (some ⟨gb, goff, none⟩) F.glyphs.length gc, .slice ks.a F.kerns.length ks.cap] 25)) (fun p _ => (intOf p + 1).toNat)
  case atStart => 
    refine ⟨n, rfl, Nat.le_refl _, HS3.out.congr fun k hk => ?_, HXF.out⟩
    unfold tblR
    rw [if_neg (by omega)]
    by_cases hkn : k = n
    · rw [if_pos hkn, if_pos (by omega), hkn, List.drop_eq_nil_of_le (by rw [HNL.out]; exact Nat.le_refl _)]; rfl
    · rw [if_neg hkn, if_neg (by omega)]
  case round =>
    obtain ⟨m, rfl, hm, hS, xf⟩ := hrel
    have HS := Lib.hid hS; have HXF := Lib.hid xf
    clear hS xf
    by_cases h0 : 0 < m
    · go_light
      obtain ⟨i, rfl⟩ : ∃ i, m = i + 1 := ⟨m - 1, by omega⟩
      have e : ((i + 1 : Nat) : Int) - 1 = (i : Int) := by omega
      rw [e]
      clear e h0
      have i0 : (i : Int) ≥ 0 := by omega
      have i0' : (0 : Int) ≤ (i : Int) := by omega
      have i1 : (i : Int) < (n : Int) + 1 := by omega
      have i2 : (i : Int) ≤ (n : Int) := by omega
      have wi : IntKind.i64.wrap ((i : Int) - 1) = (i : Int) - 1 := IntWalk.i64_in _ (by omega)
      go_wp2_with (fail)
      go_loopw [9] (fun p wr => ∃ q : Nat, p = .int .i64 (q : Int) ∧ q ≤ 3 ∧ RSt w wr n bb cb (tblR F wd i (goS F (wd.drop i) q)) ∧ wr.heap[w.heap.size]? = some (Obj.cells #[.int .i64 F.high, .int .i64 F.space, .slice (some ⟨gb, goff, none⟩) F.glyphs.length gc, .slice ks.a F.kerns.length ks.cap] 25)) (fun p _ => (intOf p).toNat)
      case atStart =>
        refine ⟨3, rfl, by omega, HS.out.congr fun k hk => ?_, HXF.out⟩
        unfold tblR
        have e : goS F (wd.drop i) 3 = none := rfl
        rw [e]
        by_cases hki : i < k
        · rw [if_pos (by omega), if_pos hki]
        · rw [if_neg (by omega), if_neg hki]; split <;> rfl
      case round =>
        obtain ⟨q, rfl, hq3, hS, xf⟩ := hrel
        have HSq := Lib.hid hS; have HXFq := Lib.hid xf
        by_cases hq : 1 ≤ q
        · go_light
          have q0 : (q : Int) ≥ 1 := by omega
          have wq : IntKind.i64.wrap ((q : Int) - 1) = (q : Int) - 1 := IntWalk.i64_in _ (by omega)
          clear hS xf
          go_wp2_with (fail)
          go_loopw [10] (fun p wr => ∃ g : Nat, p = .int .i64 (g : Int) ∧ g ≤ F.glyphs.length ∧ RSt w wr n bb cb (tblR F wd i (candAt F (wd.drop i) q g (goS F (wd.drop i) q))) ∧ wr.heap[w.heap.size]? = some (Obj.cells #[.int .i64 F.high, .int .i64 F.space, .slice (some ⟨gb, goff, none⟩) F.glyphs.length gc, .slice ks.a F.kerns.length ks.cap] 25)) (fun p _ => F.glyphs.length - (intOf p).toNat)
          case atStart => exact ⟨0, rfl, Nat.zero_le _, by rw [candAt_zero]; exact HSq.out, HXFq.out⟩
          case round =>
            obtain ⟨g, rfl, hg, hS, xf⟩ := hrel
            have HSg := Lib.hid hS; have HXFg := Lib.hid xf
            have hng := HK.out.ng
            by_cases hlt : g < F.glyphs.length
            · go_light
              obtain ⟨_, _, h1, c0, -, -⟩ := gl_cells (HF.out.below HSg.out.bel).gls.gl hlt
              obtain ⟨rfl, rfl⟩ : gb = _ ∧ goff = _ := by simpa using h1
              obtain ⟨tx, htx⟩ : ∃ x, x = (glD F.glyphs g).text := ⟨_, rfl⟩
              rw [← htx] at c0
              have hls := (glE_wide (HK.out.gl g hlt)).1.1
              rw [← htx] at hls
              have htz : tx.size ≤ 3 := by
                unfold lettersS at hls
                rw [Bool.and_eq_true] at hls
                have := of_decide_eq_true hls.2; omega
              have hrd : (t.extract i n).data.toList = wd.drop i := by rw [← hts, ext_drop, HWD.out]
              have hrs : (t.extract i n).size = n - i := by rw [← hts]; exact ext_size t (by omega)
              have hrl : (wd.drop i).length = n - i := by rw [List.length_drop, HNL.out]
              obtain ⟨rt, hrt⟩ : ∃ x, x = t.extract i n := ⟨_, rfl⟩
              rw [← hrt] at hrd hrs
              have r0 : (0 : Int) ≤ (g : Int) := by omega
              have r1 : (g : Int) < (F.glyphs.length : Int) := by omega
              have w3' : IntKind.i64.wrap ((g : Int) + 1) = (g : Int) + 1 := IntWalk.i64_in _ (by omega)
              have HRT := Lib.hid hrt; have HTX := Lib.hid htx; have HRD := Lib.hid hrd; have HRS := Lib.hid hrs
              obtain ⟨bg, hbg⟩ : ∃ x, x = begS rt tx := ⟨_, rfl⟩
              have HBG : Hid (∀ W, Calls Tryd.prog 74 #[.string (t.extract i n), .string tx] W fun e w' => e = .returned (.bool bg) ∧ W = w') := Lib.hid fun W => by
                rw [hbg, hrt]; exact begins_any _ _ W (by rw [← hrt, hrs]; unfold maxLen; omega) (by unfold maxLen; omega)
              have HB := Lib.hid hbg
              have hfree : candAt F (wd.drop i) q (g + 1) (goS F (wd.drop i) q) = candAt F (wd.drop i) q g (goS F (wd.drop i) q) → True := fun _ => trivial
              clear h1 hls hrd hrs hrt htx hbg hS hfree
              have qFc := cell_blk xf
              have qFf := frz_blk xf
              by_cases hz : tx.size = q
              · have hzb : ((tx.size : Int) != (q : Int)) = false := by simp [hz]
                cases bg
                case false =>
                  have hsk := candAt_skip (s := rt) (q := q) hlt (by rw [← HTX.out, ← HB.out, Bool.and_false]) (goS F (wd.drop i) q)
                  rw [HRD.out] at hsk
                  have HSK := Lib.hid hsk
                  clear hsk hz
                  go_wp2_with (go_at_call 74; (with_reducible refine (HBG.out _).mono ?_); rintro e wb ⟨rfl, rfl⟩)
                  exact ⟨⟨g + 1, congrArg (Value.int .i64) (by omega), hlt, by rw [HSK.out]; exact HSg.out, HXFg.out⟩, by simp only [intOf]; omega⟩
                case true =>
                  obtain ⟨hqr, hc1, hc2⟩ := candAt_hit HK.out (s := rt) (q := q) hlt (by rw [← HTX.out]; exact hz) (by rw [← HTX.out]; exact HB.out.symm) (goS F (wd.drop i) q)
                  rw [HRD.out, List.drop_drop] at hc2
                  rw [HRD.out] at hc1
                  have hjn : i + q ≤ n := by have := HRS.out; omega
                  obtain ⟨j, hj⟩ : ∃ j, j = i + q := ⟨_, rfl⟩
                  rw [← hj] at hc2 hjn
                  have s1 : IntKind.i64.wrap ((i : Int) + (q : Int)) = (j : Int) := by rw [hj]; exact IntWalk.i64_in _ (by omega)
                  have j0 : (0 : Int) ≤ (j : Int) := by omega
                  have j1 : (j : Int) < (n : Int) + 1 := by omega
                  have hTj : tblR F wd i (candAt F (wd.drop i) q g (goS F (wd.drop i) q)) j = setS F (wd.drop j) := if_pos (by omega)
                  have hTi : tblR F wd i (candAt F (wd.drop i) q g (goS F (wd.drop i) q)) i = goS F (wd.drop i) q := by unfold tblR; rw [if_neg (by omega), if_pos rfl, hc1]
                  obtain ⟨vj, d1, d2, d3, -, -⟩ := HSg.out.at hjn
                  obtain ⟨vi, e1, e2, e3, -, -⟩ := HSg.out.at (k := i) (by omega)
                  rw [hTj] at d2 d3
                  rw [hTi] at e2 e3
                  have hne := HSg.out.ne
                  have hne2 := Ne.symm hne
                  have HJ := Lib.hid hj; have HC1 := Lib.hid hc1; have HC2 := Lib.hid hc2; have HZ := Lib.hid hz
                  have hrl := setS_len F _ (wd.drop j) (Nat.le_refl _)
                  have hol : ∀ b, goS F (wd.drop i) q = some b → b.length ≤ 24 := fun b hb => by
                    have := goS_len F q hb
                    rw [List.length_drop, HNL.out] at this; omega
                  rw [List.length_drop, HNL.out] at hrl
                  clear hj hc1 hc2 hz hTj hTi hqr
                  cases hsj : setS F (wd.drop j) with
                  | none =>
                    rw [hsj] at d3
                    have HSK : Hid (candAt F (wd.drop i) q (g + 1) (goS F (wd.drop i) q) = candAt F (wd.drop i) q g (goS F (wd.drop i) q)) := Lib.hid (by rw [HC2.out, hsj, HC1.out]; rfl)
                    have d3 : wr.cell? ⟨cb, j, none⟩ = some (.bool false) := d3
                    clear d1 d2 e1 e2 e3 hsj
                    go_wp2_with (go_at_call 74; (with_reducible refine (HBG.out _).mono ?_); rintro e wb ⟨rfl, rfl⟩)
                    exact ⟨⟨g + 1, congrArg (Value.int .i64) (by omega), hlt, by rw [HSK.out]; exact HSg.out, HXFg.out⟩, by simp only [intOf]; omega⟩
                  | some l =>
                    rw [hsj] at d2 d3
                    have hl24 := hrl l hsj
                    have HSJ := Lib.hid hsj
                    have d3 : wr.cell? ⟨cb, j, none⟩ = some (.bool true) := d3
                    clear hsj hrl
                    rcases d2 with ⟨rfl, h0⟩ | ⟨lb, loff, lcap, rfl, hli⟩
                    · have h0 : l = [] := h0
                      subst h0
                      have d1 : wr.cell? ⟨bb, j, none⟩ = some (.slice none 0 0) := d1
                      have d3 : wr.cell? ⟨cb, j, none⟩ = some (.bool true) := d3
                      obtain ⟨i0x, hi0x, -⟩ := info_parts elInt.info
                      have w1x : IntKind.i64.wrap (1 : Int) = 1 := by decide
                      obtain ⟨ob, hbo⟩ : ∃ x, x = goS F (wd.drop i) q := ⟨_, rfl⟩
                      rw [← hbo] at e2 e3
                      cases ob with
                      | none =>
                        have e3 : wr.cell? ⟨cb, i, none⟩ = some (.bool false) := e3
                        have HBO2 : Hid (better g (some []) (goS F (wd.drop i) q) = some (g :: [])) := Lib.hid (by rw [← hbo]; rfl)
                        clear hbo hol e1 e2
                        go_wp2_with (go_at_call 74; (with_reducible refine (HBG.out _).mono ?_); rintro e wb ⟨rfl, rfl⟩)
                        have e1 := trivial
                        refine region_st [⟨[], [0, 1, 2, 3, 4, 5, 6, 7, 8, 9, 10, 11, 12, 13, 14, 15, 16, 17, 18, 19, 20], []⟩] (by kernel_rfl) (by kernel_rfl) (by intro c a d v w h; cases d <;> exact h) ?_
                        refine wpSt_cons ?_
                        simp only [picks, List.drop_succ_cons, List.drop_zero]
                        repeat ((with_reducible refine wpQ0_step (fun K hK => ?_)); go_simp; ((with_reducible refine hK _ ?_); clear hK K))
                        refine wpQ0_nil ?_
                        repeat ((with_reducible refine wpQ2_step (fun K hK => ?_)); go_simp; first | ((with_reducible refine hK _ ?_); clear hK K) | (apply Exists.intro; refine ⟨fun x => ?_, hK _ ?_⟩; (fail); clear hK K))
                        refine wpQ2_nil ?_
                        intro w9 hw9
                        refine wpTl_nil ?_
                        refine wpSt_nil ?_
                        have HS9 := Lib.hid (HSg.out.ext hw9)
                        have HXF9 := Lib.hid (Ext2.blk hw9 HXFg.out)
                        have d1 := (Below.cell hw9 (cell_lt d1)).trans d1
                        have l1 : bb < w9.heap.size := cell_lt d1
                        have l2 : ¬ bb = w9.heap.size := by omega
                        clear e1 e3 d3 hw9
                        go_wp2_with (at_builtin; go_loud (refine wpList_append_own_none rfl _ _ 26 rfl w9.heap.size 3 i0x 1 elInt.und hi0x _ 1 _ rfl (own_one w9 (Nat.le_refl _) 3 (.int .i64 (g : Int)) (intC ([g].map Int.ofNat)) rfl) rfl ?_; refine wpList_name ?_; intro w5 hw5; obtain ⟨hE5, hv5⟩ : Ext2 w9 w5 ∧ RV w5 (some [g]) (.slice (some ⟨w9.heap.size, 0, none⟩) 1 1) := (by rw [hw5]; exact app_nil g); have hwx : w9.heap.size ≤ w9.heap.size := Nat.le_refl _; clear hw5; have hS5 := HS9.out.ext hE5; obtain ⟨vx, f1, -, f3, f4, f5⟩ := hS5.at (k := i) (by omega)))
                        have hfin := hS5.put (i := i) (by omega) hv5
                        have xf5 := blk_set_ne (b' := bb) (o := i) (v := (.slice (some ⟨w9.heap.size, 0, none⟩) 1 1)) (blk_set_ne (b' := cb) (o := i) (v := .bool true) (Ext2.blk hE5 HXF9.out) (by have := HCB.out; omega)) (by have := HBB.out; omega)
                        have HFIN := Lib.hid hfin; have HXF5 := Lib.hid xf5
                        clear hfin xf5 hS5 f1 f3 f4 f5 hv5 hE5
                        refine ⟨⟨g + 1, congrArg (Value.int .i64) (by omega), hlt, HFIN.out.congr fun k hk => ?_, HXF5.out⟩, by simp only [intOf]; omega⟩
                        rw [HC2.out, HSJ.out, HBO2.out]
                        exact tblR_put F wd i _ _ k
                      | some bl =>
                        have e3 : wr.cell? ⟨cb, i, none⟩ = some (.bool true) := e3
                        have hbl := hol bl hbo.symm
                        obtain ⟨ai, ci, rfl⟩ := e2.val
                        have e1 : wr.cell? ⟨bb, i, none⟩ = some (.slice ai bl.length ci) := e1
                        by_cases hsh : ([] : List Nat).length + 1 < bl.length
                        · have HBO2 : Hid (better g (some []) (goS F (wd.drop i) q) = some (g :: [])) := Lib.hid (by rw [← hbo]; exact if_pos hsh)
                          have hsh : 0 + 1 < bl.length := hsh
                          have hd : decide ((1 : Int) < (bl.length : Int)) = true := decide_eq_true (by omega)
                          clear hbo hol e2 hsh
                          go_wp2_with (go_at_call 74; (with_reducible refine (HBG.out _).mono ?_); rintro e wb ⟨rfl, rfl⟩)
                          refine region_st [⟨[], [0, 1, 2, 3, 4, 5, 6, 7, 8, 9, 10, 11, 12, 13, 14, 15, 16, 17, 18, 19, 20], []⟩] (by kernel_rfl) (by kernel_rfl) (by intro c a d v w h; cases d <;> exact h) ?_
                          refine wpSt_cons ?_
                          simp only [picks, List.drop_succ_cons, List.drop_zero]
                          repeat ((with_reducible refine wpQ0_step (fun K hK => ?_)); go_simp; ((with_reducible refine hK _ ?_); clear hK K))
                          refine wpQ0_nil ?_
                          repeat ((with_reducible refine wpQ2_step (fun K hK => ?_)); go_simp; first | ((with_reducible refine hK _ ?_); clear hK K) | (apply Exists.intro; refine ⟨fun x => ?_, hK _ ?_⟩; (fail); clear hK K))
                          refine wpQ2_nil ?_
                          intro w9 hw9
                          refine wpTl_nil ?_
                          refine wpSt_nil ?_
                          have HS9 := Lib.hid (HSg.out.ext hw9)
                          have HXF9 := Lib.hid (Ext2.blk hw9 HXFg.out)
                          have d1 := (Below.cell hw9 (cell_lt d1)).trans d1
                          have l1 : bb < w9.heap.size := cell_lt d1
                          have l2 : ¬ bb = w9.heap.size := by omega
                          clear e1 e3 d3 hw9
                          go_wp2_with (at_builtin; go_loud (refine wpList_append_own_none rfl _ _ 26 rfl w9.heap.size 3 i0x 1 elInt.und hi0x _ 1 _ rfl (own_one w9 (Nat.le_refl _) 3 (.int .i64 (g : Int)) (intC ([g].map Int.ofNat)) rfl) rfl ?_; refine wpList_name ?_; intro w5 hw5; obtain ⟨hE5, hv5⟩ : Ext2 w9 w5 ∧ RV w5 (some [g]) (.slice (some ⟨w9.heap.size, 0, none⟩) 1 1) := (by rw [hw5]; exact app_nil g); have hwx : w9.heap.size ≤ w9.heap.size := Nat.le_refl _; clear hw5; have hS5 := HS9.out.ext hE5; obtain ⟨vx, f1, -, f3, f4, f5⟩ := hS5.at (k := i) (by omega)))
                          have hfin := hS5.put (i := i) (by omega) hv5
                          have xf5 := blk_set_ne (b' := bb) (o := i) (v := (.slice (some ⟨w9.heap.size, 0, none⟩) 1 1)) (blk_set_ne (b' := cb) (o := i) (v := .bool true) (Ext2.blk hE5 HXF9.out) (by have := HCB.out; omega)) (by have := HBB.out; omega)
                          have HFIN := Lib.hid hfin; have HXF5 := Lib.hid xf5
                          clear hfin xf5 hS5 f1 f3 f4 f5 hv5 hE5
                          refine ⟨⟨g + 1, congrArg (Value.int .i64) (by omega), hlt, HFIN.out.congr fun k hk => ?_, HXF5.out⟩, by simp only [intOf]; omega⟩
                          rw [HC2.out, HSJ.out, HBO2.out]
                          exact tblR_put F wd i _ _ k
                        · have HSK : Hid (candAt F (wd.drop i) q (g + 1) (goS F (wd.drop i) q) = candAt F (wd.drop i) q g (goS F (wd.drop i) q)) := Lib.hid (by rw [HC2.out, HSJ.out, HC1.out, ← hbo]; exact if_neg hsh)
                          have hsh : ¬ 0 + 1 < bl.length := hsh
                          have hd : decide ((1 : Int) < (bl.length : Int)) = false := decide_eq_false (by omega)
                          clear hbo hol e2 hsh
                          go_wp2_with (go_at_call 74; (with_reducible refine (HBG.out _).mono ?_); rintro e wb ⟨rfl, rfl⟩)
                          refine region_st [⟨[], [0, 1, 2, 3, 4, 5, 6, 7, 8, 9, 10, 11, 12, 13, 14, 15, 16, 17, 18, 19, 20], []⟩] (by kernel_rfl) (by kernel_rfl) (by intro c a d v w h; cases d <;> exact h) ?_
                          refine wpSt_cons ?_
                          simp only [picks, List.drop_succ_cons, List.drop_zero]
                          repeat ((with_reducible refine wpQ0_step (fun K hK => ?_)); go_simp; ((with_reducible refine hK _ ?_); clear hK K))
                          refine wpQ0_nil ?_
                          repeat ((with_reducible refine wpQ2_step (fun K hK => ?_)); go_simp; first | ((with_reducible refine hK _ ?_); clear hK K) | (apply Exists.intro; refine ⟨fun x => ?_, hK _ ?_⟩; (fail); clear hK K))
                          refine wpQ2_nil ?_
                          intro w9 hw9
                          refine wpTl_nil ?_
                          refine wpSt_nil ?_
                          have HS9 := Lib.hid (HSg.out.ext hw9)
                          have HXF9 := Lib.hid (Ext2.blk hw9 HXFg.out)
                          clear e1 e3 d3 d1 hw9
                          go_wp2_with (fail)
                          exact ⟨⟨g + 1, congrArg (Value.int .i64) (by omega), hlt, by rw [HSK.out]; exact HS9.out, HXF9.out⟩, by simp only [intOf]; omega⟩
                    · have hli : IntsT wr ⟨some ⟨lb, loff, none⟩, lcap⟩ (l.map Int.ofNat) := hli
                      have d1 : wr.cell? ⟨bb, j, none⟩ = some (.slice (some ⟨lb, loff, none⟩) l.length lcap) := d1
                      have HLC : Hid (∀ i j, i < l.length → j < 1 → wr.cell? ⟨lb, loff + i * 1 + j, none⟩ = some (intC (l.map Int.ofNat) i j)) := Lib.hid fun i j hi hj => by
                        obtain ⟨b', off', ha', hc'⟩ := hli.1.cell i j (by rw [ints_len]; exact hi) hj
                        obtain ⟨rfl, rfl⟩ : lb = b' ∧ loff = off' := by simpa using ha'
                        exact hc'
                      have wl : IntKind.i64.wrap (1 + (l.length : Int)) = 1 + (l.length : Int) := IntWalk.i64_in _ (by omega)
                      clear hli
                      obtain ⟨ob, hbo⟩ : ∃ x, x = goS F (wd.drop i) q := ⟨_, rfl⟩
                      rw [← hbo] at e2 e3
                      cases ob with
                      | none =>
                        have e3 : wr.cell? ⟨cb, i, none⟩ = some (.bool false) := e3
                        have HBO2 : Hid (better g (some l) (goS F (wd.drop i) q) = some (g :: l)) := Lib.hid (by rw [← hbo]; rfl)
                        clear hbo hol e1 e2
                        go_wp2_with (go_at_call 74; (with_reducible refine (HBG.out _).mono ?_); rintro e wb ⟨rfl, rfl⟩)
                        have e1 := trivial
                        refine region_st [⟨[], [0, 1, 2, 3, 4, 5, 6, 7, 8, 9, 10, 11, 12, 13, 14, 15, 16, 17, 18, 19, 20], []⟩] (by kernel_rfl) (by kernel_rfl) (by intro c a d v w h; cases d <;> exact h) ?_
                        refine wpSt_cons ?_
                        simp only [picks, List.drop_succ_cons, List.drop_zero]
                        repeat ((with_reducible refine wpQ0_step (fun K hK => ?_)); go_simp; ((with_reducible refine hK _ ?_); clear hK K))
                        refine wpQ0_nil ?_
                        repeat ((with_reducible refine wpQ2_step (fun K hK => ?_)); go_simp; first | ((with_reducible refine hK _ ?_); clear hK K) | (apply Exists.intro; refine ⟨fun x => ?_, hK _ ?_⟩; (fail); clear hK K))
                        refine wpQ2_nil ?_
                        intro w9 hw9
                        refine wpTl_nil ?_
                        refine wpSt_nil ?_
                        have HS9 := Lib.hid (HSg.out.ext hw9)
                        have HXF9 := Lib.hid (Ext2.blk hw9 HXFg.out)
                        have HLC9 : Hid (∀ i j, i < l.length → j < 1 → w9.cell? ⟨lb, loff + i * 1 + j, none⟩ = some (intC (l.map Int.ofNat) i j)) := Lib.hid fun i j hi hj => by rw [Below.cell hw9 (cell_lt (HLC.out i j hi hj))]; exact HLC.out i j hi hj
                        have d1 := (Below.cell hw9 (cell_lt d1)).trans d1
                        have l1 : bb < w9.heap.size := cell_lt d1
                        have l2 : ¬ bb = w9.heap.size := by omega
                        clear e1 e3 d3 hw9
                        go_wp2_with (at_builtin; go_loud (refine app_rows elInt (c2 := intC ((g :: l).map Int.ofNat)) rfl _ _ rfl w9.heap.size rfl (own_one w9 (Nat.le_refl _) 3 (.int .i64 (g : Int)) (intC ((g :: l).map Int.ofNat)) rfl) lb loff l.length lcap rfl (fun i j hi hj => by rw [Below.cell (below_alloc' w9 _) (cell_lt (HLC9.out i j hi hj))]; exact HLC9.out i j hi hj) (fun i j => rfl) (by omega) (by simp) (fun i j hi hj => app_zero g l i j hi) (fun i j hi hj => app_cell g l i j) ?_; intro v5 w5 hO5 hg5; obtain ⟨hE5, hv5⟩ := app_out hO5 hg5; obtain ⟨nb, ncap, hvv, -⟩ := own_some hO5 (by omega); subst hvv; clear hO5 hg5; have hS5 := HS9.out.ext hE5; obtain ⟨vx, f1, -, f3, f4, f5⟩ := hS5.at (k := i) (by omega)))
                        have hfin := hS5.put (i := i) (by omega) hv5
                        have xf5 := blk_set_ne (b' := bb) (o := i) (v := .slice (some ⟨nb, 0, none⟩) (1 + l.length) ncap) (blk_set_ne (b' := cb) (o := i) (v := .bool true) (Ext2.blk hE5 HXF9.out) (by have := HCB.out; omega)) (by have := HBB.out; omega)
                        have HFIN := Lib.hid hfin; have HXF5 := Lib.hid xf5
                        clear hfin xf5 hS5 f1 f3 f4 f5 hv5 hE5
                        refine ⟨⟨g + 1, congrArg (Value.int .i64) (by omega), hlt, HFIN.out.congr fun k hk => ?_, HXF5.out⟩, by simp only [intOf]; omega⟩
                        rw [HC2.out, HSJ.out, HBO2.out]
                        exact tblR_put F wd i _ _ k
                      | some bl =>
                        have e3 : wr.cell? ⟨cb, i, none⟩ = some (.bool true) := e3
                        have hbl := hol bl hbo.symm
                        obtain ⟨ai, ci, rfl⟩ := e2.val
                        have e1 : wr.cell? ⟨bb, i, none⟩ = some (.slice ai bl.length ci) := e1
                        by_cases hsh : l.length + 1 < bl.length
                        · have HBO2 : Hid (better g (some l) (goS F (wd.drop i) q) = some (g :: l)) := Lib.hid (by rw [← hbo]; exact if_pos hsh)
                          have hd : decide (1 + (l.length : Int) < (bl.length : Int)) = true := decide_eq_true (by omega)
                          clear hbo hol e2 hsh
                          go_wp2_with (go_at_call 74; (with_reducible refine (HBG.out _).mono ?_); rintro e wb ⟨rfl, rfl⟩)
                          refine region_st [⟨[], [0, 1, 2, 3, 4, 5, 6, 7, 8, 9, 10, 11, 12, 13, 14, 15, 16, 17, 18, 19, 20], []⟩] (by kernel_rfl) (by kernel_rfl) (by intro c a d v w h; cases d <;> exact h) ?_
                          refine wpSt_cons ?_
                          simp only [picks, List.drop_succ_cons, List.drop_zero]
                          repeat ((with_reducible refine wpQ0_step (fun K hK => ?_)); go_simp; ((with_reducible refine hK _ ?_); clear hK K))
                          refine wpQ0_nil ?_
                          repeat ((with_reducible refine wpQ2_step (fun K hK => ?_)); go_simp; first | ((with_reducible refine hK _ ?_); clear hK K) | (apply Exists.intro; refine ⟨fun x => ?_, hK _ ?_⟩; (fail); clear hK K))
                          refine wpQ2_nil ?_
                          intro w9 hw9
                          refine wpTl_nil ?_
                          refine wpSt_nil ?_
                          have HS9 := Lib.hid (HSg.out.ext hw9)
                          have HXF9 := Lib.hid (Ext2.blk hw9 HXFg.out)
                          have HLC9 : Hid (∀ i j, i < l.length → j < 1 → w9.cell? ⟨lb, loff + i * 1 + j, none⟩ = some (intC (l.map Int.ofNat) i j)) := Lib.hid fun i j hi hj => by rw [Below.cell hw9 (cell_lt (HLC.out i j hi hj))]; exact HLC.out i j hi hj
                          have d1 := (Below.cell hw9 (cell_lt d1)).trans d1
                          have l1 : bb < w9.heap.size := cell_lt d1
                          have l2 : ¬ bb = w9.heap.size := by omega
                          clear e1 e3 d3 hw9
                          go_wp2_with (at_builtin; go_loud (refine app_rows elInt (c2 := intC ((g :: l).map Int.ofNat)) rfl _ _ rfl w9.heap.size rfl (own_one w9 (Nat.le_refl _) 3 (.int .i64 (g : Int)) (intC ((g :: l).map Int.ofNat)) rfl) lb loff l.length lcap rfl (fun i j hi hj => by rw [Below.cell (below_alloc' w9 _) (cell_lt (HLC9.out i j hi hj))]; exact HLC9.out i j hi hj) (fun i j => rfl) (by omega) (by simp) (fun i j hi hj => app_zero g l i j hi) (fun i j hi hj => app_cell g l i j) ?_; intro v5 w5 hO5 hg5; obtain ⟨hE5, hv5⟩ := app_out hO5 hg5; obtain ⟨nb, ncap, hvv, -⟩ := own_some hO5 (by omega); subst hvv; clear hO5 hg5; have hS5 := HS9.out.ext hE5; obtain ⟨vx, f1, -, f3, f4, f5⟩ := hS5.at (k := i) (by omega)))
                          have hfin := hS5.put (i := i) (by omega) hv5
                          have xf5 := blk_set_ne (b' := bb) (o := i) (v := .slice (some ⟨nb, 0, none⟩) (1 + l.length) ncap) (blk_set_ne (b' := cb) (o := i) (v := .bool true) (Ext2.blk hE5 HXF9.out) (by have := HCB.out; omega)) (by have := HBB.out; omega)
                          have HFIN := Lib.hid hfin; have HXF5 := Lib.hid xf5
                          clear hfin xf5 hS5 f1 f3 f4 f5 hv5 hE5
                          refine ⟨⟨g + 1, congrArg (Value.int .i64) (by omega), hlt, HFIN.out.congr fun k hk => ?_, HXF5.out⟩, by simp only [intOf]; omega⟩
                          rw [HC2.out, HSJ.out, HBO2.out]
                          exact tblR_put F wd i _ _ k
                        · have HSK : Hid (candAt F (wd.drop i) q (g + 1) (goS F (wd.drop i) q) = candAt F (wd.drop i) q g (goS F (wd.drop i) q)) := Lib.hid (by rw [HC2.out, HSJ.out, HC1.out, ← hbo]; exact if_neg hsh)
                          have hd : decide (1 + (l.length : Int) < (bl.length : Int)) = false := decide_eq_false (by omega)
                          clear hbo hol e2 hsh
                          go_wp2_with (go_at_call 74; (with_reducible refine (HBG.out _).mono ?_); rintro e wb ⟨rfl, rfl⟩)
                          refine region_st [⟨[], [0, 1, 2, 3, 4, 5, 6, 7, 8, 9, 10, 11, 12, 13, 14, 15, 16, 17, 18, 19, 20], []⟩] (by kernel_rfl) (by kernel_rfl) (by intro c a d v w h; cases d <;> exact h) ?_
                          refine wpSt_cons ?_
                          simp only [picks, List.drop_succ_cons, List.drop_zero]
                          repeat ((with_reducible refine wpQ0_step (fun K hK => ?_)); go_simp; ((with_reducible refine hK _ ?_); clear hK K))
                          refine wpQ0_nil ?_
                          repeat ((with_reducible refine wpQ2_step (fun K hK => ?_)); go_simp; first | ((with_reducible refine hK _ ?_); clear hK K) | (apply Exists.intro; refine ⟨fun x => ?_, hK _ ?_⟩; (fail); clear hK K))
                          refine wpQ2_nil ?_
                          intro w9 hw9
                          refine wpTl_nil ?_
                          refine wpSt_nil ?_
                          have HS9 := Lib.hid (HSg.out.ext hw9)
                          have HXF9 := Lib.hid (Ext2.blk hw9 HXFg.out)
                          clear e1 e3 d3 d1 hw9
                          go_wp2_with (fail)
                          exact ⟨⟨g + 1, congrArg (Value.int .i64) (by omega), hlt, by rw [HSK.out]; exact HS9.out, HXF9.out⟩, by simp only [intOf]; omega⟩
              · have hzb : ((tx.size : Int) != (q : Int)) = true := by simp; omega
                have hsk := candAt_skip (s := rt) (q := q) hlt (by rw [← HTX.out, decide_eq_false hz, Bool.false_and]) (goS F (wd.drop i) q)
                rw [HRD.out] at hsk
                have HSK := Lib.hid hsk
                clear hsk
                go_wp2_with (fail)
                exact ⟨⟨g + 1, congrArg (Value.int .i64) (by omega), hlt, by rw [HSK.out]; exact HSg.out, HXFg.out⟩, by simp only [intOf]; omega⟩
            · obtain rfl : g = F.glyphs.length := by omega
              have r1 : ¬ (F.glyphs.length : Int) < (F.glyphs.length : Int) := by omega
              have qFc := cell_blk xf
              have qFf := frz_blk xf
              clear hS hlt
              go_wp2_with (fail)
              go_roundw
              case rel => exact ⟨q - 1, by go_num, by omega, by rw [goS_step F (wd.drop i) hq hq3, ← candAt_all]; exact HSg.out, HXFg.out⟩
              case measure => simp [intOf]; omega
        · obtain rfl : q = 0 := by omega
          have r1 : ¬ ((0 : Nat) : Int) ≥ 1 := by omega
          go_wp2_with (fail)
          go_roundw
          case rel =>
            refine ⟨i, by go_num, by omega, HSq.out.congr fun k hk => ?_, HXFq.out⟩
            have hne : wd.drop i ≠ [] := fun h => by
              have := congrArg List.length h
              rw [List.length_drop, HNL.out] at this
              simp at this; omega
            unfold tblR
            rw [goS_end F hne]
            by_cases hki : i < k
            · rw [if_pos hki, if_pos (by omega)]
            · rw [if_neg hki]
              by_cases hke : k = i
              · rw [if_pos hke, if_pos (by omega), hke]
              · rw [if_neg hke, if_neg (by omega)]
          case measure => simp [intOf]
    · obtain rfl : m = 0 := by omega
      have r1 : ¬ (((0 : Nat) : Int) - 1 ≥ 0) := by omega
      go_wp2_with (fail)
      obtain ⟨v, c0, hv, c1, -, -⟩ := HS.out.at (k := 0) (Nat.zero_le _)
      simp only [Nat.le_refl, if_true, List.drop_zero] at hv c1
      obtain ⟨bo, hbo⟩ : ∃ x, x = (setS F wd).isSome := ⟨_, rfl⟩
      rw [← hbo] at c1
      have HBO := Lib.hid hbo
      have HV := Lib.hid hv
      have i3 : (0 : Int) < (n : Int) + 1 := by omega
      clear hv hbo
      refine region_ev [] [0, 1, 2, 3, 4, 5, 6, 7] [] [] (by kernel_rfl) (by kernel_rfl) (by intro c a d v w h; cases d <;> exact h) ?_
      simp only [picks, List.drop_succ_cons, List.drop_zero]
      repeat (refine wpQ0_step (fun K hK => ?_); go_simp; (refine hK _ ?_; clear hK K))
      refine wpQ0_nil ?_
      repeat ((with_reducible refine wpQ2_step (fun K hK => ?_)); go_simp; first | ((with_reducible refine hK _ ?_); clear hK K) | (apply Exists.intro; refine ⟨fun x => ?_, hK _ ?_⟩; (fail); clear hK K))
      refine wpQ2_nil ?_
      refine Events.none_ fun w9 hg9 => ?_
      simp only [picks, List.drop_succ_cons, List.drop_zero]
      have hB9 := below_ext HS.out.bel hg9
      have hv9 := HV.out.below hg9
      clear c0 c1 hg9
      go_wp2_with (fail)
      refine bodyPost_ret (v := .tuple #[v, .bool bo]) ?_ rfl ⟨⟨v, by rw [← HBO.out], hv9⟩, hB9⟩
      simp [results, Tryd.results51, go_sem]
end Go.Proofs.YtahgbecfaihfpaaDoor
