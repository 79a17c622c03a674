/-
  law.spelled: what glyphs spell.
-/
import Derived.Test.YtahgbecfaihfpaaDoorTPlSpel
import Derived.Test.YtahgbecfaihfpaaDoorTRefX
namespace Go.Proofs.YtahgbecfaihfpaaDoor.D
def badG (F : Font) (E : List Int) (i : Nat) : Bool := decide (intD E i < 0 ∨ (F.glyphs.length : Int) ≤ intD E i)
def catS (F : Font) (E : List Int) : Nat → ByteArray
  | 0 => ByteArray.empty
  | k + 1 => catS F E k ++ (glD F.glyphs (intD E k).toNat).text
def spelledV (F : Font) (E : List Int) : ByteArray × Bool := if firstN (badG F E) E.length < E.length then (ByteArray.empty, false) else (catS F E E.length, true)
end Go.Proofs.YtahgbecfaihfpaaDoor.D
namespace Go.Proofs.YtahgbecfaihfpaaDoor
open Go.RowKit D
set_option linter.unusedVariables false
set_option linter.unusedSimpArgs false
attribute [local go_sem high] run_minI run_maxI
attribute [local go_sem] upon2 cls_cell cls_frozen forall_const exists_eq_left'
attribute [local go_sem] FirstUpon
theorem cat_size {F : Font} {E : List Int} (hz : ∀ i, i < F.glyphs.length → (glD F.glyphs i).text.size ≤ 140737488355328) : ∀ k, (∀ i, i < k → badG F E i = false) → (catS F E k).size ≤ 140737488355328 * k
  | 0, _ => by simp [catS]
  | k + 1, h => by
    have ih := cat_size hz k (fun i hi => h i (by omega))
    have h1 := of_decide_eq_false (h k (Nat.lt_succ_self _))
    have h2 := hz (intD E k).toNat (by omega)
    rw [catS, ByteArray.size_append]; omega
def SpelPost (w : World) (v : ByteArray × Bool) (e : Ending) (w' : World) : Prop := e = .returned (.tuple #[.string v.1, .bool v.2]) ∧ Below w.heap.size w w'
set_option maxRecDepth 100000 in
set_option maxHeartbeats 2000000 in
theorem spelledL_any {F : Font} {s : FSl} {E : List Int} {es : Sl} {w : World} (hF : FontAt w F s) (hz : ∀ i, i < F.glyphs.length → (glD F.glyphs i).text.size ≤ 140737488355328) (hE : IntsS w es E) (hn : E.length ≤ 24) :
    Calls Tryd.prog 23 #[.agg #[.int .i64 F.high, .int .i64 F.space, .slice s.g.a F.glyphs.length s.g.cap, .slice s.k.a F.kerns.length s.k.cap], .slice es.a E.length es.cap] w (SpelPost w (spelledV F E)) := by
  obtain ⟨⟨c, d⟩, hV⟩ : ∃ V, V = spelledV F E := ⟨_, rfl⟩
  rw [← hV]
  rcases Nat.eq_zero_or_pos E.length with hE0 | hE0
  · have hcd : (c, d) = (ByteArray.empty, true) := by rw [hV]; unfold spelledV; rw [hE0, if_neg (Nat.not_lt_zero _)]; rfl
    obtain ⟨rfl, rfl⟩ := Prod.mk.inj hcd
    have hle := hE.le; have hmx := hE.max
    have r1 : ¬ (0 : Int) < (E.length : Int) := by omega
    clear hF hz hE hn hE0 hV hcd
    go_enter Tryd.func23, Tryd.ntmps23
    go_wp2_with (fail)
    go_loopw [6, 7] (fun v i wr => v = .string ByteArray.empty ∧ i = .int .i64 0 ∧ Below w.heap.size w wr) (fun _ _ _ => 0)
    case atStart => exact ⟨rfl, rfl, by repeat' (first | exact Below.refl _ _ | assumption | refine below_drewN ?_ _ | refine Below.drew ?_ | refine Below.alloc ?_ (by first | assumption | omega | (simp <;> omega)) _ | refine Below.setCell ?_ (by first | assumption | omega | (simp <;> omega)) _ | refine Ext2.on (by assumption) ?_)⟩
    case round =>
      obtain ⟨rfl, rfl, hB⟩ := hrel
      go_wp2_with (fail)
      refine bodyPost_ret (v := .tuple #[.string ByteArray.empty, .bool true]) ?_ rfl ⟨rfl, hB⟩
      simp [results, Tryd.results23, go_sem]
  · obtain ⟨eb, eoff, hea, -⟩ := int_cell hE hE0
    have hec := hE.le; have hem := hE.max
    obtain ⟨ea, ec⟩ := es
    dsimp only at hea hec hem
    subst hea
    have hgc := hF.gls.gl.le; have hgm := hF.gls.gl.max
    have hga : F.glyphs.length = 0 ∨ ∃ gb goff, s.g.a = some ⟨gb, goff, none⟩ := by
      rcases Nat.eq_zero_or_pos F.glyphs.length with h | h
      · exact .inl h
      · obtain ⟨b, off, h1, -⟩ := gl_cells hF.gls.gl (i := 0) h; exact .inr ⟨b, off, h1⟩
    obtain ⟨⟨ga, gc⟩, rs, ks⟩ := s
    dsimp only at hga hgc hgm
    have HF := Lib.hid hF; have HZ := Lib.hid hz; have HE := Lib.hid hE; have HV := Lib.hid hV; have HGA := Lib.hid hga
    clear hF hz hE hV hga
    go_enter Tryd.func23, Tryd.ntmps23
    go_wp2_with (fail)
    refine wp_name ?_
    intro w1 h1
    have xf : w1.heap[w.heap.size]? = some (Obj.cells #[.int .i64 F.high, .int .i64 F.space, .slice ga F.glyphs.length gc, .slice ks.a F.kerns.length ks.cap] 25) := by rw [h1]; exact blk_new _ _
    have hB1 : Below w.heap.size w w1 := by rw [h1]; exact below_alloc' _ _
    have HXF := Lib.hid xf; have HB1 := Lib.hid hB1
    clear h1 xf hB1
    go_loopw [6, 7] (fun v i wr => ∃ k : Nat, i = .int .i64 (k : Int) ∧ k ≤ E.length ∧ v = .string (catS F E k) ∧ Ext2 w1 wr ∧ ∀ j, j < k → badG F E j = false) (fun _ i _ => E.length - (intOf i).toNat)
    case atStart => exact ⟨0, rfl, Nat.zero_le _, rfl, Below.refl _ _, fun j h => absurd h (Nat.not_lt_zero j)⟩
    case round =>
      obtain ⟨k, rfl, hk, rfl, hEr, hgood⟩ := hrel
      have HEr := Lib.hid hEr; have HG := Lib.hid hgood
      have hBr := below_ext HB1.out hEr
      clear hgood
      by_cases hlt : k < E.length
      · obtain ⟨_, _, e1, ck⟩ := int_cell (HE.out.below hBr) hlt
        obtain ⟨rfl, rfl⟩ : eb = _ ∧ eoff = _ := by simpa using e1
        have hbg : badG F E k = decide (intD E k < 0 ∨ (F.glyphs.length : Int) ≤ intD E k) := rfl
        obtain ⟨y, hy⟩ : ∃ y, y = intD E k := ⟨_, rfl⟩
        rw [← hy] at ck hbg
        have HY := Lib.hid hy; have HBG := Lib.hid hbg
        have r0 : (0 : Int) ≤ (k : Int) := by omega
        have r1 : (k : Int) < (E.length : Int) := by omega
        have w3' : IntKind.i64.wrap ((k : Int) + 1) = (k : Int) + 1 := IntWalk.i64_in _ (by omega)
        have xf := Ext2.blk hEr HXF.out
        clear e1 hy hbg hEr
        have qFc := cell_blk xf
        have qFf := frz_blk xf
        by_cases hb1 : y < 0
        · have hcd : (c, d) = (ByteArray.empty, false) := by rw [HV.out]; unfold spelledV; rw [firstN_at HG.out (by rw [HBG.out]; exact decide_eq_true (.inl hb1)) hlt, if_pos hlt]
          obtain ⟨rfl, rfl⟩ := Prod.mk.inj hcd
          have hbb : decide (y < 0) = true := decide_eq_true hb1
          clear hcd
          go_wp2_with (fail)
          refine region_st [⟨[], [0, 1, 2, 3, 4, 5, 6, 7, 8, 9, 10, 11, 12, 13, 14], []⟩] (by kernel_rfl) (by kernel_rfl) (by intro c a d v w h; cases d <;> exact h) ?_
          refine wpSt_cons ?_
          simp only [picks, List.drop_succ_cons, List.drop_zero]
          repeat ((with_reducible refine wpQ0_step (fun K hK => ?_)); go_simp; ((with_reducible refine hK _ ?_); clear hK K))
          refine wpQ0_nil ?_
          repeat ((with_reducible refine wpQ2_step (fun K hK => ?_)); go_simp; first | ((with_reducible refine hK _ ?_); clear hK K) | (apply Exists.intro; refine ⟨fun x => ?_, hK _ ?_⟩; (fail); clear hK K))
          refine wpQ2_nil ?_
          intro w8 hw8
          refine wpTl_nil ?_
          refine wpSt_nil ?_
          have hB8 := below_ext hBr hw8
          clear qFc qFf xf ck hw8
          go_wp2_with (fail)
          refine bodyPost_ret (v := .tuple #[.string ByteArray.empty, .bool false]) ?_ rfl ⟨rfl, hB8⟩
          simp [results, Tryd.results23, go_sem]
          rfl
        · have hbb : decide (y < 0) = false := decide_eq_false hb1
          by_cases hb2 : (F.glyphs.length : Int) ≤ y
          · have hcd : (c, d) = (ByteArray.empty, false) := by rw [HV.out]; unfold spelledV; rw [firstN_at HG.out (by rw [HBG.out]; exact decide_eq_true (.inr hb2)) hlt, if_pos hlt]
            obtain ⟨rfl, rfl⟩ := Prod.mk.inj hcd
            have hbb2 : decide (y ≥ (F.glyphs.length : Int)) = true := decide_eq_true hb2
            have hbb3 : decide ((F.glyphs.length : Int) ≤ y) = true := decide_eq_true hb2
            clear hcd
            go_wp2_with (fail)
            refine region_st [⟨[], [0, 1, 2, 3, 4, 5, 6, 7, 8, 9, 10, 11, 12, 13, 14], []⟩] (by kernel_rfl) (by kernel_rfl) (by intro c a d v w h; cases d <;> exact h) ?_
            refine wpSt_cons ?_
            simp only [picks, List.drop_succ_cons, List.drop_zero]
            repeat ((with_reducible refine wpQ0_step (fun K hK => ?_)); go_simp; ((with_reducible refine hK _ ?_); clear hK K))
            refine wpQ0_nil ?_
            repeat ((with_reducible refine wpQ2_step (fun K hK => ?_)); go_simp; first | ((with_reducible refine hK _ ?_); clear hK K) | (apply Exists.intro; refine ⟨fun x => ?_, hK _ ?_⟩; (fail); clear hK K))
            refine wpQ2_nil ?_
            intro w8 hw8
            refine wpTl_nil ?_
            refine wpSt_nil ?_
            have hB8 := below_ext hBr hw8
            clear qFc qFf xf ck hw8
            go_wp2_with (fail)
            refine bodyPost_ret (v := .tuple #[.string ByteArray.empty, .bool false]) ?_ rfl ⟨rfl, hB8⟩
            simp [results, Tryd.results23, go_sem]
            rfl
          · go_light
            have hbb2 : decide (y ≥ (F.glyphs.length : Int)) = false := decide_eq_false hb2
            have hbb3 : decide ((F.glyphs.length : Int) ≤ y) = false := decide_eq_false hb2
            have hgo : badG F E k = false := by rw [HBG.out]; exact decide_eq_false (by omega)
            obtain ⟨g, hg⟩ : ∃ g : Nat, y = (g : Int) := ⟨y.toNat, by omega⟩
            have hgl : g < F.glyphs.length := by omega
            obtain ⟨gb, goff, rfl⟩ := (HGA.out).resolve_left (by omega)
            have HGO := Lib.hid hgo
            have hsz := cat_size HZ.out k HG.out
            have hsz2 := HZ.out g hgl
            have hct : catS F E (k + 1) = catS F E k ++ (glD F.glyphs g).text := by rw [catS, ← HY.out, hg]; simp
            obtain ⟨_, _, e2, g0, -, -⟩ := gl_cells (HF.out.below hBr).gls.gl hgl
            obtain ⟨rfl, rfl⟩ : gb = _ ∧ goff = _ := by simpa using e2
            obtain ⟨t, ht⟩ : ∃ t, t = (glD F.glyphs g).text := ⟨_, rfl⟩
            obtain ⟨S, hS⟩ : ∃ S, S = catS F E k := ⟨_, rfl⟩
            rw [← ht] at g0 hsz2 hct
            rw [← hS] at hsz hct ⊢
            have HCT := Lib.hid hct
            have hov : ¬ 9223372036854775807 < S.size + t.size := by omega
            subst hg
            have g1 : (g : Int) < (F.glyphs.length : Int) := by omega
            have g2 : (0 : Int) ≤ (g : Int) := by omega
            clear hgo e2 ht hS hsz hsz2 hct hb1 hb2
            go_wp2_with (fail)
            refine region_st [⟨[], [0, 1, 2, 3, 4, 5, 6, 7, 8, 9, 10, 11, 12, 13, 14], []⟩] (by kernel_rfl) (by kernel_rfl) (by intro c a d v w h; cases d <;> exact h) ?_
            refine wpSt_cons ?_
            simp only [picks, List.drop_succ_cons, List.drop_zero]
            repeat ((with_reducible refine wpQ0_step (fun K hK => ?_)); go_simp; ((with_reducible refine hK _ ?_); clear hK K))
            refine wpQ0_nil ?_
            repeat ((with_reducible refine wpQ2_step (fun K hK => ?_)); go_simp; first | ((with_reducible refine hK _ ?_); clear hK K) | (apply Exists.intro; refine ⟨fun x => ?_, hK _ ?_⟩; (fail); clear hK K))
            refine wpQ2_nil ?_
            intro w8 hw8
            refine wpTl_nil ?_
            refine wpSt_nil ?_
            have HE8 := Lib.hid (ext_trans HEr.out hw8)
            have xf := Ext2.blk hw8 xf
            have ck := (Below.cell hw8 (cell_lt ck)).trans ck
            have g0 := (Below.cell hw8 (cell_lt g0)).trans g0
            clear qFc qFf hw8
            have qFc := cell_blk xf
            have qFf := frz_blk xf
            go_wp2_with (fail)
            refine region_ev [] [0, 1, 2, 3, 4, 5, 6, 7, 8, 9, 10, 11] [] [] (by kernel_rfl) (by kernel_rfl) (by intro c a d v w h; cases d <;> exact h) ?_
            simp only [picks, List.drop_succ_cons, List.drop_zero]
            repeat (refine wpQ0_step (fun K hK => ?_); go_simp; (refine hK _ ?_; clear hK K))
            refine wpQ0_nil ?_
            repeat ((with_reducible refine wpQ2_step (fun K hK => ?_)); go_simp; first | ((with_reducible refine hK _ ?_); clear hK K) | (apply Exists.intro; refine ⟨fun x => ?_, hK _ ?_⟩; (fail); clear hK K))
            refine wpQ2_nil ?_
            refine Events.none_ fun w9 hg9 => ?_
            simp only [picks, List.drop_succ_cons, List.drop_zero]
            have hE9 := ext_trans HE8.out hg9
            clear qFc qFf xf ck g0 hg9
            go_wp2_with (fail)
            go_roundw
            case rel => exact ⟨k + 1, by go_num, hlt, by rw [HCT.out], hE9, fun j hj => by
              rcases Nat.lt_or_ge j k with h | h
              · exact HG.out j h
              · obtain rfl : j = k := by omega
                exact HGO.out⟩
            case measure => simp [intOf]; omega
      · obtain rfl : k = E.length := by omega
        have r1 : ¬ (E.length : Int) < (E.length : Int) := by omega
        have hcd : (c, d) = (catS F E E.length, true) := by rw [HV.out]; unfold spelledV; rw [firstN_none HG.out, if_neg (Nat.lt_irrefl _)]
        obtain ⟨rfl, rfl⟩ := Prod.mk.inj hcd
        clear hlt hEr hcd
        go_wp2_with (fail)
        refine bodyPost_ret (v := .tuple #[.string (catS F E E.length), .bool true]) ?_ rfl ⟨rfl, hBr⟩
        simp [results, Tryd.results23, go_sem]
/-- What a list of glyphs spells, as bytes. -/
theorem cat_spell {F : Font} {l : List Nat} : ∀ k, k ≤ l.length → (catS F (l.map Int.ofNat) k).data.toList = spellL F (l.take k)
  | 0, _ => rfl
  | k + 1, h => by
    have h1 : intD (l.map Int.ofNat) k = ((l.getD k 0 : Nat) : Int) := by simp [intD, List.getD_eq_getElem?_getD, show k < l.length by omega]
    have h2 : l.take (k + 1) = l.take k ++ [l.getD k 0] := by
      rw [List.take_add_one, List.getElem?_eq_getElem (by omega), List.getD_eq_getElem?_getD, List.getElem?_eq_getElem (by omega)]; rfl
    rw [catS, h1, Int.toNat_natCast, h2]
    have h3 : spellL F (l.take k ++ [l.getD k 0]) = spellL F (l.take k) ++ (glD F.glyphs (l.getD k 0)).text.data.toList := by simp [spellL]
    rw [h3, ← cat_spell k (by omega), ByteArray.data_append, Array.toList_append]
theorem spelled_ok {F : Font} {E : List Int} (h : (spelledV F E).2 = true) : ∃ o : List Nat, E = o.map Int.ofNat ∧ (∀ g ∈ o, g < F.glyphs.length) ∧ (spelledV F E).1.data.toList = spellL F o := by
  unfold spelledV at h ⊢
  split at h
  · cases h
  · rename_i h1
    rw [if_neg h1]
    have h2 := firstN_le (badG F E) E.length
    have h3 := (firstN_spec (p := badG F E) (n := E.length)).1
    have h4 : ∀ i, i < E.length → 0 ≤ intD E i ∧ intD E i < F.glyphs.length := fun i hi => by
      have := of_decide_eq_false (h3 i (by omega)); omega
    have hE : E = (E.map Int.toNat).map Int.ofNat := by
      rw [List.map_map]
      apply List.ext_getElem (by simp)
      intro i a b
      have := h4 i a
      unfold intD at this
      rw [List.getD_eq_getElem?_getD, List.getElem?_eq_getElem a] at this
      simp only [Option.getD_some] at this
      rw [List.getElem_map]
      show E[i] = (((E[i]).toNat : Nat) : Int)
      omega
    refine ⟨E.map Int.toNat, hE, fun g hg => ?_, ?_⟩
    · obtain ⟨y, hy, rfl⟩ := List.mem_map.1 hg
      obtain ⟨i, hi, rfl⟩ := List.getElem_of_mem hy
      have := h4 i hi
      unfold intD at this
      rw [List.getD_eq_getElem?_getD, List.getElem?_eq_getElem hi] at this
      simp only [Option.getD_some] at this
      omega
    · have h5 := cat_spell (F := F) (l := E.map Int.toNat) E.length (by simp)
      rw [← hE] at h5
      rw [h5, List.take_of_length_le (by simp)]
/-- Glyphs of the font spell. -/
theorem spelled_of {F : Font} {l : List Nat} (h : ∀ g ∈ l, g < F.glyphs.length) : spelledV F (l.map Int.ofNat) = (baL (spellL F l), true) := by
  unfold spelledV
  rw [firstN_none (fun i hi => ?_), if_neg (Nat.lt_irrefl _)]
  · have h5 := cat_spell (F := F) (l := l) l.length (Nat.le_refl _)
    rw [List.take_of_length_le (Nat.le_refl _)] at h5
    rw [List.length_map, ← h5, baL_data]
  · rw [List.length_map] at hi
    have h1 : intD (l.map Int.ofNat) i = ((l.getD i 0 : Nat) : Int) := by simp [intD, List.getD_eq_getElem?_getD, hi]
    have h2 := getD_mem h hi
    exact decide_eq_false (by rw [h1]; omega)
end Go.Proofs.YtahgbecfaihfpaaDoor
