/-
  The law TitleSpelled, walked.
-/
import Derived.Test.YtahgbecfaihfpaaDoorTAwM
import Derived.Test.YtahgbecfaihfpaaDoorTSpelL
import Derived.Test.YtahgbecfaihfpaaDoorTLawSe
import Derived.Test.YtahgbecfaihfpaaDoorDRegT
namespace Go.Proofs.YtahgbecfaihfpaaDoor
open Go.RowKit D
set_option linter.unusedVariables false
set_option linter.unusedSimpArgs false
attribute [local go_sem high] run_minI run_maxI
attribute [local go_sem] upon2 cls_cell cls_frozen forall_const exists_eq_left'
attribute [local go_sem] FirstUpon
theorem elGl : Elem Tryd.prog 22 41 (.agg #[.string ByteArray.empty, .int .i64 0, .slice none 0 0]) 3 48 := ⟨by kernel_rfl, by kernel_rfl, rfl, by omega, by omega⟩
theorem glC_one (l : List Gl) (rs : Nat → Sl) (i j : Nat) : (glC l rs i j).oneCell' = true := by
  rcases j with _ | _ | j <;> rfl
def moreRs (F : Font) (s : FSl) (gr : Sl) : Nat → Sl := fun i => if i = F.glyphs.length then gr else s.rs i
theorem glC_more {F : Font} {s : FSl} {g : Gl} {gr : Sl} {i : Nat} (hi : i < F.glyphs.length) (j : Nat) : glC (F.glyphs ++ [g]) (moreRs F s gr) i j = glC F.glyphs s.rs i j := by
  have h1 := glD_more (g := g) hi
  have h2 : moreRs F s gr i = s.rs i := if_neg (by omega)
  rcases j with _ | _ | j <;> simp only [glC, h1, h2]
theorem glC_last {F : Font} {s : FSl} {g : Gl} {gr : Sl} (j : Nat) : glC (F.glyphs ++ [g]) (moreRs F s gr) F.glyphs.length j = glC [g] (fun _ => gr) 0 j := by
  have h1 := glD_last (l := F.glyphs) (g := g)
  have h2 : moreRs F s gr F.glyphs.length = gr := if_pos rfl
  rcases j with _ | _ | j <;> simp only [glC, h1, h2] <;> rfl
theorem font_more {W : World} {F : Font} {s : FSl} {g : Gl} {gr ns : Sl} (hF : FontAt W F s) (hg : IntsS W gr g.rows) (hgt : g.text.size ≤ maxLen) (hr : RowS W ns 3 (F.glyphs.length + 1) (glC (F.glyphs ++ [g]) (moreRs F s gr))) : FontAt W (moreF F g) ⟨ns, moreRs F s gr, s.k⟩ := by
  have hl : (F.glyphs ++ [g]).length = F.glyphs.length + 1 := by simp
  refine ⟨⟨by show RowS W ns 3 (F.glyphs ++ [g]).length _; rw [hl]; exact hr, fun i hi => ?_, fun i hi => ?_⟩, hF.kn⟩
  · have hi' : i < F.glyphs.length + 1 := by rw [← hl]; exact hi
    show IntsS W (moreRs F s gr i) (glD (F.glyphs ++ [g]) i).rows
    by_cases h : i = F.glyphs.length
    · subst h; rw [glD_last, show moreRs F s gr F.glyphs.length = gr from if_pos rfl]; exact hg
    · rw [glD_more (by omega), show moreRs F s gr i = s.rs i from if_neg h]; exact hF.gls.rows i (by omega)
  · have hi' : i < F.glyphs.length + 1 := by rw [← hl]; exact hi
    show (glD (F.glyphs ++ [g]) i).text.size ≤ maxLen
    by_cases h : i = F.glyphs.length
    · subst h; rw [glD_last]; exact hgt
    · rw [glD_more (by omega)]; exact hF.gls.size i (by omega)
/-- What is spelled has a setting, unless it is too long. -/
theorem spelled_set {F : Font} {E : List Int} {t : ByteArray} (hk : FontOk F) (h : spelledV F E = (t, true)) : ∃ l, setS F t.data.toList = some l ∧ l.length ≤ E.length := by
  obtain ⟨o, hE, ho, hs⟩ := spelled_ok (F := F) (E := E) (by rw [h])
  obtain ⟨l, hl, hle⟩ := set_least hk o ho
  rw [h] at hs
  refine ⟨l, by rw [hs]; exact hl, ?_⟩
  rw [hE, List.length_map]; exact hle
theorem setE_fine {F : Font} {t : ByteArray} (h : setE F t = 0) : (checkF F).2.2 = 0 ∧ lettersS t 24 = true ∧ ∃ l, setS F t.data.toList = some l := by
  unfold setE at h
  by_cases h0 : (checkF F).2.2 = 0
  · rw [if_neg (not_not_intro h0)] at h
    by_cases h1 : lettersS t 24 = false
    · rw [if_pos h1] at h; exact absurd h (by decide)
    · rw [if_neg h1] at h
      refine ⟨h0, by simpa using h1, ?_⟩
      cases hs : setS F t.data.toList with
      | none => rw [hs] at h; simp at h
      | some l => exact ⟨l, rfl⟩
  · rw [if_pos h0] at h; exact absurd h h0
/-- While the further font is made. -/
structure SpSt (w W : World) (F : Font) (s : FSl) (g : Gl) (gr : Sl) (b9 : Nat) : Prop where
  bel : Below w.heap.size w W
  x0 : W.heap[w.heap.size]? = some (Obj.cells #[.int .i64 F.high, .int .i64 F.space, .slice s.g.a F.glyphs.length s.g.cap, .slice s.k.a F.kerns.length s.k.cap] 25 (0, 0))
  x1 : W.heap[w.heap.size + 1]? = some (Obj.cells #[.string g.text, .int .i64 g.wide, .slice gr.a g.rows.length gr.cap] 41 (0, 0))
  x9 : W.heap[b9]? = some (Obj.cells #[.int .i64 F.high, .int .i64 F.space, .slice s.g.a F.glyphs.length s.g.cap, .slice s.k.a F.kerns.length s.k.cap] 25 (0, 0))
  size : b9 + 1 ≤ W.heap.size
  lo : w.heap.size + 1 < b9
def SpS (w : World) (F : Font) (s : FSl) (g : Gl) (gr : Sl) (W : World) : Prop :=
  W.heap[w.heap.size]? = some (Obj.cells #[.int .i64 F.high, .int .i64 F.space, .slice s.g.a F.glyphs.length s.g.cap, .slice s.k.a F.kerns.length s.k.cap] 25 (0, 0)) ∧ W.heap[w.heap.size + 1]? = some (Obj.cells #[.string g.text, .int .i64 g.wide, .slice gr.a g.rows.length gr.cap] 41 (0, 0))
theorem spS_cell0 {w : World} {F : Font} {s : FSl} {g : Gl} {gr : Sl} (x : Cls (SpS w F s g gr)) (o : Nat) : x.val.cell? ⟨w.heap.size, o, none⟩ = (#[.int .i64 F.high, .int .i64 F.space, .slice s.g.a F.glyphs.length s.g.cap, .slice s.k.a F.kerns.length s.k.cap] : Array Value)[o]? := cell_blk x.2.1 o
theorem spS_cell1 {w : World} {F : Font} {s : FSl} {g : Gl} {gr : Sl} (x : Cls (SpS w F s g gr)) (o : Nat) : x.val.cell? ⟨w.heap.size + 1, o, none⟩ = (#[.string g.text, .int .i64 g.wide, .slice gr.a g.rows.length gr.cap] : Array Value)[o]? := cell_blk x.2.2 o
section
variable {w W W' : World} {F : Font} {s : FSl} {g : Gl} {gr : Sl} {b9 : Nat}
theorem SpSt.ext (h : SpSt w W F s g gr b9) (hb : Ext2 W W') : SpSt w W' F s g gr b9 := ⟨below_ext h.bel hb, Ext2.blk hb h.x0, Ext2.blk hb h.x1, Ext2.blk hb h.x9, Nat.le_trans h.size hb.size, h.lo⟩
theorem SpSt.app {e : TypeId} {sz n : Nat} {v : Value} {c : Nat → Nat → Value} (h : SpSt w W F s g gr b9) (hO : OwnR W (b9 + 1) e sz v n c) (hg : W.grownBy W' v.ownBlock) : SpSt w W' F s g gr b9 := by
  have hE : Below (b9 + 1) W W' := app_below (Below.refl _ _) hO (Nat.le_refl _) h.size hg
  have := h.lo
  exact ⟨h.bel.trans (hE.mono (by omega)), app_keeps hO hg h.x0 (by omega), app_keeps hO hg h.x1 (by omega), app_keeps hO hg h.x9 (by omega), Nat.le_trans h.size hE.size, h.lo⟩
end
attribute [local go_sem] spS_cell0 spS_cell1
set_option maxRecDepth 100000 in
set_option maxHeartbeats 1000000 in
theorem lawSpelled_any {F : Font} {s : FSl} {E : List Int} {es : Sl} {g : Gl} {gr : Sl} {w : World} (hF : FontAt w F s) (hz : ∀ i, i < F.glyphs.length → (glD F.glyphs i).text.size ≤ 140737488355328) (hE : IntsS w es E) (hg : IntsS w gr g.rows) (hgt : g.text.size ≤ maxLen) (hm : MaxAt w) :
    Calls Tryd.prog 5 #[.agg #[.int .i64 F.high, .int .i64 F.space, .slice s.g.a F.glyphs.length s.g.cap, .slice s.k.a F.kerns.length s.k.cap], .slice es.a E.length es.cap, .agg #[.string g.text, .int .i64 g.wide, .slice gr.a g.rows.length gr.cap]] w fun e w' => e = .returned (.bool true) ∧ Below w.heap.size w w' := by
  have H5 : Hid (∀ W, Below w.heap.size w W → Calls Tryd.prog 20 #[] W fun e w' => e = .returned (.bool true) ∧ Below W.heap.size W w') := Lib.hid fun W hW => awake_any (hm.below hW)
  by_cases hn : E.length ≤ 24
  case neg =>
    have hnb : (E.length : Int) > 24 := by omega
    clear hF hz hE hg hgt hm hn
    go_enter Tryd.func5, Tryd.ntmps5
    go_wp2_with (fail)
    (with_reducible refine (H5.out _ ?_).mono ?_)
    · repeat' (first | exact Below.refl _ _ | assumption | refine below_drewN ?_ _ | refine Below.drew ?_ | refine Below.alloc ?_ (by first | assumption | omega | (simp <;> omega)) _ | refine Below.setCell ?_ (by first | assumption | omega | (simp <;> omega)) _ | refine Ext2.on (by assumption) ?_)
    rintro e w1 ⟨rfl, hb1⟩
    have hB1 : Below w.heap.size w w1 := Below.trans (by repeat' (first | exact Below.refl _ _ | assumption | refine below_drewN ?_ _ | refine Below.drew ?_ | refine Below.alloc ?_ (by first | assumption | omega | (simp <;> omega)) _ | refine Below.setCell ?_ (by first | assumption | omega | (simp <;> omega)) _ | refine Ext2.on (by assumption) ?_)) (hb1.mono (by simp; omega))
    clear hb1
    go_wp2_with (fail)
    go_ret
    exact ⟨rfl, hB1⟩
  case pos =>
    obtain ⟨⟨t, d⟩, hV⟩ : ∃ V, V = spelledV F E := ⟨_, rfl⟩
    have H1 : Hid (∀ W, Below w.heap.size w W → Calls Tryd.prog 23 #[.agg #[.int .i64 F.high, .int .i64 F.space, .slice s.g.a F.glyphs.length s.g.cap, .slice s.k.a F.kerns.length s.k.cap], .slice es.a E.length es.cap] W (SpelPost W (t, d))) := Lib.hid fun W hW => by
      have h := spelledL_any (hF.below hW) hz (RowS.below hE hW) hn
      rw [← hV] at h; exact h
    have H2 : Hid (∀ W, Below w.heap.size w W → Calls Tryd.prog 17 #[.agg #[.int .i64 F.high, .int .i64 F.space, .slice s.g.a F.glyphs.length s.g.cap, .slice s.k.a F.kerns.length s.k.cap], .string t] W (SetPost W F t)) := Lib.hid fun W hW => setApi_any (hF.below hW)
    obtain ⟨p1, p2, p3, hp⟩ : ∃ a b c, checkF F = (a, b, c) := ⟨_, _, _, rfl⟩
    have H3 : Hid (∀ W, Below w.heap.size w W → Calls Tryd.prog 24 #[.agg #[.int .i64 F.high, .int .i64 F.space, .slice s.g.a F.glyphs.length s.g.cap, .slice s.k.a F.kerns.length s.k.cap]] W fun e w' => e = .returned (.tuple #[.int .i64 p1, .int .i64 p2, .int .i64 p3]) ∧ Below W.heap.size W w') := Lib.hid fun W hW => by
      have h := checkR_any (hF.below hW); rw [hp] at h; exact h
    obtain ⟨x, hx⟩ : ∃ x, x = setE F t := ⟨_, rfl⟩
    have hfine : x = 0 → p3 = 0 ∧ FontOk F ∧ lettersS t 24 = true ∧ ∃ l, setS F t.data.toList = some l := fun h => by
      have h1 := setE_fine (F := F) (t := t) (by rw [← hx]; exact h)
      rw [hp] at h1
      exact ⟨h1.1, font_ok (by rw [hp]; exact h1.1), h1.2⟩
    have hbad : x ≠ 0 → d = true → p3 = 0 → x = 6 := fun h0 hd hp3 => by
      subst hd
      have hk : FontOk F := font_ok (by rw [hp]; exact hp3)
      obtain ⟨l, hl, -⟩ := spelled_set hk hV.symm
      rw [hx] at h0 ⊢
      unfold setE at h0 ⊢
      rw [hp] at h0 ⊢
      rw [if_neg (not_not_intro hp3)] at h0 ⊢
      rw [hl] at h0 ⊢
      by_cases h1 : lettersS t 24 = false
      · rw [if_pos h1]
      · rw [if_neg h1] at h0; exact absurd rfl h0
    have hec := hE.le; have hem := hE.max
    have hgc := hF.gls.gl.le; have hgm := hF.gls.gl.max
    have HF := Lib.hid hF; have HZ := Lib.hid hz; have HE := Lib.hid hE; have HG := Lib.hid hg; have HGT := Lib.hid hgt; have HV := Lib.hid hV; have HX := Lib.hid hx; have HFI := Lib.hid hfine; have HBA := Lib.hid hbad; have HM := Lib.hid hm
    have hnb : ¬ (E.length : Int) > 24 := by omega
    clear hF hz hE hg hgt hm hV hp hx hfine hbad
    go_enter Tryd.func5, Tryd.ntmps5
    go_wp2_with (fail)
    (with_reducible refine (H1.out _ ?_).mono ?_)
    · repeat' (first | exact Below.refl _ _ | assumption | refine below_drewN ?_ _ | refine Below.drew ?_ | refine Below.alloc ?_ (by first | assumption | omega | (simp <;> omega)) _ | refine Below.setCell ?_ (by first | assumption | omega | (simp <;> omega)) _ | refine Ext2.on (by assumption) ?_)
    rintro e w1 ⟨rfl, hb1⟩
    dsimp only
    have hB1 : Below w.heap.size w w1 := Below.trans (by repeat' (first | exact Below.refl _ _ | assumption | refine below_drewN ?_ _ | refine Below.drew ?_ | refine Below.alloc ?_ (by first | assumption | omega | (simp <;> omega)) _ | refine Below.setCell ?_ (by first | assumption | omega | (simp <;> omega)) _ | refine Ext2.on (by assumption) ?_)) (hb1.mono (by simp; omega))
    have b0 : w1.heap[w.heap.size]? = some (Obj.cells #[.int .i64 F.high, .int .i64 F.space, .slice s.g.a F.glyphs.length s.g.cap, .slice s.k.a F.kerns.length s.k.cap] 25) := below_blk hb1 (by repeat' (first | (with_reducible assumption) | (with_reducible refine blk_set_ne ?_ ?_) | (with_reducible exact blk_new _ _) | (with_reducible refine blk_new' _ _ (by first | (with_reducible rfl) | (simp; done) | (simp <;> omega))) | (with_reducible refine blk_alloc ?_ _) | (with_reducible refine blk_drew ?_) | (with_reducible refine blk_drewN ?_ _) | (with_reducible refine Ext2.blk (by assumption) ?_) | omega | (simp <;> omega) | exact blk_set (by assumption) _ _)) (by simp; omega)
    have b1 : w1.heap[w.heap.size + 1]? = some (Obj.cells #[.string g.text, .int .i64 g.wide, .slice gr.a g.rows.length gr.cap] 41) := below_blk hb1 (by repeat' (first | (with_reducible assumption) | (with_reducible refine blk_set_ne ?_ ?_) | (with_reducible exact blk_new _ _) | (with_reducible refine blk_new' _ _ (by first | (with_reducible rfl) | (simp; done) | (simp <;> omega))) | (with_reducible refine blk_alloc ?_ _) | (with_reducible refine blk_drew ?_) | (with_reducible refine blk_drewN ?_ _) | (with_reducible refine Ext2.blk (by assumption) ?_) | omega | (simp <;> omega) | exact blk_set (by assumption) _ _)) (by simp)
    have HB1 := Lib.hid hB1
    clear hb1 hB1
    have q0c := cell_blk b0
    have q0f := frz_blk b0
    have q1c := cell_blk b1
    have q1f := frz_blk b1
    go_wp2_with (fail)
    (with_reducible refine (H2.out _ HB1.out).mono ?_)
    rintro e w2 ⟨⟨gv, wdn, rfl, hv⟩, hb2⟩
    obtain ⟨s2, rfl, hi2, rfl⟩ := setVal_list hv
    have HB2 := Lib.hid (below_ext HB1.out hb2)
    have b0 := Ext2.blk hb2 b0; have b1 := Ext2.blk hb2 b1
    rw [← HX.out] at hi2 ⊢
    have HI2 := Lib.hid hi2
    clear hb2 hv hi2 q0c q0f q1c q1f
    have q0c := cell_blk b0
    have q0f := frz_blk b0
    have q1c := cell_blk b1
    have q1f := frz_blk b1
    by_cases hx0 : x = 0
    case neg =>
      have HX0 := Lib.hid hx0
      have hxb : (x != 0) = true := by simp [hx0]
      simp only [if_neg hx0, List.length_nil]
      clear hx0
      go_wp2_with (fail)
      (with_reducible refine (H3.out _ HB2.out).mono ?_)
      rintro e w3 ⟨rfl, hb3⟩
      have HB3 := Lib.hid (below_ext HB2.out hb3)
      clear hb3 q0c q0f q1c q1f b0 b1
      cases d with
      | false =>
        go_wp2_with (fail)
        (with_reducible refine (H5.out _ HB3.out).mono ?_)
        rintro e w4 ⟨rfl, hb4⟩
        have hB4 := below_ext HB3.out hb4
        clear hb4
        go_wp2_with (fail)
        go_ret
        exact ⟨rfl, hB4⟩
      | true =>
        by_cases hp3 : p3 = 0
        · have hx6 := HBA.out HX0.out rfl hp3
          subst hp3 hx6
          go_wp2_with (fail)
          (with_reducible refine (H5.out _ HB3.out).mono ?_)
          rintro e w4 ⟨rfl, hb4⟩
          have hB4 := below_ext HB3.out hb4
          clear hb4
          go_wp2_with (fail)
          go_ret
          exact ⟨rfl, hB4⟩
        · have hpb : (p3 != 0) = true := by simp [hp3]
          clear hp3
          go_wp2_with (fail)
          (with_reducible refine (H5.out _ HB3.out).mono ?_)
          rintro e w4 ⟨rfl, hb4⟩
          have hB4 := below_ext HB3.out hb4
          clear hb4
          go_wp2_with (fail)
          go_ret
          exact ⟨rfl, hB4⟩
    case pos =>
      subst hx0
      obtain ⟨hp3, hk, hlt, l, hl⟩ := HFI.out rfl
      subst hp3
      have hmem := setS_mem F _ _ (Nat.le_refl _) l hl
      have hll := setS_len F _ _ (Nat.le_refl _) l hl
      have hsp := set_spell F _ _ (Nat.le_refl _) l hl
      have htz : 1 ≤ t.size ∧ t.size ≤ 24 := by
        unfold lettersS at hlt
        rw [Bool.and_eq_true] at hlt
        have h2 := of_decide_eq_true hlt.2
        omega
      have hts : t.data.toList.length = t.size := Array.length_toList
      have hl0 : 0 < l.length := List.length_pos_iff.2 (setS_ne (fun h => by rw [h] at hts; simp at hts; omega) hl)
      have hwp := wid_pos hk hmem l.length hl0 (Nat.le_refl _)
      have hwr := widS_rng hk hmem l.length (Nat.le_refl _)
      have hspv : spelledV F (l.map Int.ofNat) = (t, true) := by rw [spelled_of hmem, hsp, baL_data]
      have hlen : d = true → l.length ≤ E.length := fun hd => by
        subst hd
        obtain ⟨l', h1, h2⟩ := spelled_set hk HV.out.symm
        rw [hl] at h1
        obtain rfl : l = l' := by simpa using h1
        exact h2
      simp only [if_true, hl, Option.getD_some, ints_len] at HI2 ⊢
      have hi2c := HI2.out.le; have hi2m := HI2.out.max
      rw [ints_len] at hi2c
      have hng := hk.ng
      obtain ⟨N, hN⟩ : ∃ N, N = widS F l l.length := ⟨_, rfl⟩
      rw [← hN] at hwp hwr ⊢
      have HSP : Hid (∀ W, Ext2 w2 W → Calls Tryd.prog 23 #[.agg #[.int .i64 F.high, .int .i64 F.space, .slice s.g.a F.glyphs.length s.g.cap, .slice s.k.a F.kerns.length s.k.cap], .slice s2.a l.length s2.cap] W (SpelPost W (t, true))) := Lib.hid fun W hW => by
        have h := spelledL_any (HF.out.below (below_ext HB2.out hW)) HZ.out (RowS.below HI2.out hW) (by rw [ints_len]; omega)
        rw [hspv, ints_len] at h; exact h
      have HK := Lib.hid hk; have HL := Lib.hid hl; have HLEN := Lib.hid hlen
      have hl24 : l.length ≤ 24 := by omega
      have hN1 : ¬ N < 1 := by omega
      clear hk hlt hl hmem hll hsp hts hspv hN hlen htz hwr
      go_wp2_with (fail)
      (with_reducible refine (H3.out _ HB2.out).mono ?_)
      rintro e w3 ⟨rfl, hb3⟩
      have HB3 := Lib.hid (below_ext HB2.out hb3)
      have b0 := Ext2.blk hb3 b0; have b1 := Ext2.blk hb3 b1
      have HE3 := Lib.hid (show Ext2 w2 w3 from hb3)
      clear hb3 q0c q0f q1c q1f
      have q0c := cell_blk b0
      have q0f := frz_blk b0
      have q1c := cell_blk b1
      have q1f := frz_blk b1
      go_wp2_with (fail)
      (with_reducible refine (HSP.out _ HE3.out).mono ?_)
      rintro e w4 ⟨rfl, hb4⟩
      dsimp only
      have HB4 := Lib.hid (below_ext HB3.out hb4)
      have b0 := Ext2.blk hb4 b0; have b1 := Ext2.blk hb4 b1
      clear hb4 q0c q0f q1c q1f
      have q0c := cell_blk b0
      have q0f := frz_blk b0
      obtain ⟨gb, goff, hga, -⟩ := gl_cells (HF.out.below HB4.out).gls.gl (i := 0) (by omega)
      have hHL : d = true → ¬ ((l.length : Int) > (E.length : Int)) := fun hd => by have := HLEN.out hd; omega
      clear gb goff hga
      cases d
      case' false =>
        clear hHL
        go_wp2_with (fail)
      case' true =>
        have hHL := hHL rfl
        go_wp2_with (fail)
        clear hHL
      all_goals
        refine wp_name ?_
        intro w5 h5
        obtain ⟨b9, hb9⟩ : ∃ b, b = w4.heap.size := ⟨_, rfl⟩
        have x9 : w5.heap[b9]? = some (Obj.cells #[.int .i64 F.high, .int .i64 F.space, .slice s.g.a F.glyphs.length s.g.cap, .slice s.k.a F.kerns.length s.k.cap] 25) := by rw [h5, hb9]; exact blk_new _ _
        have hE5 : Ext2 w4 w5 := by rw [h5]; repeat' (first | exact Below.refl _ _ | assumption | refine below_drewN ?_ _ | refine Below.drew ?_ | refine Below.alloc ?_ (by first | assumption | omega | (simp <;> omega)) _ | refine Below.setCell ?_ (by first | assumption | omega | (simp <;> omega)) _ | refine Ext2.on (by assumption) ?_)
        have hz5 : b9 + 1 ≤ w5.heap.size := by rw [h5, hb9]; simp
        have hl9 : w.heap.size + 1 < b9 := by rw [hb9]; exact blk_lt b1
        rw [← hb9]
        have HS5 : Hid (SpSt w w5 F s g gr b9) := Lib.hid ⟨below_ext HB4.out hE5, Ext2.blk hE5 b0, Ext2.blk hE5 b1, x9, hz5, hl9⟩
        have HW5 := Lib.hid hE5
        have y0 := HS5.out.x0; have y1 := HS5.out.x1
        clear h5 hb9 x9 hE5 hz5 q0c q0f b0 b1
        haveI hcls : Nonempty (Cls (SpS w F s g gr)) := ⟨⟨w5, y0, y1⟩⟩
        refine region_tree (SpS w F s g gr) [1, 2, 4] (.two 0 (.two 3 (.one 5 (.one 6 (.one 7 (.one 8 .leaf)))) 5 (.one 3 (.one 6 (.one 7 (.one 8 .leaf))))) 5 (.one 0 (.one 3 (.one 6 (.one 7 (.one 8 .leaf)))))) (fun W hW => ⟨Ext2.blk hW y0, Ext2.blk hW y1⟩) (by kernel_rfl) (by kernel_rfl) (by intro c a d v w h; cases d <;> exact h) ?_
        simp only [picks, List.drop_succ_cons, List.drop_zero]
        repeat ((with_reducible refine wpQS_step (fun K hK => ?_)); go_simp; ((with_reducible refine hK _ ?_); clear hK K))
        (with_reducible refine wpQS_nil ?_)
        intro W hW
        have hSW := HS5.out.ext hW
        obtain ⟨gb, goff, hga, -⟩ := gl_cells (HF.out.below HB4.out).gls.gl (i := 0) (by omega)
        have HROW : Hid (∀ W', Below w.heap.size w W' → ∀ i j, i < F.glyphs.length → j < 3 → W'.cell? ⟨gb, goff + i * 3 + j, none⟩ = some (glC F.glyphs s.rs i j)) := Lib.hid fun W' hW' i j hi hj => by
          obtain ⟨b', off', h1, h2⟩ := (HF.out.below hW').gls.gl.cell i j hi hj
          rw [hga] at h1
          obtain ⟨rfl, rfl⟩ : gb = b' ∧ goff = off' := by simpa using h1
          exact h2
        rw [hga]
        have HSW := Lib.hid hSW
        have HGA := Lib.hid hga
        clear y0 y1 hcls hW hSW hga
        refine wpT_two ?p05 ?p5
        case p05 =>
          simp only [picks, List.drop_succ_cons, List.drop_zero]
          go_wp2_with (fail)
          refine and_name (fun wa hwa => ?_)
          obtain ⟨ba, hba⟩ : ∃ b, b = W.heap.size := ⟨_, rfl⟩
          have HSA := Lib.hid (HSW.out.ext (show Ext2 W wa by rw [hwa]; exact below_alloc' _ _))
          have nba : wa.heap[ba]? = some (.cells #[] 41 (0, 0)) := by rw [hwa, hba]; exact blk_new _ _
          have lba : b9 + 1 ≤ ba := by rw [hba]; exact HSW.out.size
          have Ewa : Hid (Ext2 W wa) := Lib.hid (by rw [hwa]; exact below_alloc' _ _)
          rw [← hba]
          have gba : W.heap.size ≤ ba := by rw [hba]; exact Nat.le_refl _
          clear hwa hba
          refine ⟨⟨HSA.out.x0, HSA.out.x1⟩, wpT_two ?q3 ?q5⟩
          case q3 =>
            simp only [picks, List.drop_succ_cons, List.drop_zero]
            have hO0 : OwnR wa (b9 + 1) 41 3 (.slice (some ⟨ba, 0, none⟩) 0 0) 0 (glC (F.glyphs ++ [g]) (moreRs F s gr)) := own_empty nba lba
            have hsB := HSA.out.size
            go_wp2_with (at_builtin; go_loud (refine app_rows elGl (c2 := glC (F.glyphs ++ [g]) (moreRs F s gr)) rfl _ _ rfl (b9 + 1) rfl hO0 gb goff F.glyphs.length s.g.cap rfl (HROW.out _ HSA.out.bel) (glC_one _ _) (by omega) (by omega) (fun i j hi _ => absurd hi (by omega)) (fun i j hi hj => by rw [Nat.zero_add]; exact glC_more hi j) ?_; intro vb wb hO5 hgwb; rw [Nat.zero_add] at hO5))
            have HSB := Lib.hid (HSA.out.app hO0 hgwb)
            obtain ⟨⟨vb, cb⟩, rfl, -⟩ := hO5.sl
            dsimp only at hO5
            have HOB := Lib.hid hO5
            clear hO5
            refine ⟨⟨HSB.out.x0, HSB.out.x1⟩, wpT_one ?_⟩
            simp only [picks, List.drop_succ_cons, List.drop_zero]
            go_wp2_with (fail)
            refine and_name (fun wc hwc => ?_)
            obtain ⟨bc, hbc⟩ : ∃ b, b = wb.heap.size := ⟨_, rfl⟩
            have HSC := Lib.hid (HSB.out.ext (show Ext2 wb wc by rw [hwc]; exact below_alloc' _ _))
            have nbc : wc.heap[bc]? = some (.cells #[.string g.text, .int .i64 g.wide, .slice gr.a g.rows.length gr.cap] 41 (0, 0)) := by rw [hwc, hbc]; exact blk_new _ _
            have lbc : b9 + 1 ≤ bc := by rw [hbc]; exact HSB.out.size
            have Ewc : Hid (Ext2 wb wc) := Lib.hid (by rw [hwc]; exact below_alloc' _ _)
            rw [← hbc]
            have gbc : wb.heap.size ≤ bc := by rw [hbc]; exact Nat.le_refl _
            clear hwc hbc
            have HOC := Lib.hid (HOB.out.below Ewc.out)
            have hsR := HSC.out.size
            refine ⟨⟨HSC.out.x0, HSC.out.x1⟩, wpT_one ?_⟩
            simp only [picks, List.drop_succ_cons, List.drop_zero]
            go_wp2_with (at_builtin; go_loud (refine app_one [.string g.text, .int .i64 g.wide, .slice gr.a g.rows.length gr.cap] elGl rfl _ _ rfl (b9 + 1) rfl HOC.out bc 1 rfl nbc (by simp [Value.oneCell']) (by omega) (by omega) ?_; intro v6 w6 hO6 hg6))
            obtain ⟨⟨a6, c6⟩, rfl, -⟩ := hO6.sl
            have HS6 := Lib.hid (HSC.out.app HOC.out hg6)
            have HO6 := Lib.hid hO6
            clear hg6 hO6
            refine ⟨⟨HS6.out.x0, HS6.out.x1⟩, wpT_one ?_⟩
            simp only [picks, List.drop_succ_cons, List.drop_zero]
            go_wp2_with (fail)
            refine ⟨⟨HS6.out.x0, HS6.out.x1⟩, wpT_one ?_⟩
            simp only [picks, List.drop_succ_cons, List.drop_zero]
            have x9 := HS6.out.x9
            have q9c := cell_blk x9
            have q9f := frz_blk x9
            go_wp2_with (fail)
            refine ⟨⟨blk_set_ne HS6.out.x0 (by omega), blk_set_ne HS6.out.x1 (by omega)⟩, wpT_leaf ?_⟩
            refine then_name ?_
            intro w7 h7
            have y9 : w7.heap[b9]? = some (Obj.cells #[.int .i64 F.high, .int .i64 F.space, .slice a6 (F.glyphs.length + 1) c6, .slice s.k.a F.kerns.length s.k.cap] 25) := by rw [h7]; exact Eq.trans (blk_set x9 _ _) rfl
            have hB7 : Below w.heap.size w w7 := by rw [h7]; exact below_set HS6.out.bel (by omega)
            have hO7 : OwnR w7 (b9 + 1) 41 3 (.slice a6 (F.glyphs.length + 1) c6) (F.glyphs.length + 1) (glC (F.glyphs ++ [g]) (moreRs F s gr)) := by
              rw [h7]
              refine OwnR.congr (HO6.out.above (Above.set (Above.refl _ _) (.inl (Nat.lt_succ_self _)))) fun i j hi hj => ?_
              by_cases hik : i = F.glyphs.length
              · subst hik
                rw [upd_at, glC_last]
                have hj3 : j < 3 := hj
                rcases (by omega : j = 0 ∨ j = 1 ∨ j = 2) with rfl | rfl | rfl <;> rfl
              · rw [upd_lt (by omega)]
            have HST : Hid (Calls Tryd.prog 17 #[.agg #[.int .i64 F.high, .int .i64 F.space, .slice a6 (F.glyphs.length + 1) c6, .slice s.k.a F.kerns.length s.k.cap], .string t] w7 (SetPost w7 (moreF F g) t)) := Lib.hid (by
              have h := setApi_any (t := t) (font_more (ns := ⟨a6, c6⟩) (HF.out.below hB7) (RowS.below HG.out hB7) HGT.out (own_rowA hO7))
              have e : (moreF F g).glyphs.length = F.glyphs.length + 1 := by simp [moreF]
              rw [e] at h; exact h)
            have HB7 := Lib.hid hB7
            clear h7 q9c q9f x9 hO7 hB7
            have q9c := cell_blk y9
            have q9f := frz_blk y9
            go_wp2_with (fail)
            refine HST.out.mono ?_
            rintro e w8 ⟨⟨gv, wd8, rfl, hv⟩, hb8⟩
            obtain ⟨s8, rfl, hi8, rfl⟩ := setVal_list hv
            have HB8 := Lib.hid (below_ext HB7.out hb8)
            obtain ⟨x8, hx8⟩ : ∃ x, x = setE (moreF F g) t := ⟨_, rfl⟩
            rw [← hx8] at hi8 ⊢
            clear hb8 hv q9c q9f y9
            by_cases hx80 : x8 = 0
            · obtain ⟨hp8, -, l8, hl8⟩ := setE_fine (F := moreF F g) (t := t) (by rw [← hx8]; exact hx80)
              have hle8 := set_more (g := g) HK.out (font_ok hp8) HL.out hl8
              rw [hx80]
              simp only [if_true, hl8, Option.getD_some, ints_len]
              have hle9 : (l8.length : Int) ≤ (l.length : Int) := by omega
              clear hi8 hx8 hx80 hp8 hl8 hle8
              go_wp2_with (fail)
              (with_reducible refine (H5.out _ HB8.out).mono ?_)
              rintro e w9 ⟨rfl, hb9⟩
              have hB9 := below_ext HB8.out hb9
              clear hb9
              go_wp2_with (fail)
              go_ret
              exact ⟨rfl, hB9⟩
            · have hxb8 : (x8 != 0) = true := by simp [hx80]
              simp only [if_neg hx80, List.length_nil]
              clear hi8 hx8 hx80
              go_wp2_with (fail)
              (with_reducible refine (H5.out _ HB8.out).mono ?_)
              rintro e w9 ⟨rfl, hb9⟩
              have hB9 := below_ext HB8.out hb9
              clear hb9
              go_wp2_with (fail)
              go_ret
              exact ⟨rfl, hB9⟩
          case q5 =>
            have lba2 := blk_lt nba
            simp only [picks, List.drop_succ_cons, List.drop_zero]
            go_wp2_with (fail)
            refine and_name (fun wb hwb => ?_)
            obtain ⟨bc, hbc⟩ : ∃ b, b = wa.heap.size := ⟨_, rfl⟩
            have HSB := Lib.hid (HSA.out.ext (show Ext2 wa wb by rw [hwb]; exact below_alloc' _ _))
            have nbc : wb.heap[bc]? = some (.cells #[.string g.text, .int .i64 g.wide, .slice gr.a g.rows.length gr.cap] 41 (0, 0)) := by rw [hwb, hbc]; exact blk_new _ _
            have lbc : b9 + 1 ≤ bc := by rw [hbc]; exact HSA.out.size
            have Ewb : Hid (Ext2 wa wb) := Lib.hid (by rw [hwb]; exact below_alloc' _ _)
            rw [← hbc]
            have gbc : wa.heap.size ≤ bc := by rw [hbc]; exact Nat.le_refl _
            clear hwb hbc
            have nba := Ext2.blk Ewb.out nba
            refine ⟨⟨HSB.out.x0, HSB.out.x1⟩, wpT_one ?_⟩
            simp only [picks, List.drop_succ_cons, List.drop_zero]
            have hO0 : OwnR wb (b9 + 1) 41 3 (.slice (some ⟨ba, 0, none⟩) 0 0) 0 (glC (F.glyphs ++ [g]) (moreRs F s gr)) := own_empty nba lba
            have hsB := HSB.out.size
            go_wp2_with (at_builtin; go_loud (refine app_rows elGl (c2 := glC (F.glyphs ++ [g]) (moreRs F s gr)) rfl _ _ rfl (b9 + 1) rfl hO0 gb goff F.glyphs.length s.g.cap rfl (HROW.out _ HSB.out.bel) (glC_one _ _) (by omega) (by omega) (fun i j hi _ => absurd hi (by omega)) (fun i j hi hj => by rw [Nat.zero_add]; exact glC_more hi j) ?_; intro vb wc hO5 hgwc; rw [Nat.zero_add] at hO5))
            have HSC := Lib.hid (HSB.out.app hO0 hgwc)
            obtain ⟨⟨vb, cb⟩, rfl, -⟩ := hO5.sl
            dsimp only at hO5
            have HOC := Lib.hid hO5
            clear hO5
            have nbc := (hgwc.block bc (blk_lt nbc) (by intro he; have he' : some bc = some ba := he; simp only [Option.some.injEq] at he'; omega)).trans nbc
            have hsR := HSC.out.size
            refine ⟨⟨HSC.out.x0, HSC.out.x1⟩, wpT_one ?_⟩
            simp only [picks, List.drop_succ_cons, List.drop_zero]
            go_wp2_with (at_builtin; go_loud (refine app_one [.string g.text, .int .i64 g.wide, .slice gr.a g.rows.length gr.cap] elGl rfl _ _ rfl (b9 + 1) rfl HOC.out bc 1 rfl nbc (by simp [Value.oneCell']) (by omega) (by omega) ?_; intro v6 w6 hO6 hg6))
            obtain ⟨⟨a6, c6⟩, rfl, -⟩ := hO6.sl
            have HS6 := Lib.hid (HSC.out.app HOC.out hg6)
            have HO6 := Lib.hid hO6
            clear hg6 hO6
            refine ⟨⟨HS6.out.x0, HS6.out.x1⟩, wpT_one ?_⟩
            simp only [picks, List.drop_succ_cons, List.drop_zero]
            go_wp2_with (fail)
            refine ⟨⟨HS6.out.x0, HS6.out.x1⟩, wpT_one ?_⟩
            simp only [picks, List.drop_succ_cons, List.drop_zero]
            have x9 := HS6.out.x9
            have q9c := cell_blk x9
            have q9f := frz_blk x9
            go_wp2_with (fail)
            refine ⟨⟨blk_set_ne HS6.out.x0 (by omega), blk_set_ne HS6.out.x1 (by omega)⟩, wpT_leaf ?_⟩
            refine then_name ?_
            intro w7 h7
            have y9 : w7.heap[b9]? = some (Obj.cells #[.int .i64 F.high, .int .i64 F.space, .slice a6 (F.glyphs.length + 1) c6, .slice s.k.a F.kerns.length s.k.cap] 25) := by rw [h7]; exact Eq.trans (blk_set x9 _ _) rfl
            have hB7 : Below w.heap.size w w7 := by rw [h7]; exact below_set HS6.out.bel (by omega)
            have hO7 : OwnR w7 (b9 + 1) 41 3 (.slice a6 (F.glyphs.length + 1) c6) (F.glyphs.length + 1) (glC (F.glyphs ++ [g]) (moreRs F s gr)) := by
              rw [h7]
              refine OwnR.congr (HO6.out.above (Above.set (Above.refl _ _) (.inl (Nat.lt_succ_self _)))) fun i j hi hj => ?_
              by_cases hik : i = F.glyphs.length
              · subst hik
                rw [upd_at, glC_last]
                have hj3 : j < 3 := hj
                rcases (by omega : j = 0 ∨ j = 1 ∨ j = 2) with rfl | rfl | rfl <;> rfl
              · rw [upd_lt (by omega)]
            have HST : Hid (Calls Tryd.prog 17 #[.agg #[.int .i64 F.high, .int .i64 F.space, .slice a6 (F.glyphs.length + 1) c6, .slice s.k.a F.kerns.length s.k.cap], .string t] w7 (SetPost w7 (moreF F g) t)) := Lib.hid (by
              have h := setApi_any (t := t) (font_more (ns := ⟨a6, c6⟩) (HF.out.below hB7) (RowS.below HG.out hB7) HGT.out (own_rowA hO7))
              have e : (moreF F g).glyphs.length = F.glyphs.length + 1 := by simp [moreF]
              rw [e] at h; exact h)
            have HB7 := Lib.hid hB7
            clear h7 q9c q9f x9 hO7 hB7
            have q9c := cell_blk y9
            have q9f := frz_blk y9
            go_wp2_with (fail)
            refine HST.out.mono ?_
            rintro e w8 ⟨⟨gv, wd8, rfl, hv⟩, hb8⟩
            obtain ⟨s8, rfl, hi8, rfl⟩ := setVal_list hv
            have HB8 := Lib.hid (below_ext HB7.out hb8)
            obtain ⟨x8, hx8⟩ : ∃ x, x = setE (moreF F g) t := ⟨_, rfl⟩
            rw [← hx8] at hi8 ⊢
            clear hb8 hv q9c q9f y9
            by_cases hx80 : x8 = 0
            · obtain ⟨hp8, -, l8, hl8⟩ := setE_fine (F := moreF F g) (t := t) (by rw [← hx8]; exact hx80)
              have hle8 := set_more (g := g) HK.out (font_ok hp8) HL.out hl8
              rw [hx80]
              simp only [if_true, hl8, Option.getD_some, ints_len]
              have hle9 : (l8.length : Int) ≤ (l.length : Int) := by omega
              clear hi8 hx8 hx80 hp8 hl8 hle8
              go_wp2_with (fail)
              (with_reducible refine (H5.out _ HB8.out).mono ?_)
              rintro e w9 ⟨rfl, hb9⟩
              have hB9 := below_ext HB8.out hb9
              clear hb9
              go_wp2_with (fail)
              go_ret
              exact ⟨rfl, hB9⟩
            · have hxb8 : (x8 != 0) = true := by simp [hx80]
              simp only [if_neg hx80, List.length_nil]
              clear hi8 hx8 hx80
              go_wp2_with (fail)
              (with_reducible refine (H5.out _ HB8.out).mono ?_)
              rintro e w9 ⟨rfl, hb9⟩
              have hB9 := below_ext HB8.out hb9
              clear hb9
              go_wp2_with (fail)
              go_ret
              exact ⟨rfl, hB9⟩
        case p5 =>
          simp only [picks, List.drop_succ_cons, List.drop_zero]
          go_wp2_with (fail)
          refine and_name (fun wa hwa => ?_)
          obtain ⟨bc, hbc⟩ : ∃ b, b = W.heap.size := ⟨_, rfl⟩
          have HSA := Lib.hid (HSW.out.ext (show Ext2 W wa by rw [hwa]; exact below_alloc' _ _))
          have nbc : wa.heap[bc]? = some (.cells #[.string g.text, .int .i64 g.wide, .slice gr.a g.rows.length gr.cap] 41 (0, 0)) := by rw [hwa, hbc]; exact blk_new _ _
          have lbc : b9 + 1 ≤ bc := by rw [hbc]; exact HSW.out.size
          have Ewa : Hid (Ext2 W wa) := Lib.hid (by rw [hwa]; exact below_alloc' _ _)
          rw [← hbc]
          have gbc : W.heap.size ≤ bc := by rw [hbc]; exact Nat.le_refl _
          clear hwa hbc
          refine ⟨⟨HSA.out.x0, HSA.out.x1⟩, wpT_one ?_⟩
          have lbc2 := blk_lt nbc
          simp only [picks, List.drop_succ_cons, List.drop_zero]
          go_wp2_with (fail)
          refine and_name (fun wb hwb => ?_)
          obtain ⟨ba, hba⟩ : ∃ b, b = wa.heap.size := ⟨_, rfl⟩
          have HSB := Lib.hid (HSA.out.ext (show Ext2 wa wb by rw [hwb]; exact below_alloc' _ _))
          have nba : wb.heap[ba]? = some (.cells #[] 41 (0, 0)) := by rw [hwb, hba]; exact blk_new _ _
          have lba : b9 + 1 ≤ ba := by rw [hba]; exact HSA.out.size
          have Ewb : Hid (Ext2 wa wb) := Lib.hid (by rw [hwb]; exact below_alloc' _ _)
          rw [← hba]
          have gba : wa.heap.size ≤ ba := by rw [hba]; exact Nat.le_refl _
          clear hwb hba
          have nbc := Ext2.blk Ewb.out nbc
          refine ⟨⟨HSB.out.x0, HSB.out.x1⟩, wpT_one ?_⟩
          simp only [picks, List.drop_succ_cons, List.drop_zero]
          have hO0 : OwnR wb (b9 + 1) 41 3 (.slice (some ⟨ba, 0, none⟩) 0 0) 0 (glC (F.glyphs ++ [g]) (moreRs F s gr)) := own_empty nba lba
          have hsB := HSB.out.size
          go_wp2_with (at_builtin; go_loud (refine app_rows elGl (c2 := glC (F.glyphs ++ [g]) (moreRs F s gr)) rfl _ _ rfl (b9 + 1) rfl hO0 gb goff F.glyphs.length s.g.cap rfl (HROW.out _ HSB.out.bel) (glC_one _ _) (by omega) (by omega) (fun i j hi _ => absurd hi (by omega)) (fun i j hi hj => by rw [Nat.zero_add]; exact glC_more hi j) ?_; intro vb wc hO5 hgwc; rw [Nat.zero_add] at hO5))
          have HSC := Lib.hid (HSB.out.app hO0 hgwc)
          obtain ⟨⟨vb, cb⟩, rfl, -⟩ := hO5.sl
          dsimp only at hO5
          have HOC := Lib.hid hO5
          clear hO5
          have nbc := (hgwc.block bc (blk_lt nbc) (by intro he; have he' : some bc = some ba := he; simp only [Option.some.injEq] at he'; omega)).trans nbc
          have hsR := HSC.out.size
          refine ⟨⟨HSC.out.x0, HSC.out.x1⟩, wpT_one ?_⟩
          simp only [picks, List.drop_succ_cons, List.drop_zero]
          go_wp2_with (at_builtin; go_loud (refine app_one [.string g.text, .int .i64 g.wide, .slice gr.a g.rows.length gr.cap] elGl rfl _ _ rfl (b9 + 1) rfl HOC.out bc 1 rfl nbc (by simp [Value.oneCell']) (by omega) (by omega) ?_; intro v6 w6 hO6 hg6))
          obtain ⟨⟨a6, c6⟩, rfl, -⟩ := hO6.sl
          have HS6 := Lib.hid (HSC.out.app HOC.out hg6)
          have HO6 := Lib.hid hO6
          clear hg6 hO6
          refine ⟨⟨HS6.out.x0, HS6.out.x1⟩, wpT_one ?_⟩
          simp only [picks, List.drop_succ_cons, List.drop_zero]
          go_wp2_with (fail)
          refine ⟨⟨HS6.out.x0, HS6.out.x1⟩, wpT_one ?_⟩
          simp only [picks, List.drop_succ_cons, List.drop_zero]
          have x9 := HS6.out.x9
          have q9c := cell_blk x9
          have q9f := frz_blk x9
          go_wp2_with (fail)
          refine ⟨⟨blk_set_ne HS6.out.x0 (by omega), blk_set_ne HS6.out.x1 (by omega)⟩, wpT_leaf ?_⟩
          refine then_name ?_
          intro w7 h7
          have y9 : w7.heap[b9]? = some (Obj.cells #[.int .i64 F.high, .int .i64 F.space, .slice a6 (F.glyphs.length + 1) c6, .slice s.k.a F.kerns.length s.k.cap] 25) := by rw [h7]; exact Eq.trans (blk_set x9 _ _) rfl
          have hB7 : Below w.heap.size w w7 := by rw [h7]; exact below_set HS6.out.bel (by omega)
          have hO7 : OwnR w7 (b9 + 1) 41 3 (.slice a6 (F.glyphs.length + 1) c6) (F.glyphs.length + 1) (glC (F.glyphs ++ [g]) (moreRs F s gr)) := by
            rw [h7]
            refine OwnR.congr (HO6.out.above (Above.set (Above.refl _ _) (.inl (Nat.lt_succ_self _)))) fun i j hi hj => ?_
            by_cases hik : i = F.glyphs.length
            · subst hik
              rw [upd_at, glC_last]
              have hj3 : j < 3 := hj
              rcases (by omega : j = 0 ∨ j = 1 ∨ j = 2) with rfl | rfl | rfl <;> rfl
            · rw [upd_lt (by omega)]
          have HST : Hid (Calls Tryd.prog 17 #[.agg #[.int .i64 F.high, .int .i64 F.space, .slice a6 (F.glyphs.length + 1) c6, .slice s.k.a F.kerns.length s.k.cap], .string t] w7 (SetPost w7 (moreF F g) t)) := Lib.hid (by
            have h := setApi_any (t := t) (font_more (ns := ⟨a6, c6⟩) (HF.out.below hB7) (RowS.below HG.out hB7) HGT.out (own_rowA hO7))
            have e : (moreF F g).glyphs.length = F.glyphs.length + 1 := by simp [moreF]
            rw [e] at h; exact h)
          have HB7 := Lib.hid hB7
          clear h7 q9c q9f x9 hO7 hB7
          have q9c := cell_blk y9
          have q9f := frz_blk y9
          go_wp2_with (fail)
          refine HST.out.mono ?_
          rintro e w8 ⟨⟨gv, wd8, rfl, hv⟩, hb8⟩
          obtain ⟨s8, rfl, hi8, rfl⟩ := setVal_list hv
          have HB8 := Lib.hid (below_ext HB7.out hb8)
          obtain ⟨x8, hx8⟩ : ∃ x, x = setE (moreF F g) t := ⟨_, rfl⟩
          rw [← hx8] at hi8 ⊢
          clear hb8 hv q9c q9f y9
          by_cases hx80 : x8 = 0
          · obtain ⟨hp8, -, l8, hl8⟩ := setE_fine (F := moreF F g) (t := t) (by rw [← hx8]; exact hx80)
            have hle8 := set_more (g := g) HK.out (font_ok hp8) HL.out hl8
            rw [hx80]
            simp only [if_true, hl8, Option.getD_some, ints_len]
            have hle9 : (l8.length : Int) ≤ (l.length : Int) := by omega
            clear hi8 hx8 hx80 hp8 hl8 hle8
            go_wp2_with (fail)
            (with_reducible refine (H5.out _ HB8.out).mono ?_)
            rintro e w9 ⟨rfl, hb9⟩
            have hB9 := below_ext HB8.out hb9
            clear hb9
            go_wp2_with (fail)
            go_ret
            exact ⟨rfl, hB9⟩
          · have hxb8 : (x8 != 0) = true := by simp [hx80]
            simp only [if_neg hx80, List.length_nil]
            clear hi8 hx8 hx80
            go_wp2_with (fail)
            (with_reducible refine (H5.out _ HB8.out).mono ?_)
            rintro e w9 ⟨rfl, hb9⟩
            have hB9 := below_ext HB8.out hb9
            clear hb9
            go_wp2_with (fail)
            go_ret
            exact ⟨rfl, hB9⟩
end Go.Proofs.YtahgbecfaihfpaaDoor
