/-
  title.load: the setter of a font.
-/
import Derived.Test.YtahgbecfaihfpaaDoorTChkM
namespace Go.Proofs.YtahgbecfaihfpaaDoor.D
/-- The index of a text among the first n glyphs (n: none). -/
def gIx (l : List Gl) (t : ByteArray) (n : Nat) : Nat := firstN (fun j => sameS (glD l j).text t) n
def kIx (l : List Kn) (a b : Int) (n : Nat) : Nat := firstN (fun j => decide ((knD l j).left = a ∧ (knD l j).right = b)) n
def betw (l : List Kn) (a b : Int) : Int := if kIx l a b l.length < l.length then (knD l (kIx l a b l.length)).by_ else 0
/-- What is known of a font that Check lets pass. -/
structure FontOk (F : Font) : Prop where
  high : 1 ≤ F.high ∧ F.high ≤ 16
  space : 1 ≤ F.space ∧ F.space ≤ 20
  ng : 1 ≤ F.glyphs.length ∧ F.glyphs.length ≤ 60
  nk : F.kerns.length ≤ 60
  gl : ∀ i, i < F.glyphs.length → glE F i = 0
  kn : ∀ i, i < F.kerns.length → knE F i = 0
theorem font_ok {F : Font} (h : (checkF F).2.2 = 0) : FontOk F := by
  unfold checkF at h
  split at h
  · exact absurd h (by decide)
  · rename_i h1
    split at h
    · exact absurd h (by decide)
    · rename_i h2
      have h1' : (inB F.high 1 16 && inB F.space 1 20) = true := by simpa using h1
      have h2' : (inB (F.glyphs.length : Int) 1 60 && decide (F.kerns.length ≤ 60)) = true := by simpa using h2
      rw [Bool.and_eq_true] at h1' h2'
      have a1 := of_decide_eq_true h1'.1
      have a2 := of_decide_eq_true h1'.2
      have a3 := of_decide_eq_true h2'.1
      have a4 := of_decide_eq_true h2'.2
      split at h
      · rename_i h3
        have := (firstN_spec (p := fun i => glE F i != 0) (n := F.glyphs.length)).2 h3
        simp only [bne_iff_ne, ne_eq] at this
        exact absurd h this
      · rename_i h3
        split at h
        · rename_i h4
          have := (firstN_spec (p := fun i => knE F i != 0) (n := F.kerns.length)).2 h4
          simp only [bne_iff_ne, ne_eq] at this
          exact absurd h this
        · rename_i h4
          have e3 : firstN (fun i => glE F i != 0) F.glyphs.length = F.glyphs.length := by have := firstN_le (fun i => glE F i != 0) F.glyphs.length; omega
          have e4 : firstN (fun i => knE F i != 0) F.kerns.length = F.kerns.length := by have := firstN_le (fun i => knE F i != 0) F.kerns.length; omega
          refine ⟨a1, a2, by omega, a4, fun i hi => ?_, fun i hi => ?_⟩
          · have := (firstN_spec (p := fun i => glE F i != 0) (n := F.glyphs.length)).1 i (by rw [e3]; exact hi)
            simpa using this
          · have := (firstN_spec (p := fun i => knE F i != 0) (n := F.kerns.length)).1 i (by rw [e4]; exact hi)
            simpa using this
theorem knE_ok {F : Font} {i : Nat} (h : knE F i = 0) : ((0 ≤ (knD F.kerns i).left ∧ (knD F.kerns i).left ≤ F.glyphs.length - 1) ∧ 0 ≤ (knD F.kerns i).right ∧ (knD F.kerns i).right ≤ F.glyphs.length - 1) ∧ twiceK F.kerns i = false ∧ (-12 ≤ (knD F.kerns i).by_ ∧ (knD F.kerns i).by_ ≤ 12) ∧ 1 ≤ (glD F.glyphs (knD F.kerns i).left.toNat).wide + (knD F.kerns i).by_ := by
  unfold knE at h
  split at h
  · omega
  · rename_i h1
    split at h
    · omega
    · rename_i h2
      split at h
      · omega
      · rename_i h3
        split at h
        · omega
        · rename_i h4
          have h1' : (inB (knD F.kerns i).left 0 (F.glyphs.length - 1) && inB (knD F.kerns i).right 0 (F.glyphs.length - 1)) = true := by simpa using h1
          rw [Bool.and_eq_true] at h1'
          have h3' : inB (knD F.kerns i).by_ (-12) 12 = true := by simpa using h3
          exact ⟨⟨of_decide_eq_true h1'.1, of_decide_eq_true h1'.2⟩, by simpa using h2, of_decide_eq_true h3', by omega⟩
theorem firstN_succ_lt {p : Nat → Bool} {n : Nat} (h : firstN p n < n) : firstN p (n + 1) = firstN p n := by rw [firstN, if_pos h]
theorem firstN_succ_ge {p : Nat → Bool} {n : Nat} (h : firstN p n = n) : firstN p (n + 1) = if p n then n else n + 1 := by rw [firstN, if_neg (by omega)]
end Go.Proofs.YtahgbecfaihfpaaDoor.D
namespace Go.Proofs.YtahgbecfaihfpaaDoor
open Go.RowKit D
set_option linter.unusedVariables false
set_option linter.unusedSimpArgs false
attribute [local go_sem high] run_minI run_maxI
attribute [local go_sem] upon2 cls_cell cls_frozen forall_const exists_eq_left'
attribute [local go_sem] FirstUpon run_makeMap
noncomputable def gmF (l : List Gl) : Nat → Value → Option Value
  | 0 => fun _ => none
  | k + 1 => updM (gmF l k) (.string (glD l k).text) (.int .i64 (k : Int))
noncomputable def kmF (l : List Kn) : Nat → Value → Option Value
  | 0 => fun _ => none
  | k + 1 => updM (kmF l k) (.agg #[.int .i64 (knD l k).left, .int .i64 (knD l k).right]) (.int .i64 (knD l k).by_)
theorem gmF_at {l : List Gl} (t : ByteArray) : ∀ n, (∀ i, i < n → twice l i = false) → gmF l n (.string t) = if gIx l t n < n then some (.int .i64 (gIx l t n : Int)) else none
  | 0, _ => rfl
  | n + 1, h => by
    have ih := gmF_at (l := l) t n (fun i hi => h i (by omega))
    have hl := firstN_le (fun j => sameS (glD l j).text t) n
    by_cases he : t = (glD l n).text
    · have hn : firstN (fun j => sameS (glD l j).text t) n = n := by
        have h1 := h n (by omega)
        unfold twice at h1
        rw [← he] at h1
        have := of_decide_eq_false h1
        omega
      have hs : sameS (glD l n).text t = true := sameS_iff.2 he.symm
      have e : gIx l t (n + 1) = n := by unfold gIx; rw [firstN_succ_ge hn, if_pos hs]
      rw [gmF, ← he, updM_same, e, if_pos (by omega)]
    · have hs : sameS (glD l n).text t = false := by
        cases h2 : sameS (glD l n).text t
        · rfl
        · exact absurd (sameS_iff.1 h2).symm he
      rw [gmF, updM_other (fun e => he (by simpa using e)), ih]
      by_cases hlt : firstN (fun j => sameS (glD l j).text t) n < n
      · have e : gIx l t (n + 1) = gIx l t n := firstN_succ_lt hlt
        rw [e]
        have : gIx l t n < n := hlt
        rw [if_pos this, if_pos (by omega)]
      · have hn : firstN (fun j => sameS (glD l j).text t) n = n := by omega
        have e : gIx l t (n + 1) = n + 1 := by unfold gIx; rw [firstN_succ_ge hn, if_neg (by rw [hs]; simp)]
        have e2 : gIx l t n = n := hn
        rw [e, e2, if_neg (by omega), if_neg (by omega)]
theorem kmF_at {l : List Kn} (a b : Int) : ∀ n, (∀ i, i < n → twiceK l i = false) → kmF l n (.agg #[.int .i64 a, .int .i64 b]) = if kIx l a b n < n then some (.int .i64 (knD l (kIx l a b n)).by_) else none
  | 0, _ => rfl
  | n + 1, h => by
    have ih := kmF_at (l := l) a b n (fun i hi => h i (by omega))
    have hl := firstN_le (fun j => decide ((knD l j).left = a ∧ (knD l j).right = b)) n
    by_cases he : (knD l n).left = a ∧ (knD l n).right = b
    · have hn : firstN (fun j => decide ((knD l j).left = a ∧ (knD l j).right = b)) n = n := by
        have h1 := h n (by omega)
        unfold twiceK at h1
        rw [he.1, he.2] at h1
        have := of_decide_eq_false h1
        omega
      have e : kIx l a b (n + 1) = n := by unfold kIx; rw [firstN_succ_ge hn, if_pos (decide_eq_true he)]
      rw [kmF, he.1, he.2, updM_same, e, if_pos (by omega)]
    · rw [kmF, updM_other (fun e => he (by simp at e; exact ⟨e.1.symm, e.2.symm⟩)), ih]
      by_cases hlt : firstN (fun j => decide ((knD l j).left = a ∧ (knD l j).right = b)) n < n
      · have e : kIx l a b (n + 1) = kIx l a b n := firstN_succ_lt hlt
        rw [e]
        have : kIx l a b n < n := hlt
        rw [if_pos this, if_pos (by omega)]
      · have hn : firstN (fun j => decide ((knD l j).left = a ∧ (knD l j).right = b)) n = n := by omega
        have e : kIx l a b (n + 1) = n + 1 := by unfold kIx; rw [firstN_succ_ge hn, if_neg (by rw [decide_eq_false he]; simp)]
        have e2 : kIx l a b n = n := hn
        rw [e, e2, if_neg (by omega), if_neg (by omega)]
/-- A setter in block b. -/
structure SetAt (w : World) (F : Font) (s : FSl) (R : Rul) (b gm km : Nat) : Prop where
  blk : w.heap[b]? = some (Obj.cells #[.int .i64 F.high, .int .i64 F.space, .slice s.g.a F.glyphs.length s.g.cap, .slice s.k.a F.kerns.length s.k.cap, .int .i64 R.measure, .int .i64 R.lines, .int .i64 R.lead, .int .i64 R.short, .int .i64 R.extra, .int .i64 R.ink, .map (some gm), .map (some km)] 107)
  gl : MapV K1 w gm (gmF F.glyphs F.glyphs.length)
  kn : MapV K2 w km (kmF F.kerns F.kerns.length)
  font : FontAt w F s
theorem SetAt.below {w w' : World} {F : Font} {s : FSl} {R : Rul} {b gm km : Nat} (h : SetAt w F s R b gm km) (hb : Below w.heap.size w w') : SetAt w' F s R b gm km :=
  ⟨Ext2.blk hb h.blk, h.gl.kept (hb.block gm h.gl.lt), h.kn.kept (hb.block km h.kn.lt), h.font.below hb⟩
/-- A setter has been made. -/
def SetOut (w : World) (F : Font) (s : FSl) (R : Rul) (e : Ending) (w' : World) : Prop := (∃ b gm km : Nat, e = .returned (.pointer (some ⟨b, 0, none⟩)) ∧ w.heap.size ≤ b ∧ SetAt w' F s R b gm km) ∧ Below w.heap.size w w'
def rul0 : Rul := ⟨0, 0, 0, 0, 0, 0⟩
set_option maxRecDepth 100000 in
set_option maxHeartbeats 2000000 in
theorem load_no {F : Font} {s : FSl} {w : World} (hF : FontAt w F s) (h0 : (checkF F).2.2 ≠ 0) : Calls Tryd.prog 46 #[.agg #[.int .i64 F.high, .int .i64 F.space, .slice s.g.a F.glyphs.length s.g.cap, .slice s.k.a F.kerns.length s.k.cap]] w fun e w' => e = .panicked [{ v := .iface 27 (.int .i64 ((checkF F).2.2)), recovered := false }] ∧ Below w.heap.size w w' := by
  obtain ⟨p1, p2, p3, hp⟩ : ∃ a b c, checkF F = (a, b, c) := ⟨_, _, _, rfl⟩
  have HC : Hid (∀ W, Below w.heap.size w W → Calls Tryd.prog 30 #[.agg #[.int .i64 F.high, .int .i64 F.space, .slice s.g.a F.glyphs.length s.g.cap, .slice s.k.a F.kerns.length s.k.cap]] W fun e w' => e = .returned (.tuple #[.int .i64 p1, .int .i64 p2, .int .i64 p3]) ∧ Below W.heap.size W w') := Lib.hid fun W hW => by
    have h := check_any (hF.below hW); rw [hp] at h; exact h
  rw [hp] at h0 ⊢
  dsimp only at h0 ⊢
  have hb : (p3 == 0) = false := by simpa using h0
  clear hp hF
  go_enter Tryd.func46, Tryd.ntmps46
  go_wp2_with (fail)
  (with_reducible refine (HC.out _ ?_).mono ?_)
  · repeat' (first | exact Below.refl _ _ | assumption | refine below_drewN ?_ _ | refine Below.drew ?_ | refine Below.alloc ?_ (by first | assumption | omega | (simp <;> omega)) _ | refine Below.setCell ?_ (by first | assumption | omega | (simp <;> omega)) _ | refine Ext2.on (by assumption) ?_)
  rintro e w1 ⟨rfl, hb1⟩
  have hB1 : Below w.heap.size w w1 := Below.trans (by repeat' (first | exact Below.refl _ _ | assumption | refine below_drewN ?_ _ | refine Below.drew ?_ | refine Below.alloc ?_ (by first | assumption | omega | (simp <;> omega)) _ | refine Below.setCell ?_ (by first | assumption | omega | (simp <;> omega)) _ | refine Ext2.on (by assumption) ?_)) (hb1.mono (by simp))
  clear hb1
  go_wp2_with (fail)
  (with_reducible refine (must_no _ _).mono ?_)
  rintro e w2 ⟨rfl, rfl⟩
  go_wp2_with (fail)
  exact ⟨rfl, rfl, hB1⟩
set_option maxRecDepth 100000 in
set_option maxHeartbeats 2000000 in
theorem load_ok {F : Font} {s : FSl} {w : World} (hF : FontAt w F s) (h0 : (checkF F).2.2 = 0) : Calls Tryd.prog 46 #[.agg #[.int .i64 F.high, .int .i64 F.space, .slice s.g.a F.glyphs.length s.g.cap, .slice s.k.a F.kerns.length s.k.cap]] w (SetOut w F s rul0) := by
  have hk := font_ok h0
  have HF := Lib.hid hF
  have HK := Lib.hid hk
  obtain ⟨p1, p2, hp⟩ : ∃ a b, checkF F = (a, b, 0) := ⟨_, _, by rw [← h0]⟩
  have HC : Hid (∀ W, Below w.heap.size w W → Calls Tryd.prog 30 #[.agg #[.int .i64 F.high, .int .i64 F.space, .slice s.g.a F.glyphs.length s.g.cap, .slice s.k.a F.kerns.length s.k.cap]] W fun e w' => e = .returned (.tuple #[.int .i64 p1, .int .i64 p2, .int .i64 0]) ∧ Below W.heap.size W w') := Lib.hid fun W hW => by
    have h := check_any (hF.below hW); rw [hp] at h; exact h
  have hng := hk.ng
  have hnk := hk.nk
  have hgl := hF.gls.gl.le; have hgm := hF.gls.gl.max; have hkl := hF.kn.le; have hkm := hF.kn.max
  clear hp hF h0 hk
  obtain ⟨⟨ga, gc⟩, rs, ks⟩ := s
  obtain ⟨gb, goff, hga, -⟩ := gl_cells HF.out.gls.gl (i := 0) (by omega)
  dsimp only at hga hgl hgm hkl hkm
  subst hga
  go_enter Tryd.func46, Tryd.ntmps46
  go_wp2_with (fail)
  (with_reducible refine (HC.out _ ?_).mono ?_)
  · repeat' (first | exact Below.refl _ _ | assumption | refine below_drewN ?_ _ | refine Below.drew ?_ | refine Below.alloc ?_ (by first | assumption | omega | (simp <;> omega)) _ | refine Below.setCell ?_ (by first | assumption | omega | (simp <;> omega)) _ | refine Ext2.on (by assumption) ?_)
  rintro e w1 ⟨rfl, hb1⟩
  have hB1 : Below w.heap.size w w1 := Below.trans (by repeat' (first | exact Below.refl _ _ | assumption | refine below_drewN ?_ _ | refine Below.drew ?_ | refine Below.alloc ?_ (by first | assumption | omega | (simp <;> omega)) _ | refine Below.setCell ?_ (by first | assumption | omega | (simp <;> omega)) _ | refine Ext2.on (by assumption) ?_)) (hb1.mono (by simp))
  have x1 : w1.heap[w.heap.size]? = some (Obj.cells #[.int .i64 F.high, .int .i64 F.space, .slice (some ⟨gb, goff, none⟩) F.glyphs.length gc, .slice ks.a F.kerns.length ks.cap] 25) := below_blk hb1 (by repeat' (first | (with_reducible assumption) | (with_reducible refine blk_set_ne ?_ ?_) | (with_reducible exact blk_new _ _) | (with_reducible refine blk_new' _ _ (by first | (with_reducible rfl) | (simp; done) | (simp <;> omega))) | (with_reducible refine blk_alloc ?_ _) | (with_reducible refine blk_drew ?_) | (with_reducible refine blk_drewN ?_ _) | (with_reducible refine Ext2.blk (by assumption) ?_) | omega | (simp <;> omega) | exact blk_set (by assumption) _ _)) (by simp)
  clear hb1
  have q1c := cell_blk x1
  have q1f := frz_blk x1
  go_wp2_with (fail)
  (with_reducible refine (must_ok _ _).mono ?_)
  rintro e w2 ⟨rfl, rfl⟩
  have hlt1 := blk_lt x1
  have hne1 : ¬ w.heap.size = w1.heap.size := by omega
  have hne2 : ¬ w.heap.size = w1.heap.size + 1 := by omega
  have hne3 : ¬ w.heap.size = w1.heap.size + 1 + 1 := by omega
  have hlt2 : w.heap.size < w1.heap.size + 1 := by omega
  have hlt3 : w.heap.size < w1.heap.size + 1 + 1 := by omega
  go_wp2_with (fail)
  refine wp_name ?_
  intro w2 h2
  have hB2 : Below w.heap.size w w2 := by rw [h2]; exact ((hB1.alloc hB1.size _).alloc (by simp; omega) _).alloc (by simp; omega) _
  obtain ⟨gm, hgm'⟩ : ∃ b, b = w1.heap.size := ⟨_, rfl⟩
  obtain ⟨km, hkm'⟩ : ∃ b, b = w1.heap.size + 1 := ⟨_, rfl⟩
  obtain ⟨sb, hsb'⟩ : ∃ b, b = w1.heap.size + 1 + 1 := ⟨_, rfl⟩
  have x1 : w2.heap[w.heap.size]? = some (Obj.cells #[.int .i64 F.high, .int .i64 F.space, .slice (some ⟨gb, goff, none⟩) F.glyphs.length gc, .slice ks.a F.kerns.length ks.cap] 25) := by rw [h2]; repeat' (first | (with_reducible assumption) | (with_reducible refine blk_set_ne ?_ ?_) | (with_reducible exact blk_new _ _) | (with_reducible refine blk_new' _ _ (by first | (with_reducible rfl) | (simp; done) | (simp <;> omega))) | (with_reducible refine blk_alloc ?_ _) | (with_reducible refine blk_drew ?_) | (with_reducible refine blk_drewN ?_ _) | (with_reducible refine Ext2.blk (by assumption) ?_) | omega | (simp <;> omega) | exact blk_set (by assumption) _ _)
  have xs : w2.heap[sb]? = some (Obj.cells #[.int .i64 F.high, .int .i64 F.space, .slice (some ⟨gb, goff, none⟩) F.glyphs.length gc, .slice ks.a F.kerns.length ks.cap, .int .i64 0, .int .i64 0, .int .i64 0, .int .i64 0, .int .i64 0, .int .i64 0, .map (some gm), .map (some km)] 107) := by rw [h2, hsb', hgm', hkm']; exact blk_new' _ _ (by simp)
  have hm1 : MapV K1 w2 gm (gmF F.glyphs 0) := MapV.made K1 (c := 0) (by rw [h2, hgm']; exact blk_alloc (blk_alloc (blk_new _ _) _) _)
  have hm2 : MapV K2 w2 km (kmF F.kerns 0) := MapV.made K2 (c := 0) (by rw [h2, hkm']; exact blk_alloc (blk_new' _ _ (by simp)) _)
  have o1 : w.heap.size < gm := by omega
  have o2 : gm < km := by omega
  have o3 : km < sb := by omega
  rw [← hsb', ← hkm', ← hgm']
  have HX1 := Lib.hid x1; have HXS := Lib.hid xs; have HM1 := Lib.hid hm1; have HM2 := Lib.hid hm2
  clear h2 x1 xs hm1 hm2 hgm' hkm' hsb' q1c q1f hB1 hlt1 hlt2 hlt3 hne1 hne2 hne3
  go_loopw [29] (fun p wr => ∃ k : Nat, p = .int .i64 (k : Int) ∧ k ≤ F.glyphs.length ∧ Below w.heap.size w wr ∧ wr.heap[w.heap.size]? = some (Obj.cells #[.int .i64 F.high, .int .i64 F.space, .slice (some ⟨gb, goff, none⟩) F.glyphs.length gc, .slice ks.a F.kerns.length ks.cap] 25) ∧ wr.heap[sb]? = some (Obj.cells #[.int .i64 F.high, .int .i64 F.space, .slice (some ⟨gb, goff, none⟩) F.glyphs.length gc, .slice ks.a F.kerns.length ks.cap, .int .i64 0, .int .i64 0, .int .i64 0, .int .i64 0, .int .i64 0, .int .i64 0, .map (some gm), .map (some km)] 107) ∧ MapV K1 wr gm (gmF F.glyphs k) ∧ MapV K2 wr km (kmF F.kerns 0)) (fun p _ => F.glyphs.length - (intOf p).toNat)
  case atStart => exact ⟨0, rfl, by omega, hB2, HX1.out, HXS.out, HM1.out, HM2.out⟩
  case round =>
    obtain ⟨k, rfl, hk, hB, x1, xs, hm1, hm2⟩ := hrel
    have HM1 := Lib.hid hm1; have HM2 := Lib.hid hm2
    have ls := blk_lt xs
    clear hm1 hm2
    by_cases hlt : k < F.glyphs.length
    · go_light
      obtain ⟨_, _, h1, g0, g1, g2⟩ := gl_cells (HF.out.below hB).gls.gl (i := k) hlt
      obtain ⟨rfl, rfl⟩ : gb = _ ∧ goff = _ := by simpa using h1
      obtain ⟨x, hx⟩ : ∃ x, x = glD F.glyphs k := ⟨_, rfl⟩
      rw [← hx] at g0 g1 g2
      obtain ⟨⟨ra, rc⟩, hr⟩ : ∃ r, r = rs k := ⟨_, rfl⟩
      dsimp only at g2
      rw [← hr] at g2
      have r0 : (0 : Int) ≤ (k : Int) := by omega
      have r1 : (k : Int) < (F.glyphs.length : Int) := by omega
      have w3' : IntKind.i64.wrap ((k : Int) + 1) = (k : Int) + 1 := IntWalk.i64_in _ (by omega)
      have HX := Lib.hid hx
      clear h1 hx hr
      go_wp2_with (fail)
      refine wp_name ?_
      intro w3 h3
      have x8 : w3.heap[wr.heap.size]? = some (Obj.cells #[.string x.text, .int .i64 x.wide, .slice ra x.rows.length rc] 41) := by rw [h3]; repeat' (first | (with_reducible assumption) | (with_reducible refine blk_set_ne ?_ ?_) | (with_reducible exact blk_new _ _) | (with_reducible refine blk_new' _ _ (by first | (with_reducible rfl) | (simp; done) | (simp <;> omega))) | (with_reducible refine blk_alloc ?_ _) | (with_reducible refine blk_drew ?_) | (with_reducible refine blk_drewN ?_ _) | (with_reducible refine Ext2.blk (by assumption) ?_) | omega | (simp <;> omega) | exact blk_set (by assumption) _ _)
      have hE3 : Ext2 wr w3 := by rw [h3]; repeat' (first | exact Below.refl _ _ | assumption | refine below_drewN ?_ _ | refine Below.drew ?_ | refine Below.alloc ?_ (by first | assumption | omega | (simp <;> omega)) _ | refine Below.setCell ?_ (by first | assumption | omega | (simp <;> omega)) _ | refine Ext2.on (by assumption) ?_)
      have x1 := Ext2.blk hE3 x1; have xs := Ext2.blk hE3 xs
      have HM1 := Lib.hid (HM1.out.kept (hE3.block gm HM1.out.lt)); have HM2 := Lib.hid (HM2.out.kept (hE3.block km HM2.out.lt))
      have hB3 := below_ext hB hE3
      clear h3 g0 g1 g2 hE3 hB
      have qsc := cell_blk xs
      have qsf := frz_blk xs
      have q8c := cell_blk x8
      have q8f := frz_blk x8
      go_wp2_with (fail)
      refine region_ev [] [0, 1, 2, 3, 4, 5, 6] [] [7] (by kernel_rfl) (by kernel_rfl) (by intro c a d v w h; cases d <;> exact h) ?_
      simp only [picks, List.drop_succ_cons, List.drop_zero]
      repeat (refine wpQ0_step (fun K hK => ?_); go_simp; (refine hK _ ?_; clear hK K))
      refine wpQ0_nil ?_
      repeat ((with_reducible refine wpQ2_step (fun K hK => ?_)); go_simp; first | ((with_reducible refine hK _ ?_); clear hK K) | (apply Exists.intro; refine ⟨fun x => ?_, hK _ ?_⟩; (fail); clear hK K))
      refine wpQ2_nil ?_
      refine Events.none_ fun w4 hg4 => ?_
      simp only [picks, List.drop_succ_cons, List.drop_zero]
      have hE4 : Ext2 w3 w4 := hg4
      have x1 := Ext2.blk hE4 x1; have xs := Ext2.blk hE4 xs
      have HM1 := Lib.hid (HM1.out.kept (hE4.block gm HM1.out.lt)); have HM2 := Lib.hid (HM2.out.kept (hE4.block km HM2.out.lt))
      have hB4 := below_ext hB3 hE4
      clear qsc qsf q8c q8f x8 hg4 hE4 hB3
      go_wp2_with (at_mapUpdate; refine wpList_store rfl _ _ _ 104 rfl 9 3 keyT_str Tryd.underlying104 gm rfl HM1.out (.string x.text) (.int .i64 (k : Int)) rfl rfl (k1_str _) ?_; intro o' hm')
      go_roundw
      case rel =>
        refine ⟨k + 1, by go_num, by omega, below_setObj hB4 (by omega) o', ?_, ?_, ?_, ?_⟩
        · rw [setObj_other _ _ (by omega)]; exact x1
        · rw [setObj_other _ _ (by omega)]; exact xs
        · rw [gmF, ← HX.out]; exact hm'
        · exact HM2.out.kept (setObj_other _ _ (by omega))
      case measure => simp [intOf]; omega
    · obtain rfl : k = F.glyphs.length := by omega
      have r9 : ¬ (F.glyphs.length : Int) < (F.glyphs.length : Int) := by omega
      have HB := Lib.hid hB; have HX1 := Lib.hid x1; have HXS := Lib.hid xs
      clear hlt
      have q1c := cell_blk x1
      have q1f := frz_blk x1
      go_wp2_with (fail)
      clear q1c q1f x1 xs hB
      go_loopw [45] (fun p wr => ∃ k : Nat, p = .int .i64 (k : Int) ∧ k ≤ F.kerns.length ∧ Below w.heap.size w wr ∧ wr.heap[sb]? = some (Obj.cells #[.int .i64 F.high, .int .i64 F.space, .slice (some ⟨gb, goff, none⟩) F.glyphs.length gc, .slice ks.a F.kerns.length ks.cap, .int .i64 0, .int .i64 0, .int .i64 0, .int .i64 0, .int .i64 0, .int .i64 0, .map (some gm), .map (some km)] 107) ∧ MapV K1 wr gm (gmF F.glyphs F.glyphs.length) ∧ MapV K2 wr km (kmF F.kerns k)) (fun p _ => F.kerns.length - (intOf p).toNat)
      case atStart => exact ⟨0, rfl, by omega, HB.out, HXS.out, HM1.out, HM2.out⟩
      case round =>
        obtain ⟨k, rfl, hk, hB, xs, hm1, hm2⟩ := hrel
        have HM1 := Lib.hid hm1; have HM2 := Lib.hid hm2
        have ls := blk_lt xs
        clear hm1 hm2
        by_cases hlt : k < F.kerns.length
        · go_light
          obtain ⟨kb, koff, hka, g0, g1, g2⟩ := kn_cells (HF.out.below hB).kn hlt
          obtain ⟨ka, kc⟩ := ks
          dsimp only at hka hkl hkm xs
          subst hka
          obtain ⟨x, hx⟩ : ∃ x, x = knD F.kerns k := ⟨_, rfl⟩
          rw [← hx] at g0 g1 g2
          have r0 : (0 : Int) ≤ (k : Int) := by omega
          have r1 : (k : Int) < (F.kerns.length : Int) := by omega
          have w3' : IntKind.i64.wrap ((k : Int) + 1) = (k : Int) + 1 := IntWalk.i64_in _ (by omega)
          have HX := Lib.hid hx
          clear hx
          go_wp2_with (fail)
          refine wp_name ?_
          intro w3 h3
          have x10 : w3.heap[wr.heap.size]? = some (Obj.cells #[.int .i64 x.left, .int .i64 x.right, .int .i64 x.by_] 62) := by rw [h3]; repeat' (first | (with_reducible assumption) | (with_reducible refine blk_set_ne ?_ ?_) | (with_reducible exact blk_new _ _) | (with_reducible refine blk_new' _ _ (by first | (with_reducible rfl) | (simp; done) | (simp <;> omega))) | (with_reducible refine blk_alloc ?_ _) | (with_reducible refine blk_drew ?_) | (with_reducible refine blk_drewN ?_ _) | (with_reducible refine Ext2.blk (by assumption) ?_) | omega | (simp <;> omega) | exact blk_set (by assumption) _ _)
          have hE3 : Ext2 wr w3 := by rw [h3]; repeat' (first | exact Below.refl _ _ | assumption | refine below_drewN ?_ _ | refine Below.drew ?_ | refine Below.alloc ?_ (by first | assumption | omega | (simp <;> omega)) _ | refine Below.setCell ?_ (by first | assumption | omega | (simp <;> omega)) _ | refine Ext2.on (by assumption) ?_)
          have xs := Ext2.blk hE3 xs
          have HM1 := Lib.hid (HM1.out.kept (hE3.block gm HM1.out.lt)); have HM2 := Lib.hid (HM2.out.kept (hE3.block km HM2.out.lt))
          have hB3 := below_ext hB hE3
          clear h3 g0 g1 g2 hE3 hB
          have qsc := cell_blk xs
          have qsf := frz_blk xs
          have q10c := cell_blk x10
          have q10f := frz_blk x10
          go_wp2_with (fail)
          refine region_ev [] [0, 1, 2, 3, 4, 5, 6, 7, 8, 9, 10] [] [11] (by kernel_rfl) (by kernel_rfl) (by intro c a d v w h; cases d <;> exact h) ?_
          simp only [picks, List.drop_succ_cons, List.drop_zero]
          repeat (refine wpQ0_step (fun K hK => ?_); go_simp; (refine hK _ ?_; clear hK K))
          refine wpQ0_nil ?_
          repeat ((with_reducible refine wpQ2_step (fun K hK => ?_)); go_simp; first | ((with_reducible refine hK _ ?_); clear hK K) | (apply Exists.intro; refine ⟨fun x => ?_, hK _ ?_⟩; (fail); clear hK K))
          refine wpQ2_nil ?_
          refine Events.none_ fun w4 hg4 => ?_
          simp only [picks, List.drop_succ_cons, List.drop_zero]
          have hE4 : Ext2 w3 w4 := hg4
          have xs := Ext2.blk hE4 xs
          have HM1 := Lib.hid (HM1.out.kept (hE4.block gm HM1.out.lt)); have HM2 := Lib.hid (HM2.out.kept (hE4.block km HM2.out.lt))
          have hB4 := below_ext hB3 hE4
          clear qsc qsf q10c q10f x10 hg4 hE4 hB3
          go_wp2_with (at_mapUpdate; refine wpList_store rfl _ _ _ 105 rfl 123 3 keyT_sides Tryd.underlying105 km rfl HM2.out (.agg #[.int .i64 x.left, .int .i64 x.right]) (.int .i64 x.by_) rfl rfl (k2_mk _ _) ?_; intro o' hm')
          go_roundw
          case rel =>
            refine ⟨k + 1, by go_num, by omega, below_setObj hB4 (by omega) o', ?_, ?_, ?_⟩
            · rw [setObj_other _ _ (by omega)]; exact xs
            · exact HM1.out.kept (setObj_other _ _ (by omega))
            · rw [kmF, ← HX.out]; exact hm'
          case measure => simp [intOf]; omega
        · obtain rfl : k = F.kerns.length := by omega
          have r8 : ¬ (F.kerns.length : Int) < (F.kerns.length : Int) := by omega
          have hsz : w.heap.size ≤ sb := by omega
          have HB := Lib.hid hB; have HXS := Lib.hid xs
          clear hlt
          go_wp2_with (fail)
          go_ret
          exact ⟨⟨sb, gm, km, rfl, hsz, HXS.out, HM1.out, HM2.out, HF.out.below HB.out⟩, HB.out⟩
end Go.Proofs.YtahgbecfaihfpaaDoor
