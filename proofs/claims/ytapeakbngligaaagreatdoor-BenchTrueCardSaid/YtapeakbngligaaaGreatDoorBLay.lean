/-
  bench.lay; leader.
-/
import Derived.Test.YtapeakbngligaaaGreatDoorBTab
namespace Go.Proofs.YtapeakbngligaaaGreatDoor
open Go.RowKit D
set_option linter.unusedVariables false
set_option linter.unusedSimpArgs false
attribute [local go_sem high] run_minI run_maxI
attribute [local go_sem] upon2 cls_cell cls_frozen forall_const exists_eq_left'
attribute [local go_sem] FirstUpon atBlk_cell
def intL (F : Nat) (p : Nat → Int) : List Value := (List.range F).map fun i => Value.int .i64 (p i)
theorem intL_get (F : Nat) (p : Nat → Int) (i : Nat) : (intL F p)[i]? = if i < F then some (.int .i64 (p i)) else none := by
  unfold intL
  rw [List.getElem?_map]
  by_cases h : i < F
  · rw [if_pos h, List.getElem?_range h]; rfl
  · rw [if_neg h, List.getElem?_eq_none (by simpa using h)]; rfl
theorem intL_len (F : Nat) (p : Nat → Int) : (intL F p).length = F := by simp [intL]
theorem intL_at {F : Nat} {p : Nat → Int} {i : Nat} (h : i < F) : (intL F p)[i]? = some (.int .i64 (p i)) := by rw [intL_get, if_pos h]
theorem intL_set {F : Nat} {p q : Nat → Int} {k : Nat} {v : Int} (h : ∀ i, i < F → q i = if i = k then v else p i) : (intL F p).toArray.setIfInBounds k (.int .i64 v) = (intL F q).toArray := by
  rw [List.setIfInBounds_toArray]
  congr 1
  apply List.ext_getElem?
  intro i
  rw [List.getElem?_set, intL_get, intL_get, intL_len]
  by_cases hi : i < F
  · rw [if_pos hi, if_pos hi, h i hi]
    by_cases hk : k = i
    · subst hk; simp [hi]
    · rw [if_neg hk, if_neg (Ne.symm hk)]
  · rw [if_neg hi, if_neg hi]
    by_cases hk : k = i
    · subst hk; simp [hi]
    · rw [if_neg hk]
theorem intL_congr {F : Nat} {p q : Nat → Int} (h : ∀ i, i < F → p i = q i) : intL F p = intL F q := by
  unfold intL; exact List.map_congr_left fun i hi => by rw [h i (List.mem_range.1 hi)]
theorem made_intL (F : Nat) : madeCells #[Value.int .i64 0] F = (intL F fun _ => 0).toArray := by
  apply Array.ext_getElem?
  intro i
  have e2 := intL_get F (fun _ => 0) i
  have e3 : (intL F fun _ => 0).toArray[i]? = (intL F fun _ => 0)[i]? := List.getElem?_toArray
  rw [e3, e2]
  by_cases h : i < F
  · rw [if_pos h]; exact made_one h
  · rw [if_neg h, Array.getElem?_eq_none (by rw [size_madeCells]; omega)]
/-- The table of a task, whole. -/
structure Tab (w : World) (T : Task) (t : TSl) (N : List Note) (ns : Sl) (B g F : Nat) : Prop where
  tab : TabN w T t N ns B (.slice (some ⟨g, 0, none⟩) (F + 1) (F + 1))
  pic : w.heap[g]? = some (.cells (intL (F + 1) fun i => picB N i).toArray 3 (0, 0))
  mks : MarksS w t.r.m T.reel.marks
  ok : StOk T N
  fr : T.reel.frames = (F : Int)
theorem Tab.below {w w' : World} {T : Task} {t : TSl} {N : List Note} {ns : Sl} {B g F : Nat} (h : Tab w T t N ns B g F) (hb : Below w.heap.size w w') : Tab w' T t N ns B g F := ⟨h.tab.below hb, below_blk hb h.pic (blk_lt h.pic), h.mks.below hb, h.ok, h.fr⟩
theorem Tab.le {w : World} {T : Task} {t : TSl} {N : List Note} {ns : Sl} {B g F : Nat} (h : Tab w T t N ns B g F) : 1 ≤ F ∧ F ≤ 200000 := by
  have := h.ok.task.reel.frames; rw [h.fr] at this; omega
set_option maxRecDepth 100000 in
set_option maxHeartbeats 8000000 in
theorem leader_any {T : Task} {t : TSl} {N : List Note} {ns : Sl} {B g F : Nat} {w : World} (h : Tab w T t N ns B g F) {f : Int} (h0 : 0 ≤ f) (h1 : f < F) :
    Calls Tryz.prog 31 #[.pointer (some ⟨B, 0, none⟩), .int .i64 f] w fun e w' => e = .returned (.bool (about N 3 f)) ∧ Below w.heap.size w w' := by
  obtain ⟨k, rfl⟩ : ∃ k : Nat, f = (k : Int) := ⟨f.toNat, by omega⟩
  have hle := h.le
  have x0 := h.tab.blk
  have c1 : w.cell? ⟨g, k, none⟩ = some (.int .i64 (picB N k)) := by rw [cell_blk h.pic, List.getElem?_toArray, intL_at (by omega)]
  have c2 : w.cell? ⟨g, k + 1, none⟩ = some (.int .i64 (picB N (k + 1))) := by rw [cell_blk h.pic, List.getElem?_toArray, intL_at (by omega)]
  have hv : (picB N k == picB N (k + 1)) = about N 3 (k : Int) := by
    rw [picB]
    cases about N 3 (k : Int)
    · simp; omega
    · simp
  obtain ⟨p, hp⟩ : ∃ p, p = picB N k := ⟨_, rfl⟩
  obtain ⟨q, hq⟩ : ∃ q, q = picB N (k + 1) := ⟨_, rfl⟩
  obtain ⟨v, hvv⟩ : ∃ v, v = about N 3 (k : Int) := ⟨_, rfl⟩
  rw [← hp] at c1 hv; rw [← hq] at c2 hv
  rw [← hvv] at hv ⊢
  have HV := Lib.hid hv
  have i0 : (0 : Int) ≤ (k : Int) := by omega
  have i1 : (k : Int) < (F : Int) + 1 := by omega
  have i2 : (k : Int) + 1 < (F : Int) + 1 := by omega
  have i3 : (0 : Int) ≤ (k : Int) + 1 := by omega
  have d0 : decide ((0 : Int) ≤ (k : Int)) = true := decide_eq_true i0
  have d1 : decide ((k : Int) < (F : Int) + 1) = true := decide_eq_true i1
  have d2 : decide ((k : Int) + 1 < (F : Int) + 1) = true := decide_eq_true i2
  have d3 : decide ((0 : Int) ≤ (k : Int) + 1) = true := decide_eq_true i3
  have w1' : IntKind.i64.wrap ((k : Int) + 1) = (k : Int) + 1 := IntWalk.i64_in _ (by omega)
  have e1 : ((k : Int) + 1).toNat = k + 1 := by omega
  clear h hp hq hvv hv
  have q0c := cell_blk x0
  have q0f := frz_blk x0
  go_enter Tryz.func31, Tryz.ntmps31
  go_wp2_with (fail)
  refine region_ev [] [0, 1, 2, 3, 4, 5, 6, 7, 8, 9, 10, 11, 12, 13, 14, 15, 16] [] [] (by kernel_rfl) (by kernel_rfl) (by intro c a d v w h; cases d <;> exact h) ?_
  simp only [picks, List.drop_succ_cons, List.drop_zero]
  repeat (refine wpQ0_step (fun K hK => ?_); go_simp; (refine hK _ ?_; clear hK K))
  refine wpQ0_nil ?_
  repeat ((with_reducible refine wpQ2_step (fun K hK => ?_)); go_simp; first | ((with_reducible refine hK _ ?_); clear hK K) | (apply Exists.intro; refine ⟨fun x => ?_, hK _ ?_⟩; (fail); clear hK K))
  refine wpQ2_nil ?_
  refine Events.none_ fun w2 hg2 => ?_
  simp only [picks, List.drop_succ_cons, List.drop_zero]
  go_wp2_with (fail)
  go_ret
  exact ⟨ret_bool HV.out, hg2⟩
theorem st_ok {T : Task} (h : TaskOk T) : StOk T (standV T.notes) := by
  have hm : ∀ x ∈ standV T.notes, x ∈ T.notes := fun x hx => (standV_mem.1 hx).1
  refine ⟨h, rfl, fun x hx => h.note x (hm x hx), ?_⟩
  have hnd : (standV T.notes).Nodup := (standV_ord T.notes).imp fun {a b} hab he => by rw [he, ordV_zero.2 rfl] at hab; omega
  have := nodup_len hnd hm
  have := h.nn
  omega
theorem note_in {x : Note} (h : NoteOk x) : NoteIn x := by
  have a := h.kind; have b := h.number; have c := h.rev; have d := h.from_; have e := h.until_; have f := h.mis
  unfold NoteIn; omega
def LayOut (w : World) (T : Task) (t : TSl) (e : Ending) (w' : World) : Prop := Below w.heap.size w w' ∧ (((checkV T).2.2 ≠ 0 ∧ e = .returned (.tuple #[.pointer none, .int .i64 (checkV T).2.2])) ∨ ((checkV T).2.2 = 0 ∧ ∃ (B g F : Nat) (ns : Sl), e = .returned (.tuple #[.pointer (some ⟨B, 0, none⟩), .int .i64 0]) ∧ Tab w' T t (standV T.notes) ns B g F))
set_option maxRecDepth 100000 in
set_option maxHeartbeats 8000000 in
theorem lay_any {T : Task} {t : TSl} {w : World} (hT : TaskAt w T t) (hm : MaxAt w) : Calls Tryz.prog 24 #[.agg #[.string T.reel.name, .int .i64 T.reel.gauge, .int .i64 T.reel.base, .int .i64 T.reel.frames, .int .i64 T.reel.ylo, .int .i64 T.reel.yhi, .int .i64 T.reel.keep, .slice t.r.m.a T.reel.marks.length t.r.m.cap, .slice t.r.s.a T.reel.syms.length t.r.s.cap, .slice t.r.l.a T.reel.lens.length t.r.l.cap, .int .i64 T.whole.lo, .int .i64 T.whole.hi, .slice t.n.a T.notes.length t.n.cap]] w (LayOut w T t) := by
  have HT := Lib.hid hT
  have HCH := Lib.hid fun (W : World) (hW : Ext2 w W) => check_any (hT.below hW) (hm.below hW)
  obtain ⟨⟨p1, p2, p3⟩, hp⟩ : ∃ p, p = checkV T := ⟨_, rfl⟩
  have HC2 : Hid (∀ W, Ext2 w W → Calls Tryz.prog 46 #[.agg #[.string T.reel.name, .int .i64 T.reel.gauge, .int .i64 T.reel.base, .int .i64 T.reel.frames, .int .i64 T.reel.ylo, .int .i64 T.reel.yhi, .int .i64 T.reel.keep, .slice t.r.m.a T.reel.marks.length t.r.m.cap, .slice t.r.s.a T.reel.syms.length t.r.s.cap, .slice t.r.l.a T.reel.lens.length t.r.l.cap, .int .i64 T.whole.lo, .int .i64 T.whole.hi, .slice t.n.a T.notes.length t.n.cap]] W fun e w' => e = .returned (.tuple #[.int .i64 p1, .int .i64 p2, .int .i64 p3]) ∧ Below W.heap.size W w') := Lib.hid fun W hW => (HCH.out W hW).mono fun e w' ⟨h1, h2⟩ => ⟨by rw [h1, ← hp], h2⟩
  have hp3 : (checkV T).2.2 = p3 := by rw [← hp]
  have HP3 := Lib.hid hp3
  clear hT hm HCH hp hp3
  go_enter Tryz.func24, Tryz.ntmps24
  go_upto_region 1 with (fail)
  refine wp_name ?_
  intro w3 hw3
  obtain ⟨n3, hn3⟩ : ∃ n, n = w.heap.size := ⟨_, rfl⟩
  have x3 : w3.heap[n3]? = some (Obj.cells #[.string T.reel.name, .int .i64 T.reel.gauge, .int .i64 T.reel.base, .int .i64 T.reel.frames, .int .i64 T.reel.ylo, .int .i64 T.reel.yhi, .int .i64 T.reel.keep, .slice t.r.m.a T.reel.marks.length t.r.m.cap, .slice t.r.s.a T.reel.syms.length t.r.s.cap, .slice t.r.l.a T.reel.lens.length t.r.l.cap, .int .i64 T.whole.lo, .int .i64 T.whole.hi, .slice t.n.a T.notes.length t.n.cap] 31) := by rw [hw3, hn3]; exact blk_new _ _
  have hE3 : Ext2 w w3 := by rw [hw3]; exact below_alloc' _ _
  rw [← hn3]
  have HE3 := Lib.hid hE3
  clear hw3 hn3 hE3
  have q3c := cell_blk x3
  have q3f := frz_blk x3
  go_wp2_with (fail)
  (with_reducible refine (HC2.out _ HE3.out).mono ?_)
  rintro e w4 ⟨rfl, hE4⟩
  have x4 := Ext2.blk hE4 x3
  have HE4 := Lib.hid (ext_trans HE3.out hE4)
  clear q3c q3f x3 hE4 HC2
  have q4c := cell_blk x4
  have q4f := frz_blk x4
  by_cases hE0 : p3 = 0
  case neg =>
    have hb : (p3 != 0) = true := by simpa using hE0
    have HNE := Lib.hid hE0
    clear hE0
    go_wp2_with (fail)
    go_ret2
    exact ⟨HE4.out, .inl ⟨by rw [HP3.out]; exact HNE.out, by rw [HP3.out]; rfl⟩⟩
  subst hE0
  have HOK := Lib.hid (task_ok HP3.out)
  have hin : ∀ x ∈ T.notes, NoteIn x := fun x hx => note_in (HOK.out.note x hx).1
  have HSD := Lib.hid fun (W : World) (hW : Ext2 w W) => standing_any (HT.out.nt.below hW) (by have := HOK.out.nn; omega) hin
  have hnl := HT.out.nt.le; have hnm := HT.out.nt.max
  obtain ⟨F, hF⟩ : ∃ F : Nat, T.reel.frames = (F : Int) := ⟨T.reel.frames.toNat, by have := HOK.out.reel.frames; omega⟩
  have hF1 := HOK.out.reel.frames
  rw [hF] at hF1
  have HF := Lib.hid hF
  clear hin hF
  go_upto_region 4 with (fail)
  refine join_key2 (C := fun (B : Nat) (ns : Sl) u => Ext2 w4 u ∧ w.heap.size ≤ B ∧ (∀ b off, ns.a = some ⟨b, off, none⟩ → 0 < (standV T.notes).length → 0 < 8 → b < B) ∧ TabN u T t (standV T.notes) ns B (.slice none 0 0)) (Q := ?qq) (A := ?ax) (fun key => ?tr) ?ke
  case tr =>
    refine region_treeU (Ext2 w4) (.flt [0, 1, 2] (.one 3 (.flt [4] (.one 5 (.flt [6] .leaf))))) (fun W h => h) (by kernel_rfl) (by kernel_rfl) (by intro c a d v w h; cases d <;> exact h) ?_
    intro u0 hE
    refine wpU_flt ?_
    simp only [picks, List.drop_succ_cons, List.drop_zero]
    repeat ((with_reducible refine wpQS_step (fun K hK => ?_)); go_simp; ((with_reducible refine hK _ ?_); clear hK K))
    (with_reducible refine wpQS_nil ?_)
    refine wpU_one ?_
    simp only [picks, List.drop_succ_cons, List.drop_zero]
    go_wp2_with (fail)
    refine (HSD.out u0 (ext_trans HE4.out hE)).mono ?_
    rintro e u1 ⟨⟨ns, rfl, hns⟩, hb1⟩
    have hE1 := ext_trans hE hb1
    clear hb1
    go_wp2_with (fail)
    refine ⟨hE1, ?_⟩
    refine wpU_flt ?_
    simp only [picks, List.drop_succ_cons, List.drop_zero]
    repeat ((with_reducible refine wpQS_step (fun K hK => ?_)); go_simp; ((with_reducible refine hK _ ?_); clear hK K))
    (with_reducible refine wpQS_nil ?_)
    refine wpU_one ?_
    simp only [picks, List.drop_succ_cons, List.drop_zero]
    go_wp2_with (fail)
    refine andU_name (fun u2 hu2 => ?_)
    obtain ⟨B, hB⟩ : ∃ b, b = u1.heap.size := ⟨_, rfl⟩
    have hBB : u2.heap[B]? = some (Obj.cells #[.string T.reel.name, .int .i64 T.reel.gauge, .int .i64 T.reel.base, .int .i64 T.reel.frames, .int .i64 T.reel.ylo, .int .i64 T.reel.yhi, .int .i64 T.reel.keep, .slice t.r.m.a T.reel.marks.length t.r.m.cap, .slice t.r.s.a T.reel.syms.length t.r.s.cap, .slice t.r.l.a T.reel.lens.length t.r.l.cap, .int .i64 T.whole.lo, .int .i64 T.whole.hi, .slice t.n.a T.notes.length t.n.cap, .slice ns.a (standV T.notes).length ns.cap, (.slice none 0 0)] 119) := by rw [hu2, hB]; exact blk_new _ _
    have hE2 : Ext2 u1 u2 := by rw [hu2]; exact below_alloc' _ _
    have hl : w.heap.size ≤ B := by have := HE4.out.size; have := hE1.size; omega
    have hnb : ∀ b off, ns.a = some ⟨b, off, none⟩ → 0 < (standV T.notes).length → 0 < 8 → b < B := fun b off ha hn hz => by rw [hB]; exact hns.block ha hn hz
    rw [← hB]
    clear hu2 hB
    have hEE := ext_trans hE1 hE2
    refine ⟨hEE, ?_⟩
    refine wpU_flt ?_
    simp only [picks, List.drop_succ_cons, List.drop_zero]
    repeat ((with_reducible refine wpQS_step (fun K hK => ?_)); go_simp; ((with_reducible refine hK _ ?_); clear hK K))
    (with_reducible refine wpQS_nil ?_)
    refine wpU_leaf ?_
    exact key B ns _ ⟨hEE, hl, hnb, ⟨hBB, hns.below hE2⟩⟩
  case ke =>
    rintro B ns w5 ⟨hE5, hlB, hnb, hTN⟩
    have HNB := Lib.hid hnb; clear hnb
    have HE5 := Lib.hid (ext_trans HE4.out hE5)
    have HTN := Lib.hid hTN
    have HMK := Lib.hid (marked_any hTN (st_ok HOK.out) HF.out 3)
    have x5 := hE5.blk x4
    have hBl := blk_lt hTN.blk
    have X5 := Lib.hid x5
    clear q4c q4f x4 hE5 hTN HSD x5
    go_wp2_with (fail)
    (with_reducible refine HMK.out.mono ?_)
    rintro e w6 ⟨⟨gl, cl, rfl, hcl1, hcl2, hgl, hgb⟩, hb6⟩
    have x6 := Ext2.blk hb6 X5.out
    have hTN6 := HTN.out.below hb6
    have y6 := hTN6.blk
    have HNT6 := Lib.hid hTN6.nt
    have HE6 := Lib.hid (ext_trans HE5.out hb6)
    have YL := Lib.hid hgb
    have lgl : gl < w6.heap.size := blk_lt hgb
    have lbg : B < gl := by omega
    have hs6 := hb6.size
    rw [HF.out] at x6
    have Y6 := Lib.hid y6
    clear X5 HTN HMK hTN6 hb6 hgb HE5
    have q3c := cell_blk x6
    have q3f := frz_blk x6
    have qbc := cell_blk y6
    have qbf := frz_blk y6
    have wF : IntKind.i64.wrap ((F : Int) + 1) = (F : Int) + 1 := IntWalk.i64_in _ (by omega)
    have lB6 : B < w6.heap.size := blk_lt y6
    have nB6 : ¬ B = w6.heap.size := by omega
    go_wp2_with (at_make; refine wpList_mk elInt rfl _ rfl (F + 1) rfl (by omega) ?_)
    refine wp_name ?_
    intro w8 hw8
    obtain ⟨g, hg⟩ : ∃ n, n = w6.heap.size := ⟨_, rfl⟩
    have y8 : w8.heap[B]? = some (Obj.cells #[.string T.reel.name, .int .i64 T.reel.gauge, .int .i64 T.reel.base, .int .i64 T.reel.frames, .int .i64 T.reel.ylo, .int .i64 T.reel.yhi, .int .i64 T.reel.keep, .slice t.r.m.a T.reel.marks.length t.r.m.cap, .slice t.r.s.a T.reel.syms.length t.r.s.cap, .slice t.r.l.a T.reel.lens.length t.r.l.cap, .int .i64 T.whole.lo, .int .i64 T.whole.hi, .slice t.n.a T.notes.length t.n.cap, .slice ns.a (standV T.notes).length ns.cap, (.slice (some ⟨g, 0, none⟩) (F + 1) (F + 1))] 119) := by
      rw [hw8, hg]; exact blk_alloc (Eq.trans (blk_set y6 _ _) rfl) _
    have hp8 : w8.heap[g]? = some (.cells (intL (F + 1) fun i => if i ≤ 0 then picB (standV T.notes) i else 0).toArray 3 (0, 0)) := by
      have e : intL (F + 1) (fun i => if i ≤ 0 then picB (standV T.notes) i else 0) = intL (F + 1) fun _ => 0 := intL_congr fun i hi => by
        by_cases h : i ≤ 0
        · obtain rfl : i = 0 := by omega
          rfl
        · rw [if_neg h]
      rw [e, ← made_intL, hw8, hg]
      exact blk_new' _ _ (by simp)
    have hbs : Below B w6 (w6.setCell ⟨B, 14, none⟩ (.slice (some ⟨w6.heap.size, 0, none⟩) (F + 1) (F + 1))) := below_set (Below.refl _ _) (Nat.le_refl _)
    have hE8 : Ext2 w w8 := by rw [hw8]; exact below_ext (HE6.out.trans (hbs.mono hlB)) (below_alloc' _ _)
    have hgl8 : w8.heap[gl]? = some (.cells (boolL F fun i => about (standV T.notes) 3 (i : Int)).toArray 4 (0, 0)) := by
      rw [hw8]; exact blk_alloc (blk_set_ne YL.out (by omega)) _
    have hnt8 : NotesS w8 ns (standV T.notes) := by
      rw [hw8]
      exact (RowS.kept HNT6.out HNB.out hbs).below (below_alloc' _ _)
    have hs8 : g < w8.heap.size := by rw [hw8, hg]; simp
    have lgg : gl < g := by omega
    rw [← hg]
    have Y8 := Lib.hid y8; have P8 := Lib.hid hp8; have HE8 := Lib.hid hE8; have GL8 := Lib.hid hgl8; have HNT8 := Lib.hid hnt8
    obtain ⟨N, hN⟩ : ∃ N, N = standV T.notes := ⟨_, rfl⟩
    rw [← hN] at Y8 P8 GL8 HNT8 HNB
    have HNN := Lib.hid hN
    clear hw8 hg y8 hp8 hE8 hgl8 hnt8 hbs y6 Y6 YL HNT6 HE6 x6 q3c q3f qbc qbf hN nB6 lB6
    go_wp2_with (fail)
    go_loopw [38] (fun i wr => ∃ k : Nat, i = .int .i64 k ∧ k ≤ F ∧ Ext2 w wr ∧ wr.heap[B]? = some (Obj.cells #[.string T.reel.name, .int .i64 T.reel.gauge, .int .i64 T.reel.base, .int .i64 T.reel.frames, .int .i64 T.reel.ylo, .int .i64 T.reel.yhi, .int .i64 T.reel.keep, .slice t.r.m.a T.reel.marks.length t.r.m.cap, .slice t.r.s.a T.reel.syms.length t.r.s.cap, .slice t.r.l.a T.reel.lens.length t.r.l.cap, .int .i64 T.whole.lo, .int .i64 T.whole.hi, .slice t.n.a T.notes.length t.n.cap, .slice ns.a N.length ns.cap, (.slice (some ⟨g, 0, none⟩) (F + 1) (F + 1))] 119) ∧ wr.heap[gl]? = some (.cells (boolL F fun i => about N 3 (i : Int)).toArray 4 (0, 0)) ∧ wr.heap[g]? = some (.cells (intL (F + 1) fun i => if i ≤ k then picB N i else 0).toArray 3 (0, 0)) ∧ NotesS wr ns N) (fun i _ => F - (intOf i).toNat)
    case atStart => exact ⟨0, rfl, by omega, HE8.out, Y8.out, GL8.out, P8.out, HNT8.out⟩
    case round =>
      clear HE8 Y8 GL8 P8 HNT8
      obtain ⟨k, rfl, hk, hE, y8, yl, hp, hnt⟩ := hrel
      have HE := Lib.hid hE; have Y8 := Lib.hid y8; have YL := Lib.hid yl; have HP := Lib.hid hp; have HNT := Lib.hid hnt
      clear hE hnt
      by_cases hlt : k < F
      · go_light
        have c0 : wr.cell? ⟨gl, k, none⟩ = some (.bool (about N 3 (k : Int))) := by rw [cell_blk yl, List.getElem?_toArray, boolL_at hlt]
        have c1 : wr.cell? ⟨g, k, none⟩ = some (.int .i64 (picB N k)) := by rw [cell_blk hp, List.getElem?_toArray, intL_at (by omega), if_pos (Nat.le_refl _)]
        have c2 : wr.cell? ⟨g, k + 1, none⟩ = some (.int .i64 0) := by rw [cell_blk hp, List.getElem?_toArray, intL_at (by omega), if_neg (by omega)]
        have f2 : wr.frozen? ⟨g, k + 1, none⟩ = false := frz_blk hp _
        have hpb : picB N (k + 1) = if about N 3 (k : Int) = true then picB N k else picB N k + 1 := by rw [picB]
        have hpi := picB_in N k
        obtain ⟨p, hpp⟩ : ∃ p, p = picB N k := ⟨_, rfl⟩
        obtain ⟨v, hv⟩ : ∃ v, v = about N 3 (k : Int) := ⟨_, rfl⟩
        rw [← hpp] at c1 hpb hpi; rw [← hv] at c0 hpb
        have HPB := Lib.hid hpb
        have i0 : (0 : Int) ≤ (k : Int) := by omega
        have i0' : (k : Int) < (F : Int) := by omega
        have i1 : (k : Int) < (F : Int) + 1 := by omega
        have i2 : (k : Int) + 1 < (F : Int) + 1 := by omega
        have i3 : (0 : Int) ≤ (k : Int) + 1 := by omega
        have d0 : decide ((0 : Int) ≤ (k : Int)) = true := decide_eq_true i0
        have d1 : decide ((k : Int) < (F : Int) + 1) = true := decide_eq_true i1
        have d2 : decide ((k : Int) + 1 < (F : Int) + 1) = true := decide_eq_true i2
        have d3 : decide ((0 : Int) ≤ (k : Int) + 1) = true := decide_eq_true i3
        have w1' : IntKind.i64.wrap ((k : Int) + 1) = (k : Int) + 1 := IntWalk.i64_in _ (by omega)
        have w2' : IntKind.i64.wrap (p + 1) = p + 1 := IntWalk.i64_in _ (by omega)
        have e1 : ((k : Int) + 1).toNat = k + 1 := by omega
        have q8c := cell_blk y8
        have q8f := frz_blk y8
        clear y8 yl hp hpb hpp hv hpi
        go_upto_region 10 with (fail)
        refine region_ev [] [0, 1, 2, 3, 4, 5, 6, 7, 8, 9, 10, 11, 12, 13] [] [14] (by kernel_rfl) (by kernel_rfl) (by intro c a d v w h; cases d <;> exact h) ?_
        simp only [picks, List.drop_succ_cons, List.drop_zero]
        repeat (refine wpQ0_step (fun K hK => ?_); go_simp; (refine hK _ ?_; clear hK K))
        refine wpQ0_nil ?_
        repeat ((with_reducible refine wpQ2_step (fun K hK => ?_)); go_simp; first | ((with_reducible refine hK _ ?_); clear hK K) | (apply Exists.intro; refine ⟨fun x => ?_, hK _ ?_⟩; (fail); clear hK K))
        refine wpQ2_nil ?_
        refine Events.none_ fun w9 hE9 => ?_
        simp only [picks, List.drop_succ_cons, List.drop_zero]
        have y9 := hE9.blk Y8.out
        have z9 := hE9.blk HP.out
        have YL9 := Lib.hid (hE9.blk YL.out)
        have HNT9 := Lib.hid (HNT.out.below hE9)
        have HE9 := Lib.hid (ext_trans HE.out hE9)
        have c2 := ext_cell' hE9 c2
        have f2 : w9.frozen? ⟨g, k + 1, none⟩ = false := frz_blk z9 _
        clear c0 c1 q8c q8f hE9 HE Y8 YL HP HNT
        go_upto_region 11 with (fail)
        refine wp_name ?_
        intro w10 hw10
        have z10 : w10.heap[g]? = some (.cells (intL (F + 1) fun i => if i = k + 1 then p else if i ≤ k then picB N i else 0).toArray 3 (0, 0)) := by
          rw [hw10, blk_set z9, intL_set (q := fun i => if i = k + 1 then p else if i ≤ k then picB N i else 0)]
          intro i hi; rfl
        have hE10 : Ext2 w w10 := by rw [hw10]; exact below_set HE9.out (by omega)
        have y10 : w10.heap[B]? = some (Obj.cells #[.string T.reel.name, .int .i64 T.reel.gauge, .int .i64 T.reel.base, .int .i64 T.reel.frames, .int .i64 T.reel.ylo, .int .i64 T.reel.yhi, .int .i64 T.reel.keep, .slice t.r.m.a T.reel.marks.length t.r.m.cap, .slice t.r.s.a T.reel.syms.length t.r.s.cap, .slice t.r.l.a T.reel.lens.length t.r.l.cap, .int .i64 T.whole.lo, .int .i64 T.whole.hi, .slice t.n.a T.notes.length t.n.cap, .slice ns.a N.length ns.cap, (.slice (some ⟨g, 0, none⟩) (F + 1) (F + 1))] 119) := by rw [hw10]; exact blk_set_ne y9 (by omega)
        have hl10 : w10.heap[gl]? = some (.cells (boolL F fun i => about N 3 (i : Int)).toArray 4 (0, 0)) := by rw [hw10]; exact blk_set_ne YL9.out (by omega)
        have hn10 : NotesS w10 ns N := by rw [hw10]; exact RowS.kept HNT9.out HNB.out (below_set (Below.refl _ _) (by omega))
        have HE10 := Lib.hid hE10; have Y10 := Lib.hid y10; have HL10 := Lib.hid hl10; have HN10 := Lib.hid hn10; have Z10 := Lib.hid z10
        clear hw10 y9 z9 c2 f2 hE10 hl10 hn10 YL9 HNT9 HE9
        cases v with
        | true =>
          have HPV : Hid (picB N (k + 1) = p) := Lib.hid (by rw [HPB.out]; rfl)
          clear y10 z10
          go_wp2_with (fail)
          go_roundw
          case rel =>
            refine ⟨k + 1, by go_num, by omega, HE10.out, Y10.out, HL10.out, ?_, HN10.out⟩
            rw [Z10.out]
            congr 3
            refine intL_congr fun i hi => ?_
            by_cases h1 : i = k + 1
            · rw [if_pos h1, if_pos (by omega), h1, HPV.out]
            · rw [if_neg h1]
              by_cases h2 : i ≤ k
              · rw [if_pos h2, if_pos (by omega)]
              · rw [if_neg h2, if_neg (by omega)]
          case measure => simp [intOf]; omega
        | false =>
          have HPV : Hid (picB N (k + 1) = p + 1) := Lib.hid (by rw [HPB.out]; rfl)
          have c3 : w10.cell? ⟨g, k + 1, none⟩ = some (.int .i64 p) := by rw [cell_blk z10, List.getElem?_toArray, intL_at (by omega), if_pos rfl]
          have f3 : w10.frozen? ⟨g, k + 1, none⟩ = false := frz_blk z10 _
          have q10c := cell_blk y10
          have q10f := frz_blk y10
          clear y10 z10
          go_wp2_with (fail)
          go_roundw
          case rel =>
            refine ⟨k + 1, by go_num, by omega, below_set HE10.out (by omega), blk_set_ne Y10.out (by omega), blk_set_ne HL10.out (by omega), ?_, RowS.kept HN10.out HNB.out (below_set (Below.refl _ _) (by omega))⟩
            rw [blk_set Z10.out, intL_set (q := fun i => if i ≤ k + 1 then picB N i else 0)]
            intro i hi
            by_cases h1 : i = k + 1
            · rw [if_pos h1, if_pos (by omega), h1, HPV.out]
            · rw [if_neg h1, if_neg h1]
              by_cases h2 : i ≤ k
              · rw [if_pos h2, if_pos (by omega)]
              · rw [if_neg h2, if_neg (by omega)]
          case measure => simp [intOf]; omega
      · obtain rfl : F = k := by omega
        have hpf : wr.heap[g]? = some (.cells (intL (F + 1) fun i => picB N i).toArray 3 (0, 0)) := by
          rw [HP.out]
          congr 3
          exact intL_congr fun i hi => by rw [if_pos (by omega)]
        have HPF := Lib.hid hpf
        clear y8 yl hp hpf
        go_wp2_with (fail)
        go_ret2
        refine ⟨HE.out, .inr ⟨HP3.out, B, g, F, ns, rfl, ?_⟩⟩
        rw [← HNN.out]
        exact ⟨⟨Y8.out, HNT.out⟩, HPF.out, HT.out.reel.mks.below HE.out, by rw [HNN.out]; exact st_ok HOK.out, HF.out⟩
end Go.Proofs.YtapeakbngligaaaGreatDoor
