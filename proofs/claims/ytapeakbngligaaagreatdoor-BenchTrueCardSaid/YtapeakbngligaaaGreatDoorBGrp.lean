/-
  (*bench.table).groups.
-/
import Derived.Test.YtapeakbngligaaaGreatDoorBPos
import Derived.Test.YtapeakbngligaaaGreatDoorBGDel
import Derived.Test.YtapeakbngligaaaGreatDoorBGps
namespace Go.Proofs.YtapeakbngligaaaGreatDoor
open Go.RowKit D
set_option linter.unusedVariables false
set_option linter.unusedSimpArgs false
attribute [local go_sem high] run_minI run_maxI
attribute [local go_sem] upon2 cls_cell cls_frozen forall_const exists_eq_left'
attribute [local go_sem] FirstUpon atBlk_cell
def GrpsOut (w : World) (r : List Grp × List Int) (e : Ending) (w' : World) : Prop := (∃ (s1 s2 : Sl) (hs : Nat → Sl), e = .returned (.tuple #[.slice s1.a r.1.length s1.cap, .slice s2.a r.2.length s2.cap]) ∧ GrpsS w' s1 hs r.1 ∧ IntsS w' s2 r.2) ∧ Below w.heap.size w w'
def grC (hs : Nat → Sl) (l : List Grp) (i j : Nat) : Value := match j with
  | 0 => .slice (hs i).a (grD l i).gaps.length (hs i).cap
  | 1 => .int .i64 (grD l i).is.lo
  | _ => .int .i64 (grD l i).is.hi
def updS (hs : Nat → Sl) (n : Nat) (s : Sl) (i : Nat) : Sl := if i = n then s else hs i
theorem grC_snoc {hs : Nat → Sl} {l : List Grp} {x : Grp} {s : Sl} {p q : Nat} (hp : p < l.length + 1) (hq : q < 3) : upd (grC hs l) l.length [.slice s.a x.gaps.length s.cap, .int .i64 x.is.lo, .int .i64 x.is.hi] p q = grC (updS hs l.length s) (l ++ [x]) p q := by
  have hj : grD (l ++ [x]) p = if p = l.length then x else grD l p := getD_app1 hp
  by_cases h : p = l.length
  · subst h
    rw [upd_at]
    rw [if_pos rfl] at hj
    rcases (by omega : q = 0 ∨ q = 1 ∨ q = 2) with rfl | rfl | rfl <;> simp only [grC, hj, updS, if_true] <;> rfl
  · rw [upd_lt (by omega)]
    rw [if_neg h] at hj
    rcases (by omega : q = 0 ∨ q = 1 ∨ q = 2) with rfl | rfl | rfl <;> simp only [grC, hj, updS, h, if_false]
theorem intC_snoc {l : List Int} {x : Int} {i j : Nat} (hi : i < l.length + 1) (hj : j < 1) : upd (intC l) l.length [.int .i64 x] i j = intC (l ++ [x]) i j := by
  obtain rfl : j = 0 := by omega
  by_cases h : i = l.length
  · subst h
    rw [upd_at]
    simp [intC, intD]
  · rw [upd_lt (by omega)]
    have e : intD (l ++ [x]) i = intD l i := by unfold intD; rw [List.getD_eq_getElem?_getD, List.getD_eq_getElem?_getD, List.getElem?_append_left (by omega)]
    simp [intC, e]
theorem elGrp : Elem Tryz.prog 87 91 (.agg #[.slice none 0 0, .int .i64 0, .int .i64 0]) 3 40 := ⟨by kernel_rfl, by kernel_rfl, rfl, by omega, by omega⟩
theorem OwnR.bx {W W' : World} {g0 base : Nat} {e : TypeId} {sz : Nat} {v : Value} {n : Nat} {c : Nat → Nat → Value} (h : OwnR W base e sz v n c) (hs : Bx g0 W W') (hne : v.ownBlock ≠ some g0) : OwnR W' base e sz v n c := by
  obtain ⟨hl, ⟨h0, h1⟩ | ⟨g, cap, cur, h1, h2, hg, h3⟩⟩ := h
  · exact ⟨hl, .inl ⟨h0, h1⟩⟩
  · refine ⟨hl, .inr ⟨g, cap, cur, h1, h2, (hs.block g (blk_lt hg) (fun he => hne (by rw [h1, he]; rfl))).trans hg, h3⟩⟩
theorem own_ne {W : World} {base base2 : Nat} {e e2 : TypeId} {sz sz2 : Nat} {v v2 : Value} {n n2 : Nat} {c c2 : Nat → Nat → Value} (h : OwnR W base e sz v n c) (h2 : OwnR W base2 e2 sz2 v2 n2 c2) (ht : e ≠ e2) {k : Nat} (hk : v2.ownBlock = some k) : v.ownBlock ≠ some k := fun hc => by
  obtain ⟨cur, h3⟩ := ownR_cells h hc
  obtain ⟨cur2, h4⟩ := ownR_cells h2 hk
  rw [h3] at h4
  simp only [Option.some.injEq, Obj.cells.injEq] at h4
  exact ht h4.2.1
/-- Between two rounds of groups. g0: the block of what is left. -/
structure GrpI (g0 base : Nat) (st : Grps) (hs : Nat → Sl) (av wv rv : Value) (w W : World) : Prop where
  bel : Below w.heap.size w W
  lb : w.heap.size ≤ base
  sz : base ≤ W.heap.size
  all : OwnR W base 91 3 av st.all.length (grC hs st.all)
  each : ∀ i, i < st.all.length → OwnR W base 49 4 (.slice (hs i).a (grD st.all i).gaps.length (hs i).cap) (grD st.all i).gaps.length (gpC (grD st.all i).gaps) ∧ (Value.slice (hs i).a (grD st.all i).gaps.length (hs i).cap).ownBlock ≠ some g0
  wrong : OwnR W base 3 1 wv st.wrong.length (intC st.wrong)
  rest : OwnR W base 49 4 rv st.rest.length (gpC st.rest)
  at0 : ∃ cap, rv = .slice (some ⟨g0, 0, none⟩) st.rest.length cap
section
variable {g0 base : Nat} {st : Grps} {hs : Nat → Sl} {av wv rv : Value} {w W W' : World}
theorem GrpI.ext (h : GrpI g0 base st hs av wv rv w W) (hE : Ext2 W W') : GrpI g0 base st hs av wv rv w W' :=
  ⟨below_ext h.bel hE, h.lb, Nat.le_trans h.sz hE.size, h.all.below hE, fun i hi => ⟨(h.each i hi).1.below hE, (h.each i hi).2⟩, h.wrong.below hE, h.rest.below hE, h.at0⟩
/-- Groups that a function has made, as the caller sees them. -/
theorem GrpI.view {s : Sl} (h : GrpI g0 base st hs (.slice s.a st.all.length s.cap) wv rv w W) (hok : ∀ i, i < st.all.length → GrpOk (grD st.all i)) : GrpsS W s hs st.all :=
  ⟨own_row h.all, fun i hi => own_row (h.each i hi).1, hok⟩
theorem grown_below {base : Nat} {row : Option Nat} (hb : Below w.heap.size w W) (lb : w.heap.size ≤ base) (hsz : base ≤ W.heap.size) (hg : W.grownBy W' row) (hr : ∀ k, row = some k → base ≤ k) : Below w.heap.size w W' :=
  hb.trans ⟨hg.os, hg.tape, hg.output, hg.size, fun q hq => hg.block q (by omega) fun he => by have := hr q he.symm; omega⟩
theorem GrpI.appW (h : GrpI g0 base st hs av wv rv w W) (hg : W.grownBy W' wv.ownBlock) {v' : Value} {x : Int} {n : Nat} (hn : n = st.wrong.length) (hO : OwnR W' base 3 1 v' (n + 1) (upd (intC st.wrong) n [.int .i64 x])) : GrpI g0 base { st with wrong := st.wrong ++ [x] } hs av v' rv w W' := by
  subst hn
  exact ⟨grown_below h.bel h.lb h.sz hg (own_ge h.wrong), h.lb, Nat.le_trans h.sz hg.size, own_other h.wrong hg h.all (by decide), fun i hi => ⟨own_other h.wrong hg (h.each i hi).1 (by decide), (h.each i hi).2⟩, by
    rw [List.length_append, List.length_singleton]
    exact OwnR.congr hO fun i j hi hj => intC_snoc hi hj, own_other h.wrong hg h.rest (by decide), h.at0⟩
theorem GrpI.appA (h : GrpI g0 base st hs av wv rv w W) (hg : W.grownBy W' av.ownBlock) {v' : Value} {gr : Grp} {s : Sl} {n m : Nat} (hn : n = st.all.length) (hm : m = gr.gaps.length) (hO : OwnR W' base 91 3 v' (n + 1) (upd (grC hs st.all) n [.slice s.a m s.cap, .int .i64 gr.is.lo, .int .i64 gr.is.hi])) (hx : OwnR W base 49 4 (.slice s.a m s.cap) m (gpC gr.gaps)) (hne : (Value.slice s.a m s.cap).ownBlock ≠ some g0) : GrpI g0 base { st with all := st.all ++ [gr] } (updS hs st.all.length s) v' wv rv w W' := by
  subst hn hm
  refine ⟨grown_below h.bel h.lb h.sz hg (own_ge h.all), h.lb, Nat.le_trans h.sz hg.size, ?_, fun i hi => ?_, own_other h.all hg h.wrong (by decide), own_other h.all hg h.rest (by decide), h.at0⟩
  · rw [List.length_append, List.length_singleton]
    exact OwnR.congr hO fun i j hi hj => grC_snoc hi hj
  · simp only [List.length_append, List.length_singleton] at hi
    have hj : grD (st.all ++ [gr]) i = if i = st.all.length then gr else grD st.all i := getD_app1 hi
    by_cases he : i = st.all.length
    · subst he
      rw [if_pos rfl] at hj
      simp only [hj, updS, if_true]
      exact ⟨own_other h.all hg hx (by decide), hne⟩
    · rw [if_neg he] at hj
      simp only [hj, updS, he, if_false]
      have := h.each i (by omega)
      exact ⟨own_other h.all hg this.1 (by decide), this.2⟩
theorem GrpI.del (h : GrpI g0 base st hs av wv rv w W) (hB : Bx g0 W W') {cap : Nat} {l : List Gap} (hO : OwnR W' base 49 4 (.slice (some ⟨g0, 0, none⟩) l.length cap) l.length (gpC l)) {left : Int} : GrpI g0 base { st with rest := l, left := left } hs av wv (.slice (some ⟨g0, 0, none⟩) l.length cap) w W' := by
  obtain ⟨cp, hrv⟩ := h.at0
  have hk : rv.ownBlock = some g0 := by rw [hrv]; rfl
  have hge := own_ge h.rest g0 hk
  have hl := h.lb
  exact ⟨h.bel.trans (hB.below (by omega) h.bel.size), h.lb, Nat.le_trans h.sz hB.size, h.all.bx hB (own_ne h.all h.rest (by decide) hk), fun i hi => ⟨(h.each i hi).1.bx hB (h.each i hi).2, (h.each i hi).2⟩, h.wrong.bx hB (own_ne h.wrong h.rest (by decide) hk), hO, ⟨cap, rfl⟩⟩
/-- The last group, of what is left. -/
theorem GrpI.last (h : GrpI g0 base st hs av wv rv w W) (hg : W.grownBy W' av.ownBlock) {s1 s2 sr : Sl} {gr : Grp} {n m : Nat} (hn : n = st.all.length) (hm : m = gr.gaps.length) (hgr : gr.gaps = st.rest) (hrv : rv = .slice sr.a m sr.cap) (hw : wv = .slice s2.a st.wrong.length s2.cap) (hO : OwnR W' base 91 3 (.slice s1.a (n + 1) s1.cap) (n + 1) (upd (grC hs st.all) n [.slice sr.a m sr.cap, .int .i64 gr.is.lo, .int .i64 gr.is.hi])) (hok : ∀ i, i < (st.all ++ [gr]).length → GrpOk (grD (st.all ++ [gr]) i)) : GrpsS W' s1 (updS hs st.all.length sr) (st.all ++ [gr]) ∧ IntsS W' s2 st.wrong ∧ Below w.heap.size w W' := by
  subst hn hm
  have hr := own_other h.all hg h.rest (by decide)
  rw [hrv, ← hgr] at hr
  have hl : (st.all ++ [gr]).length = st.all.length + 1 := by simp
  refine ⟨⟨?_, fun i hi => ?_, hok⟩, ?_, grown_below h.bel h.lb h.sz hg (own_ge h.all)⟩
  · have h1 := own_row (OwnR.congr hO fun i j hi hj => grC_snoc hi hj)
    rw [hl]; exact h1
  · rw [hl] at hi
    have hj : grD (st.all ++ [gr]) i = if i = st.all.length then gr else grD st.all i := getD_app1 hi
    by_cases he : i = st.all.length
    · subst he
      rw [if_pos rfl] at hj
      simp only [hj, updS, if_true]
      exact own_row hr
    · rw [if_neg he] at hj
      simp only [hj, updS, he, if_false]
      exact own_row (own_other h.all hg (h.each i (by omega)).1 (by decide))
  · have := own_other h.all hg h.wrong (by decide)
    rw [hw] at this
    exact own_row this
theorem gr_mem {l : List Grp} {i : Nat} (h : i < l.length) : grD l i ∈ l := by unfold grD; rw [List.getD_eq_getElem?_getD, List.getElem?_eq_getElem h]; exact List.getElem_mem h
theorem grps_ok {gs : List Gap} {ms : List D.Mark} {k : Nat} {st : Grps} (h : GrpsInv gs ms k st) (hi : ∀ x ∈ gs, GapIn x) (hl : gs.length ≤ 200001) {sp : Span} (h1 : -200000000 ≤ sp.lo ∧ sp.lo ≤ 200000000) (h2 : -200000000 ≤ sp.hi ∧ sp.hi ≤ 200000000) : ∀ i, i < (st.all ++ [(⟨st.rest, sp⟩ : Grp)]).length → GrpOk (grD (st.all ++ [(⟨st.rest, sp⟩ : Grp)]) i) := fun i hil => by
  rcases List.mem_append.1 (gr_mem hil) with hm | hm
  · have := (h.all _ hm).1
    exact ⟨⟨by have := this.lo; omega, by have := this.hi; omega⟩, fun x hx => hi x (this.sub.subset hx), Nat.le_trans this.sub.length_le hl⟩
  · rw [List.mem_singleton.1 hm]
    exact ⟨⟨h1, h2⟩, fun x hx => hi x (h.rest.subset hx), Nat.le_trans h.rest.length_le hl⟩
theorem GrpI.same (h : GrpI g0 base st hs av wv rv w W) {st' : Grps} (h1 : st'.all = st.all) (h2 : st'.wrong = st.wrong) (h3 : st'.rest = st.rest) : GrpI g0 base st' hs av wv rv w W := by
  obtain ⟨a1, a2, a3, a4⟩ := st'
  dsimp only at h1 h2 h3
  subst h1 h2 h3
  exact ⟨h.bel, h.lb, h.sz, h.all, h.each, h.wrong, h.rest, h.at0⟩
end
set_option maxRecDepth 100000 in
set_option maxHeartbeats 8000000 in
theorem groups_any {T : Task} {t : TSl} {N : List Note} {ns : Sl} {B g F : Nat} {s : Sl} {gs : List Gap} {w : World} (hT : Tab w T t N ns B g F) (hG : GapsS w s gs) (hgi : ∀ x ∈ gs, GapIn x) (hgl : gs.length ≤ 200001) (hg0 : 0 < gs.length) :
    Calls Tryz.prog 49 #[.pointer (some ⟨B, 0, none⟩), .slice s.a gs.length s.cap] w (GrpsOut w (grpsV (footV T.reel.gauge) F N gs T.reel.marks T.whole)) := by
  have HT := Lib.hid hT; have HG := Lib.hid hG; have HGI := Lib.hid hgi
  have hle := hT.le
  have x0 := hT.tab.blk
  have hfr := hT.fr
  rw [hfr] at x0
  have c0 : w.cell? ⟨g, F, none⟩ = some (.int .i64 (picB N F)) := by rw [cell_blk hT.pic, List.getElem?_toArray, intL_at (by omega)]
  have hcp := hG.le; have hcm := hG.max
  have hrk := hT.ok.task.reel
  have hmk : MarksIn F T.reel.marks := ⟨hrk.nm, fun i hi => by have := hrk.mark i hi; rw [hfr] at this; exact this, hrk.up⟩
  have hft : 0 ≤ footV T.reel.gauge ∧ footV T.reel.gauge ≤ 80 := by rcases foot_cases T.reel.gauge with h | h | h | h <;> omega
  have HINV := Lib.hid (grpsK_inv (l := N) (gs := gs) hmk hft hle.2)
  have HMK := Lib.hid hmk; have HFT := Lib.hid hft
  have hmc := hT.mks.le; have hmm := hT.mks.max; have hn60 := hrk.nm
  obtain ⟨ma, hma⟩ : ∃ a, a = t.r.m.a := ⟨_, rfl⟩
  obtain ⟨mc, hmcp⟩ : ∃ a, a = t.r.m.cap := ⟨_, rfl⟩
  rw [← hma, ← hmcp] at x0; rw [← hmcp] at hmc hmm
  have HMA := Lib.hid hma; have HMC := Lib.hid hmcp
  obtain ⟨ft, hftd⟩ : ∃ v, v = footV T.reel.gauge := ⟨_, rfl⟩
  have HFD := Lib.hid hftd
  rw [← hftd] at HINV HFT ⊢
  obtain ⟨V, hV⟩ : ∃ V, V = grpsV ft F N gs T.reel.marks T.whole := ⟨_, rfl⟩
  rw [← hV]
  have HV := Lib.hid hV
  obtain ⟨P, hP⟩ : ∃ P, P = picB N F := ⟨_, rfl⟩
  rw [← hP] at c0
  have HP := Lib.hid hP
  have HCL := Lib.hid fun (W : World) (hW : Ext2 w W) => cloneG_any (hG.below hW) (by omega)
  obtain ⟨n, hn⟩ : ∃ n, n = gs.length := ⟨_, rfl⟩
  rw [← hn] at hcp hgl HCL hg0 ⊢
  have HN := Lib.hid hn
  obtain ⟨sa, sc⟩ := s
  dsimp only at hcp hcm HCL
  obtain ⟨nm, hnm⟩ : ∃ n, n = T.reel.marks.length := ⟨_, rfl⟩
  have HNM := Lib.hid hnm
  rw [← hnm] at x0 hmc hn60 HINV
  have X0 := Lib.hid x0
  have i0 : (0 : Int) ≤ (F : Int) := by omega
  have i1 : (F : Int) < (F : Int) + 1 := by omega
  have i2 : decide ((0 : Int) ≤ (F : Int)) = true := decide_eq_true i0
  have i3 : decide ((F : Int) < (F : Int) + 1) = true := decide_eq_true i1
  clear hT hG hgi hfr hV hP hn hrk hmk hft hma hmcp hftd hnm
  go_enter Tryz.func49, Tryz.ntmps49
  have q0c := cell_blk x0
  have q0f := frz_blk x0
  go_upto_region 1 with (fail)
  refine region_ev [] [0, 1, 2, 3, 4, 5, 6, 7, 8, 9, 10, 11, 12] [] [] (by kernel_rfl) (by kernel_rfl) (by intro c a d v w h; cases d <;> exact h) ?_
  simp only [picks, List.drop_succ_cons, List.drop_zero]
  repeat (refine wpQ0_step (fun K hK => ?_); go_simp; (refine hK _ ?_; clear hK K))
  refine wpQ0_nil ?_
  repeat ((with_reducible refine wpQ2_step (fun K hK => ?_)); go_simp; first | ((with_reducible refine hK _ ?_); clear hK K) | (apply Exists.intro; refine ⟨fun x => ?_, hK _ ?_⟩; (fail); clear hK K))
  refine wpQ2_nil ?_
  refine Events.none_ fun w3 hE3 => ?_
  simp only [picks, List.drop_succ_cons, List.drop_zero]
  have HE3 := Lib.hid hE3
  have x0 := Ext2.blk hE3 X0.out
  clear q0c q0f c0 hE3
  have q0c := cell_blk x0
  have q0f := frz_blk x0
  go_wp2_with (fail)
  refine (HCL.out w3 HE3.out).mono ?_
  rintro e w4 ⟨⟨v, rfl, hO⟩, hE4⟩
  rw [HN.out] at hO
  obtain ⟨g0, cap0, hv, hgb0, -, -, -⟩ := own_some hO (by rw [← HN.out]; exact hg0)
  rw [← HN.out] at hv
  subst hv
  have HO := Lib.hid hO
  have HE4 := Lib.hid (ext_trans HE3.out hE4)
  have HZ4 := Lib.hid (Below.size hE4)
  have x0 := Ext2.blk hE4 x0
  clear q0c q0f hO hE4
  have q0c := cell_blk x0
  have q0f := frz_blk x0
  go_wp2_with (fail)
  obtain ⟨b0, hb0⟩ : ∃ b, b = w3.heap.size := ⟨_, rfl⟩
  have lwb : w.heap.size ≤ b0 := by rw [hb0]; exact HE3.out.size
  have h0 : GrpI g0 b0 (grpsK ft F N gs T.reel.marks 0) (fun _ => ⟨none, 0⟩) (.slice none 0 0) (.slice none 0 0) (.slice (some ⟨g0, 0, none⟩) n cap0) w w4 := by
    have hO := HO.out
    rw [← hb0] at hO
    exact ⟨HE4.out, lwb, by rw [hb0]; exact HZ4.out, own_nil _ _ _ _ _, fun i hi => absurd hi (Nat.not_lt_zero i), own_nil _ _ _ _ _, (by rw [HN.out] at hO ⊢; exact hO), ⟨cap0, by rw [HN.out]; rfl⟩⟩
  have HI0 := Lib.hid h0
  have hgb : b0 ≤ g0 := by rw [hb0]; exact hgb0
  clear h0 hb0 x0 q0c q0f hgb0 HO HZ4
  go_loopw [4, 5, 6, 7, 39] (fun av wv lv rv iv wr => ∃ (k : Nat) (hs : Nat → Sl) (ll : Int) (al wl : Nat) (aa wa : Option Addr) (ac wc rc rl : Nat), iv = .int .i64 k ∧ k ≤ nm ∧ lv = .int .i64 ll ∧ ll = (grpsK ft F N gs T.reel.marks k).left ∧ av = .slice aa al ac ∧ wv = .slice wa wl wc ∧ rv = .slice (some ⟨g0, 0, none⟩) rl rc ∧ al = (grpsK ft F N gs T.reel.marks k).all.length ∧ wl = (grpsK ft F N gs T.reel.marks k).wrong.length ∧ rl = (grpsK ft F N gs T.reel.marks k).rest.length ∧ GrpI g0 b0 (grpsK ft F N gs T.reel.marks k) hs av wv rv w wr) (fun _ _ _ _ i _ => nm - (intOf i).toNat)
  case atStart => exact ⟨0, _, P, 0, 0, none, none, 0, 0, cap0, n, rfl, by omega, rfl, by rw [HP.out]; rfl, rfl, rfl, rfl, rfl, rfl, by rw [HN.out]; rfl, HI0.out⟩
  case round =>
    clear HI0 HE4 HE3 HCL HP
    obtain ⟨k, hs, ll, al, wl, aa, wa, ac, wc, rc, rl, rfl, hk, rfl, hll, rfl, rfl, rfl, hal, hwl, hrl, hI⟩ := hrel
    have hinv := HINV.out k hk
    have b1 := hinv.left; have b2 := hinv.nall; have b3 := hinv.nwrong
    rw [← hll] at b1; rw [← hal] at b2; rw [← hwl] at b3
    have hrn : rl ≤ n := by rw [hrl, HN.out]; exact hinv.rest.length_le
    have HI := Lib.hid hI
    have x0 := below_blk hI.bel X0.out (blk_lt X0.out)
    have hss := grpsK_succ ft F N gs T.reel.marks k
    obtain ⟨st, hst⟩ : ∃ st, st = grpsK ft F N gs T.reel.marks k := ⟨_, rfl⟩
    rw [← hst] at HI hss hll hal hwl hrl
    have HST := Lib.hid hst; have HINVK := Lib.hid hinv
    have HSS := Lib.hid hss; have HLL := Lib.hid hll; have HAL := Lib.hid hal; have HWL := Lib.hid hwl; have HRL := Lib.hid hrl
    clear hinv hI hss hst hll hal hwl hrl
    have q0c := cell_blk x0
    have q0f := frz_blk x0
    by_cases hlt : k < nm
    · go_light
      have hkm : k < T.reel.marks.length := by rw [← HNM.out]; exact hlt
      obtain ⟨b, off, hma2, c0, c1, c2⟩ := mk_cells (HT.out.mks.below HI.out.bel) hkm
      have hma3 : ma = some ⟨b, off, none⟩ := HMA.out.trans hma2
      subst hma3
      have hmr := HMK.out.mark k hkm
      obtain ⟨M, hM⟩ : ∃ M, M = mkD T.reel.marks k := ⟨_, rfl⟩
      rw [← hM] at c0 c1 c2 hmr
      have HM := Lib.hid hM
      have h0 : (0 : Int) ≤ (k : Int) := by omega
      have h1 : (k : Int) < (nm : Int) := by omega
      have w1' : IntKind.i64.wrap ((k : Int) + 1) = (k : Int) + 1 := IntWalk.i64_in _ (by omega)
      clear hma2 hkm hM
      go_upto_region 6 with (fail)
      refine wp_name ?_
      intro w5 hw5
      obtain ⟨n9, hn9⟩ : ∃ n, n = wr.heap.size := ⟨_, rfl⟩
      have x9 : w5.heap[n9]? = some (Obj.cells #[.int .i64 M.frame, .int .i64 M.roll, .int .i64 M.number] 68) := by rw [hw5, hn9]; exact blk_new _ _
      have hE5 : Ext2 wr w5 := by rw [hw5]; exact below_alloc' _ _
      have lb9 : b0 ≤ n9 := by rw [hn9]; exact HI.out.sz
      have lg9 : g0 < n9 := by rw [hn9]; exact own_blk_lt HI.out.rest rfl
      have x0 := Ext2.blk hE5 x0
      have HI5 := Lib.hid (HI.out.ext hE5)
      have X9 := Lib.hid x9
      rw [← hn9]
      clear hw5 hn9 hE5 q0c q0f HI c0 c1 c2
      by_cases hk0 : k = 0
      · have e0 : ((k : Int) == 0) = true := by subst hk0; rfl
        have HF : Hid (grpsK ft F N gs T.reel.marks (k + 1) = st) := Lib.hid (by rw [HSS.out]; unfold grpS; rw [if_pos (.inl hk0)])
        clear hk0
        go_wp2_with (fail)
        go_roundw
        case rel => exact ⟨k + 1, hs, ll, al, wl, aa, wa, ac, wc, rc, rl, by go_num, by omega, rfl, by rw [HF.out]; exact HLL.out, rfl, rfl, rfl, by rw [HF.out]; exact HAL.out, by rw [HF.out]; exact HWL.out, by rw [HF.out]; exact HRL.out, by rw [HF.out]; exact HI5.out⟩
        case measure => simp [intOf]; omega
      have e0 : ((k : Int) == 0) = false := by simp; omega
      have hk1 : 1 ≤ k := by omega
      obtain ⟨j, hj⟩ : ∃ j : Nat, k = j + 1 := ⟨k - 1, by omega⟩
      have hjm : j < T.reel.marks.length := by rw [← HNM.out]; omega
      have hjk : k - 1 = j := by omega
      have HJK := Lib.hid hjk
      have w2' : IntKind.i64.wrap ((k : Int) - 1) = (j : Int) := by rw [hj]; rw [IntWalk.i64_in _ (by omega)]; omega
      have w3' : wrap64 ((k : Int) - 1) = (j : Int) := by rw [hj]; rw [IntWalk.wrap64_in _ (by omega)]; omega
      obtain ⟨b', off', hma2, c0, c1, c2⟩ := mk_cells (HT.out.mks.below HI5.out.bel) hjm
      have hma3 := HMA.out.trans hma2
      cases hma3
      have har := HMK.out.mark j hjm
      have hup := HMK.out.up k hk1 (by rw [← HNM.out]; exact hlt)
      rw [hjk, ← HM.out] at hup
      obtain ⟨A, hA⟩ : ∃ A, A = mkD T.reel.marks j := ⟨_, rfl⟩
      rw [← hA] at c0 c1 c2 har hup
      have HA := Lib.hid hA
      have h2 : (0 : Int) ≤ (j : Int) := by omega
      have h3 : (j : Int) < (nm : Int) := by omega
      have HKJ := Lib.hid hj
      clear hma2 hjm hA hjk hj hk0
      have q0c := cell_blk x0
      have q0f := frz_blk x0
      have q9c := cell_blk X9.out
      have q9f := frz_blk X9.out
      go_upto_region 8 with (fail)
      refine wp_name ?_
      intro w6 hw6
      obtain ⟨n10, hn10⟩ : ∃ n, n = w5.heap.size := ⟨_, rfl⟩
      have x10 : w6.heap[n10]? = some (Obj.cells #[.int .i64 A.frame, .int .i64 A.roll, .int .i64 A.number] 68) := by rw [hw6, hn10]; exact blk_new _ _
      have hE6 : Ext2 w5 w6 := by rw [hw6]; exact below_alloc' _ _
      have l910 : n9 < n10 := by rw [hn10]; exact blk_lt X9.out
      have x0 := Ext2.blk hE6 x0
      have x9 := Ext2.blk hE6 X9.out
      have HI6 := Lib.hid (HI5.out.ext hE6)
      have X10 := Lib.hid x10; have X96 := Lib.hid x9; have X06 := Lib.hid x0
      rw [← hn10]
      clear hw6 hn10 hE6 q0c q0f q9c q9f HI5 X9 c0 c1 c2
      have q9c := cell_blk x9
      have q9f := frz_blk x9
      have q10c := cell_blk x10
      have q10f := frz_blk x10
      clear x0 x9 x10
      have HSKIP : Hid ((A.roll ≠ M.roll ∨ about N 3 A.frame = true ∨ about N 3 M.frame = true) → grpsK ft F N gs T.reel.marks (k + 1) = st) := Lib.hid fun h => by
        rw [HSS.out]; unfold grpS; rw [if_pos]
        rw [HJK.out, ← HA.out, ← HM.out]
        exact .inr h
      obtain ⟨va, hva⟩ : ∃ v, v = about N 3 A.frame := ⟨_, rfl⟩
      obtain ⟨vm, hvm⟩ : ∃ v, v = about N 3 M.frame := ⟨_, rfl⟩
      have HLA : Hid (∀ W, Ext2 w6 W → Calls Tryz.prog 31 #[.pointer (some ⟨B, 0, none⟩), .int .i64 A.frame] W fun e w' => e = .returned (.bool va) ∧ Below W.heap.size W w') := Lib.hid fun W hW => by rw [hva]; exact leader_any (HT.out.below (below_ext HI6.out.bel hW)) har.1.1 har.1.2
      have HLM : Hid (∀ W, Ext2 w6 W → Calls Tryz.prog 31 #[.pointer (some ⟨B, 0, none⟩), .int .i64 M.frame] W fun e w' => e = .returned (.bool vm) ∧ Below W.heap.size W w') := Lib.hid fun W hW => by rw [hvm]; exact leader_any (HT.out.below (below_ext HI6.out.bel hW)) hmr.1.1 hmr.1.2
      rw [← hva, ← hvm] at HSKIP
      have HVA := Lib.hid hva; have HVM := Lib.hid hvm
      clear hva hvm
      by_cases hro : A.roll = M.roll
      case neg =>
        have er : (A.roll != M.roll) = true := by simp [hro]
        have HF := Lib.hid (HSKIP.out (.inl hro))
        clear hro HSKIP HLA HLM
        go_wp2_with (fail)
        go_roundw
        case rel => exact ⟨k + 1, hs, ll, al, wl, aa, wa, ac, wc, rc, rl, by go_num, by omega, rfl, by rw [HF.out]; exact HLL.out, rfl, rfl, rfl, by rw [HF.out]; exact HAL.out, by rw [HF.out]; exact HWL.out, by rw [HF.out]; exact HRL.out, by rw [HF.out]; exact HI6.out⟩
        case measure => simp [intOf]; omega
      have er : (A.roll != M.roll) = false := by simp [hro]
      have HRO := Lib.hid hro
      clear hro
      have HL1 := Lib.hid (HLA.out w6 (Below.refl _ _))
      go_wp2_with (fail)
      (with_reducible refine HL1.out.mono ?_)
      rintro e w7 ⟨rfl, hE7⟩
      have x9 := Ext2.blk hE7 X96.out; have x10 := Ext2.blk hE7 X10.out
      have HE7 := Lib.hid hE7
      clear q9c q9f q10c q10f hE7
      have q9c := cell_blk x9
      have q9f := frz_blk x9
      have q10c := cell_blk x10
      have q10f := frz_blk x10
      clear x9 x10
      cases va with
      | true =>
        have HF := Lib.hid (HSKIP.out (.inr (.inl rfl)))
        have HI7 := Lib.hid (HI6.out.ext HE7.out)
        clear HSKIP HLA HLM HL1
        go_wp2_with (fail)
        go_roundw
        case rel => exact ⟨k + 1, hs, ll, al, wl, aa, wa, ac, wc, rc, rl, by go_num, by omega, rfl, by rw [HF.out]; exact HLL.out, rfl, rfl, rfl, by rw [HF.out]; exact HAL.out, by rw [HF.out]; exact HWL.out, by rw [HF.out]; exact HRL.out, by rw [HF.out]; exact HI7.out⟩
        case measure => simp [intOf]; omega
      | false =>
      have HL2 := Lib.hid (HLM.out w7 HE7.out)
      go_wp2_with (fail)
      (with_reducible refine HL2.out.mono ?_)
      rintro e w8 ⟨rfl, hE8⟩
      have hE8' := ext_trans HE7.out hE8
      have x9 := Ext2.blk hE8' X96.out; have x10 := Ext2.blk hE8' X10.out
      have HE8 := Lib.hid hE8'
      clear q9c q9f q10c q10f hE8 hE8' HE7
      have q9c := cell_blk x9
      have q9f := frz_blk x9
      have q10c := cell_blk x10
      have q10f := frz_blk x10
      have X9 := Lib.hid x9; have X108 := Lib.hid x10
      clear x9 x10
      cases vm with
      | true =>
        have HF := Lib.hid (HSKIP.out (.inr (.inr rfl)))
        have HI8 := Lib.hid (HI6.out.ext HE8.out)
        clear HSKIP HLA HLM HL1
        go_wp2_with (fail)
        go_roundw
        case rel => exact ⟨k + 1, hs, ll, al, wl, aa, wa, ac, wc, rc, rl, by go_num, by omega, rfl, by rw [HF.out]; exact HLL.out, rfl, rfl, rfl, by rw [HF.out]; exact HAL.out, by rw [HF.out]; exact HWL.out, by rw [HF.out]; exact HRL.out, by rw [HF.out]; exact HI8.out⟩
        case measure => simp [intOf]; omega
      | false =>
      clear HSKIP HLA HLM HL1 HL2
      have HI8 := Lib.hid (HI6.out.ext HE8.out)
      obtain ⟨fm, hfm⟩ : ∃ n : Nat, M.frame = n := ⟨_, (Int.toNat_of_nonneg hmr.1.1).symm⟩
      obtain ⟨fa, hfa⟩ : ∃ n : Nat, A.frame = n := ⟨_, (Int.toNat_of_nonneg har.1.1).symm⟩
      have hmi := miss_in (l := N) HFT.out har.2.2 hmr.2.2 (a := A) (b := M) (by omega) (by omega)
      obtain ⟨mi, hmid⟩ : ∃ m, m = missN ft N A M := ⟨_, rfl⟩
      rw [← hmid] at hmi
      have hpm := picB_in N (fm + 1); have hpa := picB_in N (fa + 1)
      have d0 : w8.cell? ⟨g, fm + 1, none⟩ = some (.int .i64 (picB N (fm + 1))) := by rw [cell_blk (HT.out.below HI8.out.bel).pic, List.getElem?_toArray, intL_at (by omega)]
      have d1 : w8.cell? ⟨g, fa + 1, none⟩ = some (.int .i64 (picB N (fa + 1))) := by rw [cell_blk (HT.out.below HI8.out.bel).pic, List.getElem?_toArray, intL_at (by omega)]
      have hmid2 := hmid
      unfold missN at hmid2
      have e1 : (M.frame + 1).toNat = fm + 1 := by omega
      have e2 : (A.frame + 1).toNat = fa + 1 := by omega
      rw [e1, e2] at hmid2
      obtain ⟨pm, hpmd⟩ : ∃ p, p = picB N (fm + 1) := ⟨_, rfl⟩
      obtain ⟨pa, hpad⟩ : ∃ p, p = picB N (fa + 1) := ⟨_, rfl⟩
      rw [← hpmd, ← hpad] at hmid2; rw [← hpmd] at d0 hpm; rw [← hpad] at d1 hpa
      obtain ⟨pr, hpr⟩ : ∃ p, p = (M.number - A.number) * ft := ⟨_, rfl⟩
      rw [← hpr] at hmid2
      have u1 : IntKind.i64.wrap (M.number - A.number) = M.number - A.number := IntWalk.i64_in _ (by omega)
      have u2 : IntKind.i64.wrap ((M.number - A.number) * ft) = pr := by rw [← hpr]; exact IntWalk.i64_in _ (by omega)
      have u3 : IntKind.i64.wrap (pm - pa) = pm - pa := IntWalk.i64_in _ (by omega)
      have u4 : IntKind.i64.wrap (pr - (pm - pa)) = mi := by rw [← hmid2]; exact IntWalk.i64_in _ (by omega)
      have u5 : IntKind.i64.wrap (M.frame + 1) = M.frame + 1 := IntWalk.i64_in _ (by omega)
      have u6 : IntKind.i64.wrap (A.frame + 1) = A.frame + 1 := IntWalk.i64_in _ (by omega)
      have v1 : (0 : Int) ≤ M.frame + 1 := by omega
      have v2 : M.frame + 1 < (F : Int) + 1 := by omega
      have v3 : (0 : Int) ≤ A.frame + 1 := by omega
      have v4 : A.frame + 1 < (F : Int) + 1 := by omega
      have v5 : M.frame < (F : Int) := by omega
      have v6 : A.frame < (F : Int) := by omega
      have g1 : decide ((0 : Int) ≤ M.frame + 1) = true := decide_eq_true v1
      have g2 : decide (M.frame + 1 < (F : Int) + 1) = true := decide_eq_true v2
      have g3 : decide ((0 : Int) ≤ A.frame + 1) = true := decide_eq_true v3
      have g4 : decide (A.frame + 1 < (F : Int) + 1) = true := decide_eq_true v4
      have g5 : decide (M.frame < (F : Int)) = true := decide_eq_true v5
      have g6 : decide (A.frame < (F : Int)) = true := decide_eq_true v6
      have HMI := Lib.hid hmid
      have HFO : Hid (∀ W, Ext2 w8 W → Calls Tryz.prog 66 #[.pointer (some ⟨B, 0, none⟩)] W fun e w' => e = .returned (.int .i64 ft) ∧ Below W.heap.size W w') := Lib.hid fun W hW => by rw [HFD.out]; exact foot_any (HT.out.below (below_ext HI8.out.bel hW))
      have HUP := Lib.hid hup
      have x0 := Ext2.blk HE8.out X06.out
      have X08 := Lib.hid x0
      have lz9 := blk_lt X9.out; have lz10 := blk_lt X108.out
      clear hmid hmid2 hpmd hpad hpr hup hfm hfa hpm hpa
      go_upto_region 9 with (fail)
      have q0c := cell_blk x0
      have q0f := frz_blk x0
      refine region_ev [] [0, 1, 2, 3, 4, 5, 6, 7, 8, 9, 10, 11, 12, 13, 14, 15, 16, 17, 18, 19, 20, 21, 22, 23, 24, 25, 26, 27, 28] [] [] (by kernel_rfl) (by kernel_rfl) (by intro c a d v w h; cases d <;> exact h) ?_
      simp only [picks, List.drop_succ_cons, List.drop_zero]
      repeat (refine wpQ0_step (fun K hK => ?_); go_simp; (refine hK _ ?_; clear hK K))
      refine wpQ0_nil ?_
      repeat ((with_reducible refine wpQ2_step (fun K hK => ?_)); go_simp; first | ((with_reducible refine hK _ ?_); clear hK K) | (apply Exists.intro; refine ⟨fun x => ?_, hK _ ?_⟩; ((with_reducible exact HFO.out x.1 x.2)); clear hK K))
      refine wpQ2_nil ?_
      refine Events.none_ fun w9 hE9 => ?_
      simp only [picks, List.drop_succ_cons, List.drop_zero]
      have x9 := Ext2.blk hE9 X9.out; have x10 := Ext2.blk hE9 X108.out
      have HI9 := Lib.hid (HI8.out.ext hE9)
      have X09 := Lib.hid (Ext2.blk hE9 X08.out); have X99 := Lib.hid x9; have X109 := Lib.hid x10
      clear q0c q0f q9c q9f q10c q10f hE9 HI6 HI8 HE8 X9 X108 X08 X06 X10 X96 x0 d0 d1 u1 u2 u3 u4 u5 u6 v1 v2 v3 v4 v5 v6 g1 g2 g3 g4 g5 g6 e1 e2 HFO lz9 lz10 x9 x10
      go_upto_region 12 with (fail)
      refine wp_name ?_
      intro w10 hw10
      obtain ⟨n13, hn13⟩ : ∃ n, n = w9.heap.size := ⟨_, rfl⟩
      have x13 : w10.heap[n13]? = some (.cells #[.slice none 0 0, .int .i64 mi, .int .i64 mi] 91 (0, 0)) := by rw [hw10, hn13]; exact blk_new _ _
      have hE10 : Ext2 w9 w10 := by rw [hw10]; exact below_alloc' _ _
      have l1013 : n10 < n13 := by rw [hn13]; exact blk_lt X109.out
      have HE10 := Lib.hid hE10
      have X13 := Lib.hid x13
      have HS13 : Hid (n13 = w9.heap.size) := Lib.hid hn13
      have lz13 := blk_lt x13
      rw [← hn13]
      clear hw10 hn13 hE10 x13
      obtain ⟨p, hp⟩ : ∃ p, p = betw A M := ⟨_, rfl⟩
      have HPD := Lib.hid hp
      clear hp
      go_wp2_with (fail)
      obtain ⟨wo, rfl⟩ : ∃ x, x = wr := ⟨_, rfl⟩
      go_loopw [108] (fun iv wq => ∃ (q : Nat) (ga : Option Addr) (gl gc : Nat), iv = .int .i64 q ∧ q ≤ n ∧ gl = ((gs.take q).filter p).length ∧ Ext2 w9 wq ∧ wq.heap[n13]? = some (.cells #[.slice ga gl gc, .int .i64 mi, .int .i64 mi] 91 (0, 0)) ∧ n13 + 1 ≤ wq.heap.size ∧ OwnR wq (n13 + 1) 49 4 (.slice ga gl gc) gl (gpC ((gs.take q).filter p))) (fun i _ => n - (intOf i).toNat)
      case atStart => exact ⟨0, none, 0, 0, rfl, by omega, rfl, HE10.out, X13.out, lz13, own_nil _ _ _ _ _⟩
      case round =>
        clear HE10 X13 lz13
        obtain ⟨q, ga, gl, gc, rfl, hq, hgl2, hE, x13, hz13, hO⟩ := hrel
        have hglq : gl ≤ q := by rw [hgl2]; exact filter_len gs p q
        have HE := Lib.hid hE; have X13 := Lib.hid x13; have HO := Lib.hid hO; have HGL := Lib.hid hgl2
        clear hE x13 hO hgl2
        by_cases hlq : q < n
        · go_light
          have hql : q < gs.length := by rw [← HN.out]; exact hlq
          obtain ⟨bb, offb, hsa, c0, c1, c2, c3⟩ := gp_cells (HG.out.below (below_ext HI9.out.bel HE.out)) hql
          dsimp only at hsa
          subst hsa
          have hf1 := filter_take (p := p) (d := default) hql
          obtain ⟨x, hx⟩ : ∃ x, x = gpD gs q := ⟨_, rfl⟩
          rw [show gs.getD q default = x from hx.symm] at hf1
          rw [← hx] at c0 c1 c2 c3
          have HF1 := Lib.hid hf1
          have y0 : (0 : Int) ≤ (q : Int) := by omega
          have y1 : (q : Int) < (n : Int) := by omega
          have y2 : IntKind.i64.wrap ((q : Int) + 1) = (q : Int) + 1 := IntWalk.i64_in _ (by omega)
          clear hf1 hx hql
          go_upto_region 15 with (fail)
          clear c0 c1 c2 c3
          refine wp_name ?_
          intro w11 hw11
          obtain ⟨n15, hn15⟩ : ∃ n, n = wr.heap.size := ⟨_, rfl⟩
          have x15 : w11.heap[n15]? = some (Obj.cells #[.int .i64 x.frame, .int .i64 x.kind, .int .i64 x.lo, .int .i64 x.hi] 49) := by rw [hw11, hn15]; exact blk_new _ _
          have hE11 : Ext2 wr w11 := by rw [hw11]; exact below_alloc' _ _
          have l1315 : n13 < n15 := by rw [hn15]; exact blk_lt X13.out
          have X15 := Lib.hid x15
          have HE11 := Lib.hid hE11
          have HBW := Lib.hid (between_any (x := x) (a := A) (b := M) (ba := n10) (bb := n9) (w := w11) (hE11.blk (HE.out.blk X109.out)) (hE11.blk (HE.out.blk X99.out)))
          rw [← hn15]
          rw [← HPD.out] at HBW
          clear hw11 hn15 hE11
          have q15c := cell_blk x15
          have q15f := frz_blk x15
          clear x15
          go_wp2_with (fail)
          refine HBW.out.mono ?_
          rintro e w12 ⟨rfl, hE12⟩
          have hE12' := ext_trans HE11.out hE12
          have x15 := Ext2.blk hE12 X15.out; have x13 := Ext2.blk hE12' X13.out
          have HE12 := Lib.hid (ext_trans HE.out hE12')
          have HO12 := Lib.hid (HO.out.below hE12')
          have hz12 := blk_lt x13
          have X132 := Lib.hid x13
          clear q15c q15f hE12 hE12' HE11 HBW X15
          have q15c := cell_blk x15
          have q15f := frz_blk x15
          have q13c := cell_blk x13
          have q13f := frz_blk x13
          clear x15 x13
          cases hv : p x with
          | false =>
            have HF : Hid ((gs.take (q + 1)).filter p = (gs.take q).filter p) := Lib.hid (by rw [HF1.out, hv]; simp)
            clear hv
            go_wp2_with (fail)
            go_roundw
            case rel => exact ⟨q + 1, ga, gl, gc, by go_num, by omega, by rw [HF.out]; exact HGL.out, HE12.out, X132.out, hz12, by rw [HF.out]; exact HO12.out⟩
            case measure => simp [intOf]; omega
          | true =>
            have HF : Hid ((gs.take (q + 1)).filter p = (gs.take q).filter p ++ [x]) := Lib.hid (by rw [HF1.out, hv]; simp)
            have hn9 : gl ≤ 1000000000 := by omega
            clear hv
            go_wp2_with (at_builtin; refine app_one_at [.int .i64 x.frame, .int .i64 x.kind, .int .i64 x.lo, .int .i64 x.hi] elGap rfl _ _ rfl (n13 + 1) rfl (HO12.out.below (below_alloc' _ _)) w12.heap.size 1 rfl (blk_new _ _) (by simp [Value.oneCell']) hn9 (by simp; omega) ?_; intro v' w14 hO14 hg14 hpl; (obtain ⟨g7, cp7, hv7, hge7, -, -, -, -⟩ := own_some hO14 (by omega)); subst hv7; (have x134 := app_blk HO12.out hg14 X132.out (by decide)); (have q134c := cell_blk x134); (have q134f := frz_blk x134); (have HO14 := Lib.hid hO14); (have HG14 := Lib.hid hg14); (have X134 := Lib.hid x134); clear hO14 hg14 hpl x134 q13c q13f)
            go_roundw
            case rel =>
              have hgo := own_ge HO12.out
              have hs13 := HS13.out
              refine ⟨q + 1, some ⟨g7, 0, none⟩, gl + 1, cp7, by go_num, by omega, ?_, below_set (ext_grown (ext_trans HE12.out (below_alloc' _ _)) HG14.out (fun r hr => by have := hgo r hr; omega)) (by omega), Eq.trans (blk_set X134.out 0 _) rfl, ?_, ?_⟩
              · rw [HF.out, List.length_append, List.length_singleton, ← HGL.out]
              · rw [World.size_setCell]; exact blk_lt X134.out
              · rw [HF.out]
                refine OwnR.congr (HO14.out.above (Above.set (Above.refl _ _) (.inl (by omega)))) fun i j hi hj => ?_
                rw [HGL.out]
                exact gpC_snoc (by rw [← HGL.out]; exact hi) hj
            case measure => simp [intOf]; omega
        · obtain rfl : n = q := by omega
          have hft2 : (gs.take n).filter p = gs.filter p := by rw [List.take_of_length_le (by rw [HN.out]; exact Nat.le_refl _)]
          rw [hft2] at HGL HO
          clear hft2 hlq
          obtain ⟨GB, hGB⟩ : ∃ G, G = gs.filter p := ⟨_, rfl⟩
          rw [← hGB] at HGL HO
          have HGB := Lib.hid hGB
          have hsm := some_any (g := ⟨GB, ⟨mi, mi⟩⟩) (s := ⟨ga, gc⟩) (fn := 67) (lb := #[.pointer (some ⟨n10, 0, none⟩), .pointer (some ⟨n9, 0, none⟩)]) (p := p) (w := wr) (by
            have h := HO.out
            rw [HGL.out] at h
            exact own_row h) (fun x hx => HGI.out x (by rw [hGB] at hx; exact (List.mem_filter.1 hx).1)) (by show GB.length ≤ 200001; rw [← HGL.out]; omega) (by unfold GrpIs; dsimp only; omega) (enters_of Tryz.func67 (by kernel_rfl) rfl) (fun i W _ hW => by
            rw [HPD.out]
            exact between_any (hW.blk (HE.out.blk X109.out)) (hW.blk (HE.out.blk X99.out)))
          have hbe := some_betw gs p mi
          rw [← hGB] at hbe
          unfold someV at hbe
          dsimp only at hsm hbe
          rw [hbe, ← HGL.out] at hsm
          obtain ⟨bv, hbv⟩ : ∃ b, b = inB mi (endsS GB).lo (endsS GB).hi := ⟨_, rfl⟩
          obtain ⟨R, hR⟩ : ∃ R, R = partG ⟨GB, ⟨mi, mi⟩⟩ p := ⟨_, rfl⟩
          rw [← hbv, ← hR] at hsm
          have HSM := Lib.hid hsm; have HBV := Lib.hid hbv
          have x13 := X13.out
          have HI13 := Lib.hid (HI9.out.ext HE.out)
          have X913 := Lib.hid (HE.out.blk X99.out); have X1013 := Lib.hid (HE.out.blk X109.out)
          clear hGB hbe hsm hbv hR HE
          have q13c := cell_blk x13
          have q13f := frz_blk x13
          clear x13
          go_wp2_with (fail)
          refine HSM.out.mono ?_
          rintro e w14 ⟨rfl, hE14⟩
          have x13 := Ext2.blk hE14 X13.out
          have HE14 := Lib.hid hE14
          clear q13c q13f hE14 HSM
          go_upto_region 19 with (fail)
          refine wp_name ?_
          intro w15 hw15
          have hE15 : Ext2 wr w15 := by rw [hw15]; exact ext_trans HE14.out (below_alloc' _ _)
          have HE15 := Lib.hid hE15
          have x13 := Ext2.blk hE15 X13.out
          have HI15 := Lib.hid (HI13.out.ext hE15)
          have HO15 := Lib.hid (HO.out.below hE15)
          have X915 := Lib.hid (hE15.blk X913.out); have X1015 := Lib.hid (hE15.blk X1013.out)
          have hsz15 := HI15.out.sz
          clear hw15 hE15 HE14 HI13 HO X913 X1013
          have hncnd : Hid (¬ (k = 0 ∨ (mkD T.reel.marks (k - 1)).roll ≠ (mkD T.reel.marks k).roll ∨ about N 3 (mkD T.reel.marks (k - 1)).frame = true ∨ about N 3 (mkD T.reel.marks k).frame = true)) := Lib.hid (by
            rw [HJK.out, ← HA.out, ← HM.out, ← HVA.out, ← HVM.out]
            rintro (h | h | h | h)
            · omega
            · exact h HRO.out
            · cases h
            · cases h)
          cases bv with
          | false =>
            have HF : Hid (grpsK ft F N gs T.reel.marks (k + 1) = { st with wrong := st.wrong ++ [(k : Int)] }) := Lib.hid (by
              rw [HSS.out]; unfold grpS
              rw [if_neg hncnd.out, HJK.out, ← HA.out, ← HM.out, ← HMI.out, ← HPD.out, ← HGB.out, if_pos HBV.out.symm])
            have hwo := HI15.out.wrong
            rw [← HWL.out] at hwo
            have HWO := Lib.hid hwo
            have hn9 : wl ≤ 1000000000 := by omega
            clear hwo
            go_wp2_with (at_builtin; refine app_one_at [.int .i64 (k : Int)] elInt rfl _ _ rfl b0 rfl (HWO.out.below (below_alloc' _ _)) w15.heap.size 1 rfl (blk_new _ _) (by simp [Value.oneCell']) hn9 (by simp; omega) ?_; intro v' w16 hO16 hg16 hpl; (obtain ⟨g7, cp7, hv7, hge7, -, -, -, -⟩ := own_some hO16 (by omega)); subst hv7; (have HO16 := Lib.hid hO16); (have HG16 := Lib.hid hg16); clear hO16 hg16 hpl)
            go_roundw
            case rel =>
              refine ⟨k + 1, hs, ll, al, wl + 1, aa, some ⟨g7, 0, none⟩, ac, cp7, rc, rl, by go_num, by omega, rfl, by rw [HF.out]; exact HLL.out, rfl, rfl, rfl, by rw [HF.out]; exact HAL.out, by rw [HF.out]; simp only [List.length_append, List.length_singleton]; rw [← HWL.out], by rw [HF.out]; exact HRL.out, ?_⟩
              rw [HF.out]
              exact (HI15.out.ext (below_alloc' _ _)).appW HG16.out HWL.out HO16.out
            case measure => simp [intOf]; omega
          | true =>
            have HF : Hid (grpsK ft F N gs T.reel.marks (k + 1) = ⟨st.all ++ [⟨GB, ⟨mi, mi⟩⟩], st.wrong, st.left + mi, st.rest.filter fun x => !p x⟩) := Lib.hid (by
              rw [HSS.out]; unfold grpS
              rw [if_neg hncnd.out, HJK.out, ← HA.out, ← HM.out, ← HMI.out, ← HPD.out, ← HGB.out, if_neg (by rw [← HBV.out]; simp)])
            have hao := HI15.out.all
            rw [← HAL.out] at hao
            have HAO := Lib.hid hao
            have hn9 : al ≤ 1000000000 := by omega
            have z1 : IntKind.i64.wrap (ll + mi) = ll + mi := IntWalk.i64_in _ (by omega)
            have z2 : wrap64 (ll + mi) = ll + mi := IntWalk.wrap64_in _ (by omega)
            clear hao
            have q13c := cell_blk x13
            have q13f := frz_blk x13
            clear x13
            go_wp2_with (at_builtin; refine app_one_at [.slice ga gl gc, .int .i64 mi, .int .i64 mi] elGrp rfl _ _ rfl b0 rfl (HAO.out.below (below_alloc' _ _)) w15.heap.size 1 rfl (blk_new _ _) (by simp [Value.oneCell']) hn9 (by simp; omega) ?_; intro v' w16 hO16 hg16 hpl; (obtain ⟨g7, cp7, hv7, hge7, -, -, -, -⟩ := own_some hO16 (by omega)); subst hv7; (have HO16 := Lib.hid hO16); (have HG16 := Lib.hid hg16); clear hO16 hg16 hpl q13c q13f)
            have X916 := Lib.hid (app_blk HAO.out HG16.out X915.out (by decide)); have X1016 := Lib.hid (app_blk HAO.out HG16.out X1015.out (by decide))
            have HI16 := Lib.hid ((HI15.out.ext (below_alloc' _ _)).appA (gr := ⟨GB, ⟨mi, mi⟩⟩) (s := ⟨ga, gc⟩) HG16.out HAL.out HGL.out HO16.out ((HO15.out.base (by omega)).below (below_alloc' _ _)) (fun hc => by have := own_ge HO15.out g0 hc; omega))
            have hdl := delG_any (fn := 67) (g0 := g0) (cap := rc) (base := b0) (lb := #[.pointer (some ⟨n10, 0, none⟩), .pointer (some ⟨n9, 0, none⟩)]) (p := p) (l := st.rest) (w := w16) (by rw [← HRL.out]; omega) (by have h := HI16.out.rest; dsimp only at h; rw [HRL.out] at h; exact h) (enters_of Tryz.func67 (by kernel_rfl) rfl) (fun i W _ hW => by
              rw [HPD.out]
              exact between_any ((hW.block n10 (blk_lt X1016.out) (by omega)).trans X1016.out) ((hW.block n9 (blk_lt X916.out) (by omega)).trans X916.out))
            obtain ⟨rl2, hrl2⟩ : ∃ m, m = (st.rest.filter fun x => !p x).length := ⟨_, rfl⟩
            rw [← HRL.out, ← hrl2] at hdl
            have HRL2 := Lib.hid hrl2; have HDL := Lib.hid hdl
            clear hrl2 hdl
            refine HDL.out.mono ?_
            rintro e w17 ⟨rfl, hO17, hB17⟩
            have HO17 := Lib.hid hO17; have HB17 := Lib.hid hB17
            clear hO17 hB17 HDL
            go_wp2_with (fail)
            go_roundw
            case rel =>
              refine ⟨k + 1, updS hs st.all.length ⟨ga, gc⟩, ll + mi, al + 1, wl, some ⟨g7, 0, none⟩, wa, cp7, wc, rc, rl2, by go_num, by omega, rfl, by rw [HF.out, HLL.out], rfl, rfl, rfl, by rw [HF.out]; simp only [List.length_append, List.length_singleton]; rw [← HAL.out], by rw [HF.out]; exact HWL.out, by rw [HF.out]; exact HRL2.out, ?_⟩
              rw [HF.out, HRL2.out]
              have h17 := HO17.out
              rw [HRL2.out] at h17
              exact HI16.out.del HB17.out h17
            case measure => simp [intOf]; omega
    · obtain rfl : nm = k := by omega
      have hwh := HT.out.ok.task.whole
      have hVe : V = (st.all ++ [⟨st.rest, ⟨T.whole.lo - ll, T.whole.hi - ll⟩⟩], st.wrong) := by rw [HV.out, grpsV_eq, ← HNM.out, ← HST.out, HLL.out]
      have HVE := Lib.hid hVe
      have hik := HINVK.out
      rw [← HST.out] at hik
      have HIK := Lib.hid hik
      clear hik
      have hao := HI.out.all
      rw [← HAL.out] at hao
      have HAO := Lib.hid hao
      have hn9 : al ≤ 1000000000 := by omega
      have z1 : IntKind.i64.wrap (T.whole.lo - ll) = T.whole.lo - ll := IntWalk.i64_in _ (by omega)
      have z2 : IntKind.i64.wrap (T.whole.hi - ll) = T.whole.hi - ll := IntWalk.i64_in _ (by omega)
      have HWB := Lib.hid (show (-200000000 ≤ T.whole.lo - ll ∧ T.whole.lo - ll ≤ 200000000) ∧ (-200000000 ≤ T.whole.hi - ll ∧ T.whole.hi - ll ≤ 200000000) by omega)
      have hsz := HI.out.sz
      clear hVe hao hwh
      go_wp2_with (fail)
      refine region_ev [22] [0, 1, 2, 3, 4, 5, 6, 7, 8, 9, 10, 11, 12, 13, 14, 15, 16, 17, 18, 19] [(20, 165, none)] [21, 23, 24] (by kernel_rfl) (by kernel_rfl) (by intro c a d v w h; cases d <;> exact h) ?_
      simp only [picks, List.drop_succ_cons, List.drop_zero]
      repeat (refine wpQ0_step (fun K hK => ?_); go_simp; (refine hK _ ?_; clear hK K))
      refine wpQ0_nil ?_
      repeat ((with_reducible refine wpQ2_step (fun K hK => ?_)); go_simp; first | ((with_reducible refine hK _ ?_); clear hK K) | (apply Exists.intro; refine ⟨fun x => ?_, hK _ ?_⟩; (fail); clear hK K))
      refine wpQ2_nil ?_
      refine Events.lay1 (fun b => .slice (some ⟨b, 0, none⟩) 1 1) (Obj.cells #[.slice (some ⟨g0, 0, none⟩) rl rc, .int .i64 (T.whole.lo - ll), .int .i64 (T.whole.hi - ll)] 91 (0, 0)) ⟨_, rfl, rfl, rfl, fun W => by kernel_rfl⟩ fun bq wx hbq hgx nbq => ?_
      simp only [picks, List.drop_succ_cons, List.drop_zero]
      have HIX := Lib.hid (HI.out.ext hgx)
      have HAX := Lib.hid (HAO.out.below hgx)
      have hsx : b0 ≤ wx.heap.size := HIX.out.sz
      clear q0c q0f x0 hgx HI HAO z1 z2
      go_wp2_with (at_builtin; refine app_one_at [.slice (some ⟨g0, 0, none⟩) rl rc, .int .i64 (T.whole.lo - ll), .int .i64 (T.whole.hi - ll)] elGrp rfl _ _ rfl b0 rfl HAX.out bq 1 rfl nbq (by simp [Value.oneCell']) hn9 hsx ?_; intro v' w16 hO16 hg16 hpl; (obtain ⟨g7, cp7, hv7, hge7, -, -, -, -⟩ := own_some hO16 (by omega)); subst hv7; (have HO16 := Lib.hid hO16); (have HG16 := Lib.hid hg16); clear hO16 hg16 hpl)
      go_ret2
      obtain ⟨r1, r2, r3⟩ := HIX.out.last (gr := ⟨st.rest, ⟨T.whole.lo - ll, T.whole.hi - ll⟩⟩) (s1 := ⟨some ⟨g7, 0, none⟩, cp7⟩) (s2 := ⟨wa, wc⟩) (sr := ⟨some ⟨g0, 0, none⟩, rc⟩) HG16.out HAL.out HRL.out rfl rfl (by rw [HWL.out]) HO16.out (grps_ok (sp := ⟨T.whole.lo - ll, T.whole.hi - ll⟩) HIK.out HGI.out (by rw [← HN.out]; exact hgl) HWB.out.1 HWB.out.2)
      refine ⟨⟨⟨some ⟨g7, 0, none⟩, cp7⟩, ⟨wa, wc⟩, _, ?_, by rw [HVE.out]; exact r1, by rw [HVE.out]; exact r2⟩, r3⟩
      rw [HVE.out, HAL.out, HWL.out]
      simp only [List.length_append, List.length_singleton]
      rfl
end Go.Proofs.YtapeakbngligaaaGreatDoor
