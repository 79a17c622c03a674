/-
  move: keeps a move, or returns why it is refused.
-/
import Derived.Test.YtfpaihjcbpaneaaGreatDoorVHoursA
import Derived.Test.YtfpaihjcbpaneaaGreatDoorVMvA
import Derived.Test.YtfpaihjcbpaneaaGreatDoorVAirA
import Derived.StillTailTactics
namespace Go.Proofs.YtfpaihjcbpaneaaGreatDoor
open Go.RowKit D
set_option linter.unusedVariables false
set_option linter.unusedSimpArgs false
attribute [local go_sem high] run_minI run_maxI
attribute [local go_sem] upon2 cls_cell cls_frozen forall_const exists_eq_left'
attribute [local go_sem] FirstUpon at2_cell at2_cell'
/-- A vault of the program's own: the site as it was, the moves that are kept grown by append. -/
structure VOwn (w0 : World) (S : Site) (s : SSl) (b : Nat) (M : List Mv) (k : Sl) (w : World) : Prop where
  bel : Below w0.heap.size w0 w
  site : SiteAt w0 S s
  lb : w0.heap.size ≤ b
  blk : w.heap[b]? = some (Obj.cells #[.slice s.r.a S.rooms.length s.r.cap, .slice s.c.a S.cans.length s.c.cap, .int .i64 S.rlo, .int .i64 S.rhi, .slice s.p.a S.steps.length s.p.cap, (.slice k.a M.length k.cap)] 76)
  own : OwnR w w0.heap.size 95 3 (.slice k.a M.length k.cap) M.length (mvC M)
theorem VOwn.at_ {w0 : World} {S : Site} {s : SSl} {b : Nat} {M : List Mv} {k : Sl} {w : World} (h : VOwn w0 S s b M k w) : VltAt w S s b M k := by
  obtain ⟨k', hk, hr⟩ := h.own.sl
  obtain ⟨a', c'⟩ := k'
  obtain ⟨ka, kc⟩ := k
  cases hk
  exact ⟨h.blk, h.site.below h.bel, hr⟩
theorem VOwn.below {w0 : World} {S : Site} {s : SSl} {b : Nat} {M : List Mv} {k : Sl} {w w' : World} (h : VOwn w0 S s b M k w) (hb : Below w.heap.size w w') : VOwn w0 S s b M k w' :=
  ⟨below_ext h.bel hb, h.site, h.lb, below_blk hb h.blk (blk_lt h.blk), h.own.below hb⟩
/-- What is known of moves that are kept, for those that follow. -/
structure MvsIn (S : Site) (M : List Mv) : Prop where
  each : ∀ m ∈ M, mvE S m = 0
  sort : SortH M
def MoveOut (w0 wc : World) (S : Site) (s : SSl) (b : Nat) (M : List Mv) (m : Mv) (e : Ending) (w' : World) : Prop :=
  e = .returned (.int .i64 (whyV S M m)) ∧ Sd w0.heap.size [76, 95] wc w' ∧ ∃ k', VOwn w0 S s b (if whyV S M m = 0 then M ++ [m] else M) k' w'
theorem OwnR.sd {B : Nat} {ts : List TypeId} {w w' : World} (hb : Sd B ts w w') {base : Nat} {e : TypeId} {sz : Nat} {v : Value} {n : Nat} {c : Nat → Nat → Value} (h : OwnR w base e sz v n c) (he : e ∉ ts) : OwnR w' base e sz v n c := by
  obtain ⟨h1, h2 | ⟨g, cap, cur, e1, e2, e3, e4⟩⟩ := h
  · exact ⟨h1, .inl h2⟩
  · exact ⟨h1, .inr ⟨g, cap, cur, e1, e2, hb.keep _ _ _ _ e3 he, e4⟩⟩
theorem VOwn.sd {w0 : World} {S : Site} {s : SSl} {b : Nat} {M : List Mv} {k : Sl} {w w' : World} {ts : List TypeId} (h : VOwn w0 S s b M k w) (hs : Sd w0.heap.size ts w w') (h1 : 76 ∉ ts) (h2 : 95 ∉ ts) : VOwn w0 S s b M k w' :=
  ⟨h.bel.trans hs.bel, h.site, h.lb, hs.keep _ _ _ _ h.blk h1, OwnR.sd hs h.own h2⟩
theorem moveNo {w0 wc w : World} {S : Site} {s : SSl} {b n : Nat} {M : List Mv} {k : Sl} {m : Mv} {e : Int} (hV : VOwn w0 S s b M k w) (hE : Ext2 wc w) (h0c : w0.heap.size ≤ wc.heap.size) (hn : wc.heap.size ≤ n) (x : w.heap[n]? = some (.cells #[.int .i64 0] 32 (0, 0))) (he : whyV S M m = e) (h0 : e ≠ 0) :
    MoveOut w0 wc S s b M m (.returned (.int .i64 e)) (w.setCell ⟨n, 0, none⟩ (.int .i64 e)) :=
  ⟨by rw [he], Sd.ext (below_set hE hn) h0c, k, by rw [if_neg (by omega)]; exact hV.sd (Sd.set x (List.mem_singleton.2 rfl) (Nat.le_trans h0c hn) _) (by decide) (by decide)⟩
theorem elMv : Elem Tryz.prog 29 95 (.agg #[.int .i64 0, .int .i64 0, .int .i64 0]) 3 24 := ⟨by kernel_rfl, by kernel_rfl, rfl, by omega, by omega⟩
theorem pan_leave {K : Act → World → Prop} {n : Nat} {v : Value} {Q : Exit → Act → World → Prop} {c : List PanicEntry} {a : Act} {w : World} (h : ∀ t : Array Value, t.getD n undef = v → Q (.panic c) { tmps := t, defers := a.defers } w) : Exit.then K (Pan n v Q) (.panic c) a w := fun a' h1 h2 => by
  obtain ⟨t, d⟩ := a'
  dsimp only at h1 h2
  subst h2
  exact h t h1
/-- move is left by a panic. -/
theorem move_panic {R : Ending → World → Prop} {n4 : Nat} {e c : Int} {t : Array Value} {w : World} (x4 : w.heap[n4]? = some (.cells #[.int .i64 c] 32 (0, 0))) (ht : t.getD 4 undef = .pointer (some ⟨n4, 0, none⟩)) (hR : R (.returned (.int .i64 e)) (w.setCell ⟨n4, 0, none⟩ (.int .i64 e))) :
    bodyPostD Tryz.prog Tryz.f67 R (.panic [{ v := .iface 32 (.int .i64 e), recovered := false }]) { tmps := t, defers := [{ target := Target.fn (Fn.func 91) #[.pointer (some ⟨n4, 0, none⟩)], args := #[] }] } w := by
  refine leave_panic x4 ?_
  have y4 := Eq.trans (blk_set x4 0 (.int .i64 e)) rfl
  have yc := cell_blk y4
  have ht' : t[4]?.getD undef = .pointer (some ⟨n4, 0, none⟩) := by rw [← ht, Array.getD_eq_getD_getElem?]
  refine ⟨.int .i64 e, ?_, hR⟩
  simp [results, Tryz.results67, go_sem, yc, ht, ht']
theorem mvs_own {w0 w : World} {S : Site} {s : SSl} {b : Nat} {M : List Mv} {k : Sl} (h : VOwn w0 S s b M k w) {i : Nat} (hi : i < M.length) : ∃ g off, k.a = some ⟨g, off, none⟩ ∧ w.cell? ⟨g, off + i * 3, none⟩ = some (.int .i64 (mvD M i).hour) := by
  obtain ⟨g, off, ha, h0, -⟩ := mv_cells h.at_.kept hi
  exact ⟨g, off, ha, h0⟩
theorem app_blk0 {w w' : World} {base : Nat} {e : TypeId} {sz : Nat} {v : Value} {n : Nat} {c : Nat → Nat → Value} (hO : OwnR w base e sz v n c) (hg : w.grownBy w' v.ownBlock) {b : Nat} {cs : Array Value} {t : TypeId} {f : Nat × Nat} (hb : w.heap[b]? = some (.cells cs t f)) (ht : t ≠ e) : w'.heap[b]? = some (.cells cs t f) := by
  rw [hg.block b (blk_lt hb) ?_]
  · exact hb
  · intro he
    rcases hO.forms with ⟨rfl, -⟩ | ⟨g, cap, rfl, -, -, -, -, -, cur, hcur⟩
    · cases he
    · obtain rfl : b = g := by simpa [Value.ownBlock] using he
      rw [hb] at hcur
      simp only [Option.some.injEq, Obj.cells.injEq] at hcur
      exact ht hcur.2.1
theorem below_app0 {B : Nat} {w wr w1 : World} {e : TypeId} {sz : Nat} {v : Value} {n : Nat} {c : Nat → Nat → Value} (hB : Below B w wr) (hO : OwnR wr B e sz v n c) (hle : B ≤ wr.heap.size) (hg : wr.grownBy w1 v.ownBlock) : Below B w w1 := by
  refine ⟨hg.os.trans hB.os, hg.tape.trans hB.tape, hg.output.trans hB.output, Nat.le_trans hB.size hg.size, fun k hk => ?_⟩
  rw [hg.block k (by omega) ?_, hB.block k hk]
  intro he
  have := own_block hO k he.symm
  omega
theorem mvC_snoc {l : List Mv} {x : Mv} {i j : Nat} (hi : i < l.length + 1) (hj : j < 3) : upd (mvC l) l.length [.int .i64 x.hour, .int .i64 x.can, .int .i64 x.to_] i j = mvC (l ++ [x]) i j := by
  by_cases h : i = l.length
  · subst h
    rw [upd_at]
    have e : mvD (l ++ [x]) l.length = x := by simp [mvD]
    rcases (by omega : j = 0 ∨ j = 1 ∨ j = 2) with rfl | rfl | rfl <;> simp [mvC, e]
  · rw [upd_lt (by omega)]
    have e : mvD (l ++ [x]) i = mvD l i := by unfold mvD; rw [List.getD_eq_getElem?_getD, List.getD_eq_getElem?_getD, List.getElem?_append_left (by omega)]
    rcases (by omega : j = 0 ∨ j = 1 ∨ j = 2) with rfl | rfl | rfl <;> simp [mvC, e]
theorem turn_room {b : Nat} {W : World} {r : Rm} (hb : W.heap[b]? = some (Obj.cells #[.string ByteArray.empty, .int .i64 0, .int .i64 0, .int .i64 0, .int .i64 0, .bool false, .bool false, .int .i64 0, .int .i64 0, .int .i64 0] 74)) : Turn b (Obj.cells #[.string r.name, .int .i64 r.tlo, .int .i64 r.thi, .int .i64 r.dlo, .int .i64 r.dhi, .bool r.people, .bool r.allows, .int .i64 r.most, .int .i64 r.x, .int .i64 r.y] 74) W ((((((((((W.setCell ⟨b, 0, none⟩ (.string r.name)).setCell ⟨b, 1, none⟩ (.int .i64 r.tlo)).setCell ⟨b, 2, none⟩ (.int .i64 r.thi)).setCell ⟨b, 3, none⟩ (.int .i64 r.dlo)).setCell ⟨b, 4, none⟩ (.int .i64 r.dhi)).setCell ⟨b, 5, none⟩ (.bool r.people)).setCell ⟨b, 6, none⟩ (.bool r.allows)).setCell ⟨b, 7, none⟩ (.int .i64 r.most)).setCell ⟨b, 8, none⟩ (.int .i64 r.x)).setCell ⟨b, 9, none⟩ (.int .i64 r.y)) := by
  have h0 := turn_set (o := 0) hb (.string r.name)
  have h1 := h0.set (o := 1) (.int .i64 r.tlo)
  have h2 := h1.set (o := 2) (.int .i64 r.thi)
  have h3 := h2.set (o := 3) (.int .i64 r.dlo)
  have h4 := h3.set (o := 4) (.int .i64 r.dhi)
  have h5 := h4.set (o := 5) (.bool r.people)
  have h6 := h5.set (o := 6) (.bool r.allows)
  have h7 := h6.set (o := 7) (.int .i64 r.most)
  have h8 := h7.set (o := 8) (.int .i64 r.x)
  have h9 := h8.set (o := 9) (.int .i64 r.y)
  simp only [List.setIfInBounds_toArray, List.set_cons_succ, List.set_cons_zero] at h9
  exact h9
theorem At2.ne {b b' : Nat} {c c' : Array Value} {t t' : TypeId} {w : World} (h : w.heap[b]? = some (.cells c t (0, 0))) (h' : w.heap[b']? = some (.cells c' t' (0, 0))) : Nonempty (Cls (At2 b c t b' c' t')) := ⟨⟨w, h, h'⟩⟩
/-- The cans' rooms behind a move, in memory. -/
theorem moveW_ints {w : World} {base g cap : Nat} {S : Site} {M : List Mv} {m : Mv} (hO : OwnR w base 3 1 (.slice (some ⟨g, 0, none⟩) S.cans.length cap) S.cans.length (intC (moveW S M m))) : IntsS w ⟨some ⟨g, 0, none⟩, cap⟩ (moveW S M m) ∧ (moveW S M m).length = S.cans.length := by
  have hl : (moveW S M m).length = S.cans.length := by unfold moveW; rw [List.length_set, whereV_len]
  refine ⟨?_, hl⟩
  show RowS w _ 1 _ _
  rw [hl]
  obtain ⟨⟨a, c⟩, h1, h2⟩ := hO.sl
  cases h1
  exact h2
theorem moveW_in {S : Site} {M : List Mv} {m : Mv} (hC : Chk S) (hK : ∀ m ∈ M, mvE S m = 0) (hm : mvE S m = 0) : ∀ i, i < S.cans.length → 0 ≤ intD (moveW S M m) i ∧ intD (moveW S M m) i < S.rooms.length := fun i hi => by
  obtain ⟨-, hc, ht⟩ := mvE_iff.1 hm
  unfold moveW
  rw [intD_set (by rw [whereV_len]; omega)]
  split
  · exact ht
  · rw [whereV_at hi]; exact hC.atIn hK hi _
theorem done_true (e : Int) : doneE true e = .returned (.tuple #[]) := rfl
theorem done_false (e : Int) : doneE false e = .panicked [{ v := .iface 32 (.int .i64 e), recovered := false }] := rfl
theorem pan_leave0 {n : Nat} {v : Value} {Q : Exit → Act → World → Prop} {c : List PanicEntry} {a : Act} {w : World} (h : ∀ t : Array Value, t.getD n undef = v → Q (.panic c) { tmps := t, defers := a.defers } w) : Pan n v Q (.panic c) a w := pan_leave (K := fun _ _ => True) h
theorem why_eq {S : Site} {M : List Mv} {m : Mv} {h c t : Nat} {B : Int} {R : Rm} (m0 : m.hour = (h : Int)) (m1 : m.can = (c : Int)) (m2 : m.to_ = (t : Int)) (hno : ¬ (0 < M.length ∧ m.hour < (mvD M (M.length - 1)).hour)) (hat : ¬ atV S M c (h : Int) = (t : Int)) (hB : B = (cnD S.cans c).base) (hR : R = rmD S.rooms t) :
    whyV S M m = if B = 1 ∧ R.allows = false then 132 else if B = 1 ∧ R.most < amt S (moveW S M m) t then 133 else if nears S (moveW S M m) ≠ [] then 134 else if mayS (ownT S M c h) R then 135 else 0 := by
  subst hB hR
  unfold whyV
  rw [if_neg hno, m0, m1, m2]
  simp only [Int.toNat_natCast]
  rw [if_neg hat]
/-- move keeps a move. -/
theorem move_end {w0 wc wy : World} {S : Site} {s : SSl} {b n4 : Nat} {M : List Mv} {k : Sl} {m : Mv} {t : Array Value} {a1 : Option Addr} {c1 : Nat} (hs : SiteAt w0 S s) (hl : w0.heap.size ≤ b) (hn : b < n4) (hcn : wc.heap.size ≤ n4) (x0 : wy.heap[b]? = some (Obj.cells #[.slice s.r.a S.rooms.length s.r.cap, .slice s.c.a S.cans.length s.c.cap, .int .i64 S.rlo, .int .i64 S.rhi, .slice s.p.a S.steps.length s.p.cap, (.slice k.a M.length k.cap)] 76))
    (x4 : wy.heap[n4]? = some (.cells #[.int .i64 0] 32 (0, 0))) (hB : Below w0.heap.size w0 wy) (hC : Sd w0.heap.size [76, 95] wc wy) (hO : OwnR wy w0.heap.size 95 3 (.slice a1 (M.length + 1) c1) (M.length + 1) (upd (mvC M) M.length [.int .i64 m.hour, .int .i64 m.can, .int .i64 m.to_])) (hw : whyV S M m = 0) (ht : t.getD 4 undef = .pointer (some ⟨n4, 0, none⟩)) :
    bodyPostD Tryz.prog Tryz.f67 (MoveOut w0 wc S s b M m) .ret { tmps := t, defers := [{ target := Target.fn (Fn.func 91) #[.pointer (some ⟨n4, 0, none⟩)], args := #[] }] } ((wy.setCell ⟨b, 5, none⟩ (.slice a1 (M.length + 1) c1)).setCell ⟨n4, 0, none⟩ (.int .i64 0)) := by
  have y0 := blk_set_ne (b' := n4) (o := 0) (v := .int .i64 0) (Eq.trans (blk_set x0 5 (.slice a1 (M.length + 1) c1)) rfl) (by omega)
  have y4 := Eq.trans (blk_set (blk_set_ne (b' := b) (o := 5) (v := .slice a1 (M.length + 1) c1) x4 (by omega)) 0 (.int .i64 0)) rfl
  have yc := cell_blk y4
  have ht' : t[4]?.getD undef = .pointer (some ⟨n4, 0, none⟩) := by rw [← ht, Array.getD_eq_getD_getElem?]
  have h1 : Sd w0.heap.size [76, 32] wy (wy.setCell ⟨b, 5, none⟩ (.slice a1 (M.length + 1) c1)) := Sd.set x0 (List.mem_cons_self ..) hl _
  have hsd : Sd w0.heap.size [76, 32] wy ((wy.setCell ⟨b, 5, none⟩ (.slice a1 (M.length + 1) c1)).setCell ⟨n4, 0, none⟩ (.int .i64 0)) :=
    h1.trans (Sd.set (blk_set_ne (b' := b) (o := 5) (v := .slice a1 (M.length + 1) c1) x4 (by omega)) (by simp) (by omega) _)
  refine leave_done ?_
  refine ⟨.int .i64 0, ?_, ?_⟩
  · simp [results, Tryz.results67, go_sem, yc, ht, ht']
  refine ⟨by rw [hw], ⟨hC.bel.trans hsd.bel, fun g c e f hg he => ?_⟩, ⟨a1, c1⟩, ?_⟩
  · have hgl := blk_lt hg
    refine blk_set_ne (blk_set_ne (hC.keep g c e f hg he) (fun h => ?_)) (by omega)
    subst h
    have := hC.keep _ c e f hg he
    rw [x0] at this
    simp only [Option.some.injEq, Obj.cells.injEq] at this
    exact he (by rw [← this.2.1]; exact List.mem_cons_self ..)
  rw [if_pos hw]
  refine ⟨hB.trans hsd.bel, hs, hl, by rw [List.length_append, List.length_singleton]; exact y0, ?_⟩
  rw [List.length_append, List.length_singleton]
  exact OwnR.sd hsd (hO.congr fun i j hi hj => mvC_snoc hi hj) (by decide)
set_option maxRecDepth 100000 in
set_option maxHeartbeats 8000000 in
theorem move_any {w0 w : World} {S : Site} {s : SSl} {b : Nat} {M : List Mv} {k : Sl} {m : Mv} (hV : VOwn w0 S s b M k w) (hC : Chk S) (hM : MvsIn S M) (hml : M.length < 60) (hm : mvE S m = 0) :
    Calls Tryz.prog 67 #[.pointer (some ⟨b, 0, none⟩), .agg #[.int .i64 m.hour, .int .i64 m.can, .int .i64 m.to_]] w (MoveOut w0 w S s b M m) := by
  obtain ⟨⟨hh0, hh1⟩, ⟨hc0, hc1⟩, ht0, ht1⟩ := mvE_iff.1 hm
  obtain ⟨mh, mc, mt⟩ := m
  dsimp only at hh0 hh1 hc0 hc1 ht0 ht1
  obtain ⟨h, rfl⟩ : ∃ n : Nat, mh = (n : Int) := ⟨mh.toNat, by omega⟩
  obtain ⟨c, rfl⟩ : ∃ n : Nat, mc = (n : Int) := ⟨mc.toNat, by omega⟩
  obtain ⟨t, rfl⟩ : ∃ n : Nat, mt = (n : Int) := ⟨mt.toNat, by omega⟩
  obtain ⟨m, hmm⟩ : ∃ m : Mv, m = ⟨(h : Int), (c : Int), (t : Int)⟩ := ⟨_, rfl⟩
  rw [← hmm] at hm ⊢
  have hcn : c < S.cans.length := by omega
  have htn : t < S.rooms.length := by omega
  have m0 : m.hour = (h : Int) := by rw [hmm]
  have m1 : m.can = (c : Int) := by rw [hmm]
  have m2 : m.to_ = (t : Int) := by rw [hmm]
  have HMM := Lib.hid hmm
  clear hmm hh0 hc0 ht0
  have HV := Lib.hid hV; have HC := Lib.hid hC; have HM := Lib.hid hM; have HMV := Lib.hid hm
  have x0 := hV.blk
  have HN30 := Lib.hid hC.len.2.1
  have HCIN := Lib.hid (show ∀ m ∈ M, 0 ≤ m.can ∧ m.can < S.cans.length from fun m' h' => (mvE_iff.1 (hM.each m' h')).2.1)
  clear hV hC hM hm
  obtain ⟨why, hwhy⟩ : ∃ x, x = whyV S M m := ⟨_, rfl⟩
  have HW := Lib.hid hwhy
  clear hwhy
  go_enter_defers Tryz.func67, Tryz.ntmps67
  have hE1 : Ext2 w ((w.alloc (.cells #[.int .i64 (h : Int), .int .i64 (c : Int), .int .i64 (t : Int)] 95 (0, 0))).alloc (.cells #[.int .i64 0] 32 (0, 0))) := ext_trans (below_alloc' _ _) (below_alloc' _ _)
  have x0' := Ext2.blk hE1 x0
  have x3 : ((w.alloc (.cells #[.int .i64 (h : Int), .int .i64 (c : Int), .int .i64 (t : Int)] 95 (0, 0))).alloc (.cells #[.int .i64 0] 32 (0, 0))).heap[w.heap.size]? = some (.cells #[.int .i64 (h : Int), .int .i64 (c : Int), .int .i64 (t : Int)] 95 (0, 0)) := blk_alloc (blk_new _ _) _
  have x4 : ((w.alloc (.cells #[.int .i64 (h : Int), .int .i64 (c : Int), .int .i64 (t : Int)] 95 (0, 0))).alloc (.cells #[.int .i64 0] 32 (0, 0))).heap[w.heap.size + 1]? = some (.cells #[.int .i64 0] 32 (0, 0)) := blk_new' _ _ (by simp)
  have q0c := cell_blk x0'
  have q0f := frz_blk x0'
  go_wp2_with (fail)
  refine wp_name ?_
  intro w1 hw1
  rw [← hw1] at x0' x3 x4 hE1
  obtain ⟨n3, hn3⟩ : ∃ n, n = w.heap.size := ⟨_, rfl⟩
  obtain ⟨n4, hn4⟩ : ∃ n, n = n3 + 1 := ⟨_, rfl⟩
  rw [← hn3] at x3 ⊢
  rw [← hn3, ← hn4] at x4
  rw [← hn4]
  have hsz : w1.heap.size = w.heap.size + 2 := by rw [hw1]; simp
  have l34 : n3 < n4 := by omega
  have l4 : n4 < w1.heap.size := by omega
  have lw3 : w.heap.size ≤ n3 := by omega
  have HV1 := Lib.hid (HV.out.below hE1)
  clear q0c q0f x0 hw1 hn3 hn4 hsz
  have hlast : why ≠ 130 ∨ why = 130 := by omega
  rcases Nat.eq_zero_or_pos M.length with hL | hL
  case' inl =>
    have hm1 : IntKind.i64.wrap ((M.length : Int) - 1) = (M.length : Int) - 1 := IntWalk.i64_in _ (by omega)
    have hd : decide ((M.length : Int) - 1 < 0) = true := decide_eq_true (by omega)
    have hi : (M.length : Int) - 1 < 0 := by omega
    have HNO : Hid (¬ (0 < M.length ∧ m.hour < (mvD M (M.length - 1)).hour)) := Lib.hid (by omega)
    have q3c := cell_blk x3
    have q3f := frz_blk x3
    refine wp_region_still_tail 15 (by kernel_rfl) (by kernel_rfl) ?_
    simp only [List.take_succ_cons, List.take_zero, List.drop_succ_cons, List.drop_zero]
    repeat ((with_reducible refine wpStill_step (fun K hK => ?_)); go_simp; ((with_reducible refine hK _ ?_); clear hK K))
    refine wpStill_nil ?_
    change wpList _ _ _ _ _ w1.drew
    obtain ⟨w2, hw2⟩ : ∃ v, v = w1.drew := ⟨_, rfl⟩
    have hE2 : Ext2 w1 w2 := by rw [hw2]; exact Ext2.drew w1
    rw [← hw2]
    have HV2 := Lib.hid (HV1.out.below hE2); have HW2 := Lib.hid (ext_trans hE1 hE2)
    have z3 := Ext2.blk hE2 x3; have z4 := Ext2.blk hE2 x4
    clear hw2 hE2 q3c q3f x0' x3 x4
    have q3c := cell_blk z3
    have q3f := frz_blk z3
    go_wp2_with (((with_reducible refine (must_ok _ _).mono ?_); rintro e w' ⟨rfl, rfl⟩))
    clear hm1 hd hi hL
  case' inr =>
    obtain ⟨j, hj⟩ : ∃ j, j = M.length - 1 := ⟨_, rfl⟩
    have hm1 : (M.length : Int) - 1 = (j : Int) := by omega
    rw [hm1]
    have hjl : j < M.length := by omega
    obtain ⟨g, off, hka, y0⟩ := mvs_own HV1.out hjl
    have x0 := HV1.out.blk
    rw [hka] at x0
    obtain ⟨hl, hhl⟩ : ∃ x, x = (mvD M j).hour := ⟨_, rfl⟩
    rw [← hhl] at y0
    have hd : decide ((j : Int) < 0) = false := decide_eq_false (by omega)
    have hi : ¬ (j : Int) < 0 := by omega
    have hi0 : (0 : Int) ≤ (j : Int) := by omega
    have hi1 : (j : Int) < (M.length : Int) := by omega
    have HJ := Lib.hid hj; have HHL := Lib.hid hhl; have HJL := Lib.hid hjl
    clear hj hhl x0' hjl hL
    have q0c := cell_blk x0
    have q0f := frz_blk x0
    have q3c := cell_blk x3
    have q3f := frz_blk x3
    clear x0
    rcases (show (h : Int) < hl ∨ hl ≤ (h : Int) by omega) with hlt | hge
    · have hge : ¬ hl ≤ (h : Int) := by omega
      have hgd : decide (hl ≤ (h : Int)) = false := decide_eq_false hge
      have hge' : ¬ (h : Int) ≥ hl := hge
      have hgd' : decide ((h : Int) ≥ hl) = false := decide_eq_false hge
      refine wp_region_still_tail 15 (by kernel_rfl) (by kernel_rfl) ?_
      simp only [List.take_succ_cons, List.take_zero, List.drop_succ_cons, List.drop_zero]
      repeat ((with_reducible refine wpStill_step (fun K hK => ?_)); go_simp; ((with_reducible refine hK _ ?_); clear hK K))
      refine wpStill_nil ?_
      change wpList _ _ _ _ _ w1.drew
      obtain ⟨w2, hw2⟩ : ∃ v, v = w1.drew := ⟨_, rfl⟩
      have hE2 : Ext2 w1 w2 := by rw [hw2]; exact Ext2.drew w1
      rw [← hw2]
      have HV2 := Lib.hid (HV1.out.below hE2); have HW2 := Lib.hid (ext_trans hE1 hE2)
      have x4 := Ext2.blk hE2 x4
      clear hw2 hE2 q3c q3f q0c q0f y0 x3
      go_wp2_with (((with_reducible refine (must_no _ _).mono ?_); rintro e w' ⟨rfl, rfl⟩))
      refine move_panic x4 rfl (moveNo HV2.out HW2.out HV.out.bel.size (by omega) x4 ?_ (by decide))
      have h1 := HJ.out; have h2 := HHL.out; have h3 := HJL.out
      rw [h1] at h2
      unfold whyV
      rw [if_pos ⟨by omega, by rw [m0, ← h2]; exact hlt⟩]
    have hgd : decide (hl ≤ (h : Int)) = true := decide_eq_true hge
    have hgd' : decide ((h : Int) ≥ hl) = true := decide_eq_true hge
    have HNO : Hid (¬ (0 < M.length ∧ m.hour < (mvD M (M.length - 1)).hour)) := Lib.hid (by rw [← HJ.out, ← HHL.out, m0]; omega)
    refine wp_region_still_tail 15 (by kernel_rfl) (by kernel_rfl) ?_
    simp only [List.take_succ_cons, List.take_zero, List.drop_succ_cons, List.drop_zero]
    repeat ((with_reducible refine wpStill_step (fun K hK => ?_)); go_simp; ((with_reducible refine hK _ ?_); clear hK K))
    refine wpStill_nil ?_
    change wpList _ _ _ _ _ w1.drew
    obtain ⟨w2, hw2⟩ : ∃ v, v = w1.drew := ⟨_, rfl⟩
    have hE2 : Ext2 w1 w2 := by rw [hw2]; exact Ext2.drew w1
    rw [← hw2]
    have HV2 := Lib.hid (HV1.out.below hE2); have HW2 := Lib.hid (ext_trans hE1 hE2)
    have z3 := Ext2.blk hE2 x3; have z4 := Ext2.blk hE2 x4
    clear hw2 hE2 q3c q3f q0c q0f y0 x3 x4
    have q3c := cell_blk z3
    have q3f := frz_blk z3
    go_wp2_with (((with_reducible refine (must_ok _ _).mono ?_); rintro e w' ⟨rfl, rfl⟩))
    clear hm1 hd hi hi0 hi1 hge hgd hgd' hka HJ HHL HJL
  all_goals
    have Z3 := Lib.hid z3; have Z4 := Lib.hid z4
    refine (where_any HV2.out.at_ HN30.out HCIN.out (by omega)).mono ?_
    rintro e w3 ⟨g, cap, rfl, hO, hE3⟩
    have HE3 := Lib.hid hE3; have HO3 := Lib.hid hO
    have c5 := (hO.cell1 hcn).1
    rw [intC, whereV_at hcn] at c5
    clear z3 z4 q3c q3f hO hE3
    have x3 := Ext2.blk HE3.out Z3.out
    have q3c := cell_blk x3
    have q3f := frz_blk x3
    go_wp2_with (fail)
    have p0 : (0 : Int) ≤ (c : Int) := by omega
    by_cases hat : atV S M c (h : Int) = (t : Int)
    · have hb : (atV S M c (h : Int) == (t : Int)) = true := by simp [hat]
      refine wp_region_still_tail 8 (by kernel_rfl) (by kernel_rfl) ?_
      simp only [List.take_succ_cons, List.take_zero, List.drop_succ_cons, List.drop_zero]
      repeat ((with_reducible refine wpStill_step (fun K hK => ?_)); go_simp; ((with_reducible refine hK _ ?_); clear hK K))
      refine wpStill_nil ?_
      change wpList _ _ _ _ _ w3.drew
      obtain ⟨w4, hw4⟩ : ∃ v, v = w3.drew := ⟨_, rfl⟩
      have hE4 : Ext2 w3 w4 := by rw [hw4]; exact Ext2.drew w3
      rw [← hw4]
      have HV4 := Lib.hid (HV2.out.below (ext_trans HE3.out hE4)); have HW4 := Lib.hid (ext_trans HW2.out (ext_trans HE3.out hE4))
      have x4 := Ext2.blk (ext_trans HE3.out hE4) Z4.out
      clear hw4 hE4 q3c q3f x3 c5
      go_wp2_with (((with_reducible refine (must_no _ _).mono ?_); rintro e w' ⟨rfl, rfl⟩))
      refine move_panic x4 rfl (moveNo HV4.out HW4.out HV.out.bel.size (by omega) x4 ?_ (by decide))
      unfold whyV
      rw [if_neg HNO.out, m0, m1, m2, if_pos (by simpa using hat)]
    have hb : (atV S M c (h : Int) == (t : Int)) = false := by simp [hat]
    have hb2 : (atV S M c (h : Int) != (t : Int)) = true := by simp [hat]
    have HAT := Lib.hid hat
    refine wp_region_still_tail 8 (by kernel_rfl) (by kernel_rfl) ?_
    simp only [List.take_succ_cons, List.take_zero, List.drop_succ_cons, List.drop_zero]
    repeat ((with_reducible refine wpStill_step (fun K hK => ?_)); go_simp; ((with_reducible refine hK _ ?_); clear hK K))
    refine wpStill_nil ?_
    change wpList _ _ _ _ _ w3.drew
    obtain ⟨w4, hw4⟩ : ∃ v, v = w3.drew := ⟨_, rfl⟩
    have hE4 : Ext2 w3 w4 := by rw [hw4]; exact Ext2.drew w3
    rw [← hw4]
    have HE4 := Lib.hid hE4
    have z3 := Ext2.blk hE4 x3
    obtain ⟨cur, xg⟩ := ownR_cells (HO3.out.below hE4) (k := g) rfl
    have cg := (HO3.out.below hE4).cell1 hcn
    have cg1 := cg.1; have cg2 := cg.2.1; have cg3 := cg.2.2.1; have cg4 := cg.2.2.2
    clear hw4 hE4 q3c q3f c5 cg hb hb2 hat x3
    have q3c := cell_blk z3
    have q3f := frz_blk z3
    go_wp2_with (fail)
    refine (must_ok _ _).mono ?_
    rintro e w' ⟨rfl, rfl⟩
    go_wp2_with (fail)
    refine wp_name ?_
    intro w5 hw5
    have hE25 : Ext2 w2 w5 := by rw [hw5]; exact below_set (ext_trans HE3.out HE4.out) cg4
    have hO5 : OwnR w5 w2.heap.size 3 1 (.slice (some ⟨g, 0, none⟩) S.cans.length cap) S.cans.length (intC (moveW S M m)) := by
      rw [hw5]
      refine OwnR.set1 (HO3.out.below HE4.out) hcn _ (fun i hi => ?_)
      show Value.int .i64 (intD (moveW S M m) i) = _
      rw [moveW, m0, m1, m2, Int.toNat_natCast, intD_set (by rw [whereV_len]; exact hcn)]
      by_cases hic : i = c
      · rw [if_pos hic, if_pos hic]
      · rw [if_neg hic, if_neg hic]; rfl
    have HE5 := Lib.hid hE25; have HO5 := Lib.hid hO5
    have HV5 := Lib.hid (HV2.out.below hE25)
    clear hw5 hE25 hO5 xg cg1 cg2 cg3 cg4 q3c q3f z3 HE3 HE4 HO3
    obtain ⟨bR, oR, haR, hcR⟩ := rm_cells HV5.out.at_.site.rm htn
    obtain ⟨c0, c1, c2, c3, c4, c5, c6, c7, c8, c9⟩ := hcR
    obtain ⟨R, hR⟩ : ∃ R, R = rmD S.rooms t := ⟨_, rfl⟩
    rw [← hR] at c0 c1 c2 c3 c4 c5 c6 c7 c8 c9
    have HR := Lib.hid hR
    have x3 := Ext2.blk HE5.out Z3.out
    have x0 := HV5.out.blk
    rw [haR] at x0
    have i0 : (0 : Int) ≤ (t : Int) := by omega
    have q0c := cell_blk x0
    have q0f := frz_blk x0
    have q3c := cell_blk x3
    have q3f := frz_blk x3
    clear x0 hR
    refine region_pan 4 (.pointer (some ⟨n4, 0, none⟩)) rfl (by kernel_rfl) (by kernel_rfl) ?_
    refine wpAny_ev [] [0, 1, 2, 3, 4, 5, 6, 7, 8] [(9, 7, some 10)] [] (by kernel_rfl) (by intro c a d v w h; cases d <;> exact h) ?_
    simp only [picks, List.drop_succ_cons, List.drop_zero]
    repeat ((with_reducible refine wpQ0_step (fun K hK => ?_)); go_simp; ((with_reducible refine hK _ ?_); clear hK K))
    refine wpQ0_nil ?_
    repeat ((with_reducible refine wpQ2_step (fun K hK => ?_)); go_simp; first | ((with_reducible refine hK _ ?_); clear hK K) | (apply Exists.intro; refine ⟨fun x => ?_, hK _ ?_⟩; (fail); clear hK K))
    refine wpQ2_nil ?_
    refine Events.fill1 (fun b => .pointer (some ⟨b, 0, none⟩)) (Obj.cells #[.string ByteArray.empty, .int .i64 0, .int .i64 0, .int .i64 0, .int .i64 0, .bool false, .bool false, .int .i64 0, .int .i64 0, .int .i64 0] 74) (Obj.cells #[.string R.name, .int .i64 R.tlo, .int .i64 R.thi, .int .i64 R.dlo, .int .i64 R.dhi, .bool R.people, .bool R.allows, .int .i64 R.most, .int .i64 R.x, .int .i64 R.y] 74) ⟨_, rfl, rfl, rfl, fun W => by kernel_rfl⟩ ⟨_, rfl, rfl, rfl, fun b W hb => ?_⟩ fun n7 w6 hn7 hg6 nn7 => ?_
    · have hbc := cell_blk hb; have hbf := frz_blk hb; go_simp; exact turn_room hb
    simp only [picks, List.drop_succ_cons, List.drop_zero]
    have HV6 := Lib.hid (HV5.out.below hg6)
    have HE6 := Lib.hid (ext_trans HE5.out hg6)
    have HO6 := Lib.hid (HO5.out.below hg6)
    have N7 := Lib.hid nn7
    clear q0c q0f q3c q3f x3 c0 c1 c2 c3 c4 c5 c6 c7 c8 c9 nn7 haR
    refine wpList_nil ?_
    have x3 := Ext2.blk HE6.out Z3.out
    obtain ⟨bC, oC, haC, y0, y1, y2, y3⟩ := cn_cells HV6.out.at_.site.cn hcn
    obtain ⟨B, hB⟩ : ∃ B, B = (cnD S.cans c).base := ⟨_, rfl⟩
    rw [← hB] at y1
    have HB := Lib.hid hB
    have x0 := HV6.out.blk
    rw [haC] at x0
    have q0c := cell_blk x0
    have q0f := frz_blk x0
    have q3c := cell_blk x3
    have q3f := frz_blk x3
    clear x0 hB y0 y2 y3 hg6
    go_wp2_with (fail)
    refine region_pan 4 (.pointer (some ⟨n4, 0, none⟩)) rfl (by kernel_rfl) (by kernel_rfl) ?_
    refine wpAny_ev [] [0, 1, 2, 3, 4, 5, 6, 7, 8, 9, 10] [] [] (by kernel_rfl) (by intro c a d v w h; cases d <;> exact h) ?_
    simp only [picks, List.drop_succ_cons, List.drop_zero]
    repeat ((with_reducible refine wpQ0_step (fun K hK => ?_)); go_simp; ((with_reducible refine hK _ ?_); clear hK K))
    refine wpQ0_nil ?_
    repeat ((with_reducible refine wpQ2_step (fun K hK => ?_)); go_simp; first | ((with_reducible refine hK _ ?_); clear hK K) | (apply Exists.intro; refine ⟨fun x => ?_, hK _ ?_⟩; (fail); clear hK K))
    refine wpQ2_nil ?_
    refine Events.none_ fun w7 hg7 => ?_
    simp only [picks, List.drop_succ_cons, List.drop_zero]
    have HV7 := Lib.hid (HV6.out.below hg7)
    have HE7 := Lib.hid (ext_trans HE6.out hg7)
    have HO7 := Lib.hid (HO6.out.below hg7)
    have X77 := Lib.hid (Ext2.blk hg7 N7.out)
    clear q0c q0f q3c q3f x3 y1 haC hg7
    refine wpList_nil ?_
    have WE := Lib.hid (why_eq m0 m1 m2 HNO.out HAT.out HB.out HR.out)
    have HPZ : Hid (w.heap.size ≤ n4) := Lib.hid (by omega)
    rcases Decidable.em (B = 1) with hB1 | hB1
    case' inl =>
      have hb1 : (B == 1) = true := by simp [hB1]
      have HB1 := Lib.hid hB1
      have x7 := X77.out
      have q7c := cell_blk x7
      have q7f := frz_blk x7
      clear x7 hB1
      go_wp2_with (fail)
      refine (must_any _ _ _).mono ?_
      rintro e w' ⟨he, rfl⟩
      clear q7c q7f hb1
      rcases (Bool.eq_false_or_eq_true R.allows).symm with hal | hal
      · rw [hal, done_false] at he
        subst he
        have x4 := Ext2.blk HE7.out Z4.out
        refine move_panic x4 rfl (moveNo HV7.out (ext_trans HW2.out HE7.out) HV.out.bel.size HPZ.out x4 ?_ (by decide))
        rw [WE.out, if_pos ⟨HB1.out, hal⟩]
      rw [hal, done_true] at he
      subst he
      have HAL := Lib.hid hal
      clear hal
      go_wp2_with (fail)
      have x3 := Ext2.blk HE7.out Z3.out; have x7 := X77.out
      haveI hcls := At2.ne x3 x7
      refine region_pan 4 (.pointer (some ⟨n4, 0, none⟩)) rfl (by kernel_rfl) (by kernel_rfl) ?_
      refine wpAny_tree _ [0, 1, 3, 4, 7, 8] (.one 2 (.one 5 (.one 6 (.one 9 (.one 10 .leaf))))) (At2.ext x3 x7) (by kernel_rfl) (by intro c a d v w h; cases d <;> exact h) ?_
      simp only [picks, List.drop_succ_cons, List.drop_zero]
      repeat ((with_reducible refine wpQS_step (fun K hK => ?_)); go_simp; ((with_reducible refine hK _ ?_); clear hK K))
      (with_reducible refine wpQS_nil ?_)
      intro W hW
      have HVW := Lib.hid (HV7.out.below hW)
      have HEW := Lib.hid (ext_trans HE7.out hW)
      have HOW := Lib.hid (HO7.out.below hW)
      have y3 := Ext2.blk hW x3; have y7 := Ext2.blk hW x7
      clear hcls x3 x7 hW
      refine wpT_one ?_
      simp only [picks, List.drop_succ_cons, List.drop_zero]
      go_wp2_with (fail)
      refine (amounts_any HVW.out.at_ HC.out.cans HN30.out HC.out.len.1.2 (moveW_ints HOW.out).1 (moveW_ints HOW.out).2 (moveW_in HC.out HM.out.each HMV.out)).mono ?_
      rintro e wa ⟨ga, ca, rfl, hOa, hEa⟩
      have cA := (hOa.cell1 htn).1
      rw [intC, amtsV_at htn] at cA
      obtain ⟨A, hA⟩ : ∃ A, A = amt S (moveW S M m) t := ⟨_, rfl⟩
      rw [← hA] at cA
      have HA := Lib.hid hA
      have HV8 := Lib.hid (HVW.out.below hEa)
      have HE8 := Lib.hid (ext_trans HEW.out hEa)
      have HO8 := Lib.hid (HOW.out.below hEa)
      have z3 := Ext2.blk hEa y3; have z7 := Ext2.blk hEa y7
      have X78 := Lib.hid z7
      clear hA hOa hEa y3 y7 HVW HEW HOW
      go_wp2_with (fail)
      refine ⟨⟨z3, z7⟩, wpT_one ?_⟩
      simp only [picks, List.drop_succ_cons, List.drop_zero]
      go_wp2_with (fail)
      refine ⟨⟨z3, z7⟩, wpT_one ?_⟩
      simp only [picks, List.drop_succ_cons, List.drop_zero]
      go_wp2_with (fail)
      refine ⟨⟨z3, z7⟩, wpT_one ?_⟩
      simp only [picks, List.drop_succ_cons, List.drop_zero]
      go_wp2_with (fail)
      refine ⟨⟨z3, z7⟩, wpT_one ?_⟩
      simp only [picks, List.drop_succ_cons, List.drop_zero]
      go_wp2_with (fail)
      refine (must_any _ _ _).mono ?_
      rintro e w' ⟨he, rfl⟩
      by_cases hf : A ≤ R.most
      case' neg =>
        rw [decide_eq_false hf, done_false] at he
        subst he
        dsimp only
        have x4 := Ext2.blk HE8.out Z4.out
        refine pan_leave0 (fun t' ht' => ?_)
        refine move_panic x4 ht' (moveNo HV8.out (ext_trans HW2.out HE8.out) HV.out.bel.size HPZ.out x4 ?_ (by decide))
        rw [WE.out, if_neg (fun h => by rw [HAL.out] at h; cases h.2), if_pos ⟨HB1.out, by rw [← HA.out]; omega⟩]
      rw [decide_eq_true hf, done_true] at he
      subst he
      have WF : Hid (whyV S M m = if nears S (moveW S M m) ≠ [] then 134 else if mayS (ownT S M c h) R then 135 else 0) := Lib.hid (by rw [WE.out, if_neg (fun h => by rw [HAL.out] at h; cases h.2), if_neg (fun h => by have := h.2; rw [← HA.out] at this; omega)])
      clear hf cA HB1 HAL HA
      go_wp2_with (fail)
      refine ⟨⟨z3, z7⟩, wpT_leaf ?_⟩
      clear z3 z7
      go_wp2_with (fail)
    case' inr =>
      have hb1 : (B == 1) = false := by simp [hB1]
      have HV8 := HV7; have HE8 := HE7; have HO8 := HO7; have X78 := X77
      have WF : Hid (whyV S M m = if nears S (moveW S M m) ≠ [] then 134 else if mayS (ownT S M c h) R then 135 else 0) := Lib.hid (by rw [WE.out, if_neg (fun h => hB1 h.1), if_neg (fun h => hB1 h.1)])
      go_wp2_with (fail)
      clear hb1 hB1
    all_goals
      refine (near_any HV8.out.at_ HC.out.nrOk (moveW_ints HO8.out).1 (moveW_ints HO8.out).2 (moveW_in HC.out HM.out.each HMV.out)).mono ?_
      rintro e w9 ⟨v, rfl, hOn, hEn⟩
      obtain ⟨⟨na, nc⟩, rfl, -⟩ := hOn.sl
      obtain ⟨NL, hNL⟩ : ∃ n, n = (nears S (moveW S M m)).length := ⟨_, rfl⟩
      have HV9 := Lib.hid (HV8.out.below hEn)
      have HE9 := Lib.hid (ext_trans HE8.out hEn)
      have X79 := Lib.hid (Ext2.blk hEn X78.out)
      rw [← hNL]
      have HNL := Lib.hid hNL
      clear hOn hEn hNL
      go_wp2_with (fail)
      refine (must_any _ _ _).mono ?_
      rintro e w' ⟨he, rfl⟩
      by_cases hN : NL = 0
      case' neg =>
        have hb : ((NL : Int) == 0) = false := by simp; omega
        rw [hb, done_false] at he
        subst he
        have x4 := Ext2.blk HE9.out Z4.out
        refine move_panic x4 rfl (moveNo HV9.out (ext_trans HW2.out HE9.out) HV.out.bel.size HPZ.out x4 ?_ (by decide))
        rw [WF.out, if_pos (fun h => hN (by rw [HNL.out, h]; rfl))]
      have hb : ((NL : Int) == 0) = true := by simp [hN]
      rw [hb, done_true] at he
      subst he
      have WG : Hid (whyV S M m = if mayS (ownT S M c h) R then 135 else 0) := Lib.hid (by
        rw [WF.out, if_neg]
        intro h
        exact h (List.eq_nil_of_length_eq_zero (by rw [← HNL.out, hN])))
      clear hb hN HNL HO8 HV8 HE8 X78
      go_wp2_with (fail)
      have x3 := Ext2.blk HE9.out Z3.out; have x7 := X79.out
      haveI hcls := At2.ne x3 x7
      refine region_pan 4 (.pointer (some ⟨n4, 0, none⟩)) rfl (by kernel_rfl) (by kernel_rfl) ?_
      refine wpAny_tree _ [0, 1, 2, 3, 4, 6] (.one 5 (.one 7 (.one 8 (.one 9 .leaf)))) (At2.ext x3 x7) (by kernel_rfl) (by intro c a d v w h; cases d <;> exact h) ?_
      simp only [picks, List.drop_succ_cons, List.drop_zero]
      repeat ((with_reducible refine wpQS_step (fun K hK => ?_)); go_simp; ((with_reducible refine hK _ ?_); clear hK K))
      (with_reducible refine wpQS_nil ?_)
      intro W hW
      have HVW := Lib.hid (HV9.out.below hW)
      have HEW := Lib.hid (ext_trans HE9.out hW)
      have y3 := Ext2.blk hW x3; have y7 := Ext2.blk hW x7
      clear hcls x3 x7 hW
      have hTI : TIn (ownT S M c h) := HC.out.own HM.out.each hcn h
      have hRI : RIn R := by rw [HR.out]; exact (HC.out.room htn).1
      obtain ⟨T, hT⟩ : ∃ T, T = ownT S M c h := ⟨_, rfl⟩
      have HT := Lib.hid hT
      rw [← hT] at hTI
      have HTI := Lib.hid hTI; have HRI := Lib.hid hRI
      clear hT hTI hRI
      refine wpT_one ?_
      simp only [picks, List.drop_succ_cons, List.drop_zero]
      go_wp2_with (fail)
      refine (vtemp_any HVW.out.at_ HC.out HM.out.each HM.out.sort hcn (by omega) (by omega)).mono ?_
      rintro e wa ⟨rfl, hEa⟩
      rw [← HT.out]
      have HVa := Lib.hid (HVW.out.below hEa)
      have HEa := Lib.hid (ext_trans HEW.out hEa)
      have z3 := Ext2.blk hEa y3; have z7 := Ext2.blk hEa y7
      clear hEa y3 y7 HVW HEW
      go_wp2_with (fail)
      refine ⟨⟨z3, z7⟩, wpT_one ?_⟩
      simp only [picks, List.drop_succ_cons, List.drop_zero]
      go_wp2_with (fail)
      refine (may_any (t := T) (r := R) _ HTI.out HRI.out).mono ?_
      rintro e wb ⟨rfl, hEb⟩
      have HVb := Lib.hid (HVa.out.below hEb)
      have HEb := Lib.hid (ext_trans HEa.out hEb)
      have y3 := Ext2.blk hEb z3; have y7 := Ext2.blk hEb z7
      obtain ⟨my, hmy⟩ : ∃ x, x = mayS T R := ⟨_, rfl⟩
      rw [← hmy]
      have HMY := Lib.hid hmy
      clear hEb z3 z7 HVa HEa hmy
      go_wp2_with (fail)
      refine ⟨⟨y3, y7⟩, wpT_one ?_⟩
      simp only [picks, List.drop_succ_cons, List.drop_zero]
      go_wp2_with (fail)
      refine ⟨⟨y3, y7⟩, wpT_one ?_⟩
      simp only [picks, List.drop_succ_cons, List.drop_zero]
      go_wp2_with (fail)
      refine (must_any _ _ _).mono ?_
      rintro e w' ⟨he, rfl⟩
      cases my
      case' true =>
        rw [Bool.not_true, done_false] at he
        subst he
        dsimp only
        have x4 := Ext2.blk HEb.out Z4.out
        refine pan_leave0 (fun t' ht' => ?_)
        refine move_panic x4 ht' (moveNo HVb.out (ext_trans HW2.out HEb.out) HV.out.bel.size HPZ.out x4 ?_ (by decide))
        rw [WG.out, if_pos (by rw [← HT.out, ← HMY.out])]
      rw [Bool.not_false, done_true] at he
      subst he
      have WZ : Hid (whyV S M m = 0) := Lib.hid (by rw [WG.out, if_neg (by rw [← HT.out, ← HMY.out]; decide)])
      clear HTI HRI HT HMY WG WF WE
      go_wp2_with (fail)
      refine ⟨⟨y3, y7⟩, wpT_leaf ?_⟩
      clear y7
      go_wp2_with (fail)
      have hnw := HVb.out
      have x0 := hnw.blk
      have HE13 := HEb
      have q0c := cell_blk x0
      have q0f := frz_blk x0
      have q3c := cell_blk y3
      have q3f := frz_blk y3
      clear hnw x0
      refine region_pan 4 (.pointer (some ⟨n4, 0, none⟩)) rfl (by kernel_rfl) (by kernel_rfl) ?_
      refine wpAny_ev [0] [1, 2, 3, 4, 5] [(6, 106, none)] [7, 8, 9, 10] (by kernel_rfl) (by intro c a d v w h; cases d <;> exact h) ?_
      simp only [picks, List.drop_succ_cons, List.drop_zero]
      repeat ((with_reducible refine wpQ0_step (fun K hK => ?_)); go_simp; ((with_reducible refine hK _ ?_); clear hK K))
      refine wpQ0_nil ?_
      repeat ((with_reducible refine wpQ2_step (fun K hK => ?_)); go_simp; first | ((with_reducible refine hK _ ?_); clear hK K) | (apply Exists.intro; refine ⟨fun x => ?_, hK _ ?_⟩; (fail); clear hK K))
      refine wpQ2_nil ?_
      refine Events.lay1 (fun b => .slice (some ⟨b, 0, none⟩) 1 1) (.cells #[.int .i64 (h : Int), .int .i64 (c : Int), .int .i64 (t : Int)] 95 (0, 0)) ⟨_, rfl, rfl, rfl, fun W => by kernel_rfl⟩ fun bq wx hbq hgx nbq => ?_
      simp only [picks, List.drop_succ_cons, List.drop_zero]
      have HVx := Lib.hid (HVb.out.below hgx)
      have x4 := Ext2.blk (ext_trans HEb.out hgx) Z4.out
      have HWX := Lib.hid (ext_trans HW2.out (ext_trans HEb.out hgx))
      clear q0c q0f q3c q3f y3 hgx
      have hbn : b < n4 := by have := blk_lt HV.out.blk; omega
      have hn1 : ¬ n4 = b := by omega
      have hn2 : ¬ b = n4 := by omega
      have HX4 := Lib.hid x4
      clear x4
      refine app_one [.int .i64 (h : Int), .int .i64 (c : Int), .int .i64 (t : Int)] elMv rfl _ _ rfl w0.heap.size (v := .slice k.a M.length k.cap) rfl HVx.out.own bq 1 rfl nbq (by simp [Value.oneCell']) (by omega) HVx.out.bel.size ?_
      intro v1 wy hO9 hg9
      have X0 := Lib.hid (app_blk0 HVx.out.own hg9 HVx.out.blk (by decide))
      have X4 := Lib.hid (app_blk0 HVx.out.own hg9 HX4.out (by decide))
      have HSD : Hid (Sd w0.heap.size [76, 95] w wy) := Lib.hid (Sd.trans (Sd.ext HWX.out HV.out.bel.size) ⟨below_app0 (Below.refl _ _) HVx.out.own HVx.out.bel.size hg9, fun g cs e f hg he => app_blk0 HVx.out.own hg9 hg (fun h => he (by rw [h]; simp))⟩)
      have HBY := Lib.hid (below_app0 HVx.out.bel HVx.out.own HVx.out.bel.size hg9)
      obtain ⟨⟨a1, c1⟩, hv1, -⟩ := hO9.sl
      subst hv1
      have HO9 := Lib.hid hO9
      have z0 := X0.out; have z4 := X4.out
      have q0c := cell_blk z0
      have q0f := frz_blk z0
      have q4c := cell_blk z4
      have q4f := frz_blk z4
      clear hO9 hg9 z0 z4 nbq hbq
      go_wp2_with (fail)
      rw [← m0, ← m1, ← m2] at HO9
      exact move_end HV.out.site HV.out.lb hbn HPZ.out X0.out X4.out HBY.out HSD.out HO9.out WZ.out rfl
end Go.Proofs.YtfpaihjcbpaneaaGreatDoor
