/-
  must and caught in functions with a range over a function.
  title.Break.
  title.Rest.
-/
import Derived.Test.YtahgbecfaihfpaaDoorTChkM
import Derived.Test.YtahgbecfaihfpaaDoorDMem
import Derived.RecoverIn
import Derived.Test.YtahgbecfaihfpaaDoorTLinesM
import Derived.Test.YtahgbecfaihfpaaDoorDRegX
namespace Go.Proofs.YtahgbecfaihfpaaDoor
open Go.RowKit D
set_option linter.unusedVariables false
set_option linter.unusedSimpArgs false
attribute [local go_sem high] run_minI run_maxI
theorem caughtM_panicking (b : Nat) (e c : Int) (older : List PanicEntry) (w : World) (hb : w.heap[b]? = some (.cells #[.int .i64 c] 27 (0, 0))) :
    CallsDIn Fence.wide 0 Tryd.prog 45 #[.pointer (some ⟨b, 0, none⟩)] (.panicking ({ v := .iface 27 (.int .i64 e), recovered := false } :: older)) w fun en u' w' =>
      en = .returned (.tuple #[]) ∧ u' = .panicking ({ v := .iface 27 (.int .i64 e), recovered := true } :: older) ∧ w' = w.setCell ⟨b, 0, none⟩ (.int .i64 e) := by
  have h0 : w.cell? ⟨b, 0, none⟩ = some (.int .i64 c) := by simp [World.cell?, hb]
  have f0 : w.frozen? ⟨b, 0, none⟩ = false := by simp [World.frozen?, hb]
  refine callsDIn_of_wpSIn Tryd.func45 rfl trivial fun c₀ cs hu => ?_
  apply wpSIn_seq
  apply wpSIn_region
  simp [wpOpsSIn, go_sem, recoverD, hu, Tryd.ntmps45, Exit.thenS, Fence.wide]
  apply wpSIn_seq
  apply wpSIn_region
  simp [wpOpsSIn, go_sem, recoverD, hu, Tryd.ntmps45, Exit.thenS, Fence.wide]
  refine wpSIn_cond (t := true) (by simp [Act.eval, Array.replicate]) ?_
  simp only [if_true]
  apply wpSIn_region
  have ha : ∀ w, (Instr.typeAssert (.iface 27 (.int .i64 e)) 20 27 false).run Tryd.prog w = .ok (.int .i64 e) w := fun w => by kernel_rfl
  simp [wpOpsSIn, go_sem, ha, h0, f0, bodyPostS, results, Tryd.results45, Fence.wide]
theorem caughtM_idle (p : Addr) (w : World) :
    CallsDIn Fence.wide 0 Tryd.prog 45 #[.pointer (some p)] .returning w fun en u' w' => en = .returned (.tuple #[]) ∧ u' = .returning ∧ w' = w := by
  refine callsDIn_of_wpSIn Tryd.func45 rfl trivial fun c₀ cs hu => ?_
  apply wpSIn_seq
  apply wpSIn_region
  simp [wpOpsSIn, go_sem, recoverD, hu, Tryd.ntmps45, Exit.thenS, Fence.wide]
  apply wpSIn_seq
  apply wpSIn_region
  simp [wpOpsSIn, go_sem, recoverD, hu, Tryd.ntmps45, Exit.thenS, Fence.wide]
  refine wpSIn_cond (t := false) (by simp [Act.eval, Array.replicate]) ?_
  simp only [Bool.false_eq_true, if_false]
  refine wpSIn_of_wpIn rfl (wpIn_skip ?_)
  cases c₀
  simp_all [bodyPostS, results, Tryd.results45]
theorem leavesM_fn {fn : Func} {R : Ending → World → Prop} {w1 : World} {u : FrameMode} {B : Nat} {tmps : Array Value} {ds : List Deferred} (hu : u ≠ .run)
    (h : CallsDIn Fence.wide 0 Tryd.prog 45 #[.pointer (some ⟨B, 0, none⟩)] u w1 fun
            | .returned _, u', w' => LeavesInM Fence.wide 0 Tryd.prog fn tmps R ds (settle u') w'
            | .panicked chain, u', w' => LeavesInM Fence.wide 0 Tryd.prog fn tmps R ds (raised u' chain) w'
            | .outgrown, _, w' => R .outgrown w') :
    LeavesInM Fence.wide 0 Tryd.prog fn tmps R ({ target := Target.fn (Fn.func 45) #[], args := #[.pointer (some ⟨B, 0, none⟩)] } :: ds) u w1 :=
  ⟨hu, .inr ⟨fun h0 => (by cases h0), _, _, 45, #[.pointer (some ⟨B, 0, none⟩)], rfl, by simp [go_sem], fun _ _ => trivial, h⟩⟩
theorem leaveM_panic {fn : Func} {R : Ending → World → Prop} {w1 : World} {B : Nat} {e c : Int} {tmps : Array Value} (hB : w1.heap[B]? = some (.cells #[.int .i64 c] 27 (0, 0))) (hr : LeavesInM Fence.wide 0 Tryd.prog fn tmps R [] .returning (w1.setCell ⟨B, 0, none⟩ (.int .i64 e))) :
    bodyPostM Fence.wide 0 Tryd.prog fn R (Exit.panic [{ v := .iface 27 (.int .i64 e), recovered := false }])
      { tmps := tmps, defers := [{ target := Target.fn (Fn.func 45) #[], args := #[.pointer (some ⟨B, 0, none⟩)] }] } w1 := by
  refine leavesM_fn (by simp) ?_
  refine CallsDIn.mono (caughtM_panicking B e c [] w1 hB) ?_
  rintro e' u' w'' ⟨rfl, rfl, rfl⟩
  dsimp only
  rw [settle_done]
  exact hr
theorem leaveM_done {fn : Func} {R : Ending → World → Prop} {w1 : World} {B : Nat} {tmps : Array Value} (hr : LeavesInM Fence.wide 0 Tryd.prog fn tmps R [] .returning w1) :
    LeavesInM Fence.wide 0 Tryd.prog fn tmps R [{ target := Target.fn (Fn.func 45) #[], args := #[.pointer (some ⟨B, 0, none⟩)] }] .returning w1 := by
  refine leavesM_fn (by simp) ?_
  refine CallsDIn.mono (caughtM_idle _ w1) ?_
  rintro e' u' w'' ⟨rfl, rfl, rfl⟩
  exact hr
theorem leaveM_take {fn : Func} {R : Ending → World → Prop} {w1 : World} {d : Nat} {u : FrameMode} {tmps : Array Value} {ds : List Deferred} (hu : u ≠ .run) (hd : w1.heap[d]? = some (.deferred (some []))) (hr : LeavesInM Fence.wide 0 Tryd.prog fn tmps R ds u (w1.putObj d (.deferred none))) :
    LeavesInM Fence.wide 0 Tryd.prog fn tmps R ({ target := .collected d, args := #[] } :: ds) u w1 :=
  ⟨hu, .inl ⟨_, _, rfl, run_takeDeferred hd, hr⟩⟩
end Go.Proofs.YtahgbecfaihfpaaDoor
namespace Go.Proofs.YtahgbecfaihfpaaDoor.D
def breaksL (F : Font) (R : Rul) (P : List ByteArray) : List Ln := (List.range (nLines F R P)).map (linS F R P)
def lnD (l : List Ln) (i : Nat) : Ln := l.getD i default
theorem breaks_len (F : Font) (R : Rul) (P : List ByteArray) : (breaksL F R P).length = nLines F R P := by simp [breaksL]
theorem breaks_at (F : Font) (R : Rul) (P : List ByteArray) {i : Nat} (h : i < nLines F R P) : lnD (breaksL F R P) i = linS F R P i := by
  simp [lnD, breaksL, List.getD_eq_getElem?_getD, h]
end Go.Proofs.YtahgbecfaihfpaaDoor.D
namespace Go.Proofs.YtahgbecfaihfpaaDoor
open Go.RowKit D
set_option linter.unusedVariables false
set_option linter.unusedSimpArgs false
attribute [local go_sem high] run_minI run_maxI
attribute [local go_sem] upon2 cls_cell cls_frozen forall_const exists_eq_left'
attribute [local go_sem] FirstUpon Oper.semAt_some
def lnV (x : Ln) (j : Nat) : Value :=
  match j with
  | 0 => .int .i64 x.from_
  | 1 => .int .i64 x.until_
  | 2 => .int .i64 x.wide
  | _ => .int .i64 x.cost
def LnsV (w : World) (l : List Ln) (v : Value) : Prop := ∃ sl : Sl, v = .slice sl.a l.length sl.cap ∧ RowS w sl 4 l.length (fun i => lnV (lnD l i))
theorem elLn : Elem Tryd.prog 65 71 (.agg #[.int .i64 0, .int .i64 0, .int .i64 0, .int .i64 0]) 4 32 := ⟨by kernel_rfl, by kernel_rfl, rfl, by omega, by omega⟩
def BreakPost (w : World) (F : Font) (R : Rul) (t : ByteArray) (e : Ending) (w' : World) : Prop :=
  (∃ v, e = .returned (.tuple #[v, .int .i64 (openE F R t)]) ∧ if openE F R t = 0 then LnsV w' (breaksL F R (partsS t)) v else v = .slice none 0 0) ∧ Below w.heap.size w w'
theorem breakPost_no {w w' : World} {F : Font} {R : Rul} {t : ByteArray} {x : Int} (h : openE F R t = x) (h0 : x ≠ 0) (hb : Below w.heap.size w w') : BreakPost w F R t (.returned (.tuple #[.slice none 0 0, .int .i64 x])) w' :=
  ⟨⟨.slice none 0 0, by rw [h], by rw [if_neg (by rw [h]; exact h0)]⟩, hb⟩
theorem blk_put {W : World} {b d : Nat} {x o : Obj} (h : W.heap[b]? = some x) (hne : b ≠ d) : (W.putObj d o).heap[b]? = some x := (World.putObj_heap_other hne).trans h
theorem below_put {B d : Nat} {w W : World} {o : Obj} (h : Below B w W) (hB : B ≤ d) : Below B w (W.putObj d o) :=
  ⟨h.os, h.tape, h.output, Nat.le_trans h.size (grownBy_putObj' W d o).size, fun k hk => (World.putObj_heap_other (by omega)).trans (h.block k hk)⟩
theorem OwnR.sd {B : Nat} {ts : List TypeId} {w w' : World} (hb : Sd B ts w w') {base : Nat} {e : TypeId} {sz : Nat} {v : Value} {n : Nat} {c : Nat → Nat → Value} (h : OwnR w base e sz v n c) (he : e ∉ ts) : OwnR w' base e sz v n c := by
  obtain ⟨h1, h2 | ⟨g, cap, cur, e1, e2, e3, e4⟩⟩ := h
  · exact ⟨h1, .inl h2⟩
  · exact ⟨h1, .inr ⟨g, cap, cur, e1, e2, hb.keep _ _ _ _ e3 he, e4⟩⟩
/-- The lines that are there so far. -/
structure BrkSt (w w0 W : World) (F : Font) (R : Rul) (P : List ByteArray) (c6 c7 : Nat) (k : Nat) : Prop where
  bel : Below w.heap.size w W
  size : w0.heap.size ≤ W.heap.size
  err : W.heap[c7]? = some (.cells #[.int .i64 0] 27 (0, 0))
  lns : ∃ v, W.heap[c6]? = some (.cells #[v] 65 (0, 0)) ∧ OwnR W w0.heap.size 71 4 v k (fun i => lnV (linS F R P i))
theorem BrkSt.sd {w w0 W W' : World} {F : Font} {R : Rul} {P : List ByteArray} {c6 c7 k B : Nat} {ts : List TypeId} (h : BrkSt w w0 W F R P c6 c7 k) (hs : Sd B ts W W') (hB : w.heap.size ≤ B) (h1 : 27 ∉ ts) (h2 : 65 ∉ ts) (h3 : 71 ∉ ts) : BrkSt w w0 W' F R P c6 c7 k := by
  obtain ⟨v, hv, ho⟩ := h.lns
  exact ⟨h.bel.trans (hs.bel.mono hB), Nat.le_trans h.size hs.bel.size, hs.keep _ _ _ _ h.err h1, v, hs.keep _ _ _ _ hv h2, ho.sd hs h3⟩
set_option maxRecDepth 100000 in
set_option maxHeartbeats 2000000 in
theorem break_any {F : Font} {s : FSl} {R : Rul} {t : ByteArray} {w : World} (hF : FontAt w F s) (hm : MaxAt w) : Calls Tryd.prog 33 #[.agg #[.int .i64 F.high, .int .i64 F.space, .slice s.g.a F.glyphs.length s.g.cap, .slice s.k.a F.kerns.length s.k.cap], .agg #[.int .i64 R.measure, .int .i64 R.lines, .int .i64 R.lead, .int .i64 R.short, .int .i64 R.extra, .int .i64 R.ink], .string t] w (BreakPost w F R t) := by
  have HO : Hid (∀ W, Below w.heap.size w W → Calls Tryd.prog 54 #[.agg #[.int .i64 F.high, .int .i64 F.space, .slice s.g.a F.glyphs.length s.g.cap, .slice s.k.a F.kerns.length s.k.cap], .agg #[.int .i64 R.measure, .int .i64 R.lines, .int .i64 R.lead, .int .i64 R.short, .int .i64 R.extra, .int .i64 R.ink], .string t] W (OpenOut W F s R t)) := Lib.hid fun W hW => open_any (hF.below hW) (hm.below hW)
  obtain ⟨x, hx⟩ : ∃ x, x = openE F R t := ⟨_, rfl⟩
  have HX := Lib.hid hx
  have HFO := Lib.hid hF
  clear hF hm hx
  refine calls_of_wp_marks Tryd.func33 rfl ?_
  simp only [Tryd.ntmps33, List.size_toArray, List.length_cons, List.length_nil, Nat.reduceAdd, Nat.reduceSub, Array.replicate_succ, Array.replicate_zero, List.push_toArray, List.append_toArray, List.nil_append, List.cons_append]
  go_wp2_with (fail)
  refine calls_name ?_
  intro wo hwo
  have hB0 : Below w.heap.size w wo := by rw [hwo]; repeat' (first | exact Below.refl _ _ | assumption | refine below_drewN ?_ _ | refine Below.drew ?_ | refine Below.alloc ?_ (by first | assumption | omega | (simp <;> omega)) _ | refine Below.setCell ?_ (by first | assumption | omega | (simp <;> omega)) _ | refine Ext2.on (by assumption) ?_)
  have x6 : wo.heap[w.heap.size + 1 + 1]? = some (Obj.cells #[.slice none 0 0] 65) := by rw [hwo]; repeat' (first | (with_reducible assumption) | (with_reducible refine blk_set_ne ?_ ?_) | (with_reducible exact blk_new _ _) | (with_reducible refine blk_new' _ _ (by first | (with_reducible rfl) | (simp; done) | (simp <;> omega))) | (with_reducible refine blk_alloc ?_ _) | (with_reducible refine blk_drew ?_) | (with_reducible refine blk_drewN ?_ _) | (with_reducible refine Ext2.blk (by assumption) ?_) | omega | (simp <;> omega) | exact blk_set (by assumption) _ _)
  have x7 : wo.heap[w.heap.size + 1 + 1 + 1]? = some (Obj.cells #[.int .i64 0] 27) := by rw [hwo]; repeat' (first | (with_reducible assumption) | (with_reducible refine blk_set_ne ?_ ?_) | (with_reducible exact blk_new _ _) | (with_reducible refine blk_new' _ _ (by first | (with_reducible rfl) | (simp; done) | (simp <;> omega))) | (with_reducible refine blk_alloc ?_ _) | (with_reducible refine blk_drew ?_) | (with_reducible refine blk_drewN ?_ _) | (with_reducible refine Ext2.blk (by assumption) ?_) | omega | (simp <;> omega) | exact blk_set (by assumption) _ _)
  have hso : wo.heap.size = w.heap.size + 1 + 1 + 1 + 1 := by rw [hwo]; simp
  have HB00 := Lib.hid hB0
  clear hwo
  (with_reducible refine (HO.out _ hB0).mono ?_)
  intro e w1 ho
  unfold OpenOut at ho
  rw [← HX.out] at ho
  obtain ⟨ho, hb1⟩ := ho
  have hE1 : Ext2 wo w1 := hb1
  have hB1 : Below w.heap.size w w1 := below_ext hB0 hE1
  have x6 := Ext2.blk hE1 x6; have x7 := Ext2.blk hE1 x7
  obtain ⟨n6, hn6⟩ : ∃ n, n = w.heap.size + 1 + 1 := ⟨_, rfl⟩
  obtain ⟨n7, hn7⟩ : ∃ n, n = w.heap.size + 1 + 1 + 1 := ⟨_, rfl⟩
  have hs1 := hb1.size
  rw [← hn6] at x6; rw [← hn7] at x7
  have l67 : n6 < n7 := by omega
  have l6 : w.heap.size ≤ n6 := by omega
  have l7 : n7 < w1.heap.size := by omega
  try rw [← hn7]
  try rw [← hn6]
  clear hb1 hn6 hn7 hE1 hB0
  by_cases h0 : x = 0
  case neg =>
    rw [if_neg h0] at ho
    subst ho
    have H0 := Lib.hid h0; have HB1 := Lib.hid hB1
    clear h0 hB1
    go_wp2_with (fail)
    have y6 := Eq.trans (blk_set x7 0 (.int .i64 x)) rfl
    have y5 := blk_set_ne (b' := n7) (o := 0) (v := .int .i64 x) x6 (by omega)
    have yc := cell_blk y6; have yd := cell_blk y5
    refine leaveM_panic x7 ?_
    refine ⟨.tuple #[.slice none 0 0, .int .i64 x], ?_, breakPost_no HX.out.symm H0.out (below_set HB1.out (by omega))⟩
    simp [results, Tryd.results33, go_sem, yc, yd]
  case pos =>
    rw [if_pos h0] at ho
    obtain ⟨b, gm, km, SB, gs, ps, ws, rb, rfl, hop⟩ := ho
    have HOP := Lib.hid hop; have HB1 := Lib.hid hB1
    clear hop hB1
    go_wp2_with (fail)
    refine (linesF_any _ _).mono ?_
    rintro e w2 ⟨rfl, h2⟩
    have hE2 : Ext2 w1 w2 := by rw [h2]; exact below_alloc' _ _
    obtain ⟨lb, hlb⟩ : ∃ n, n = w1.heap.size := ⟨_, rfl⟩
    have xl : w2.heap[lb]? = some (.cells #[.pointer (some ⟨SB, 0, none⟩)] 96 (0, 0)) := by rw [h2, hlb]; exact blk_new _ _
    have x6 := Ext2.blk hE2 x6; have x7 := Ext2.blk hE2 x7
    have HB2 := Lib.hid (below_ext HB1.out hE2)
    have HOP2 := Lib.hid ((HOP.out.below hE2).at_ HFO.out HB00.out)
    rw [← hlb]
    obtain ⟨hk, hro⟩ := rul_ok (F := F) (R := R) (by have h := HX.out; unfold openE at h; split at h <;> omega)
    have hwe : wordsE F R t = 0 := by have h := HX.out; unfold openE at h; split at h <;> omega
    have htx := text_ok (R := R) (t := t) hk hwe
    obtain ⟨P, hP⟩ : ∃ P, P = partsS t := ⟨_, rfl⟩
    rw [← hP] at HOP2 htx
    have HP := Lib.hid hP; have HTX := Lib.hid htx; have HK := Lib.hid hk; have HRO := Lib.hid hro
    have hlo := lines_ok htx; have h40 := htx.n40
    have l72 : n7 < w2.heap.size := by have := hE2.size; omega
    subst h0
    clear h2 hE2 hlb HOP HB1 hP htx hk hro hwe l7
    go_wp2_with (fail)
    refine wp_aname ?_
    intro a0 ha0
    refine ss_out (gf := 81) (lb := #[.pointer (some ⟨lb, 0, none⟩)]) (by rw [ha0]; rfl) (enters_of Tryd.func81 (by kernel_rfl) rfl) (linesIter (lb := lb) (w0 := w) (s := s) (b := b) (gm := gm) (km := km) (SB := SB) (gs := gs) (ps := ps) (ws := ws) (rb := rb) HK.out HRO.out HTX.out) (ts := [71, 65]) (by decide) (fun _ => rfl)
      (fun k W => BrkSt w w2 W F R P n6 n7 k)
      (fun k a' W => ∃ b9, W.heap[b9]? = some (.cells #[.int .i64 (linS F R P k).from_, .int .i64 (linS F R P k).until_, .int .i64 (linS F R P k).wide, .int .i64 (linS F R P k).cost] 71 (0, 0)) ∧ b9 ≠ n6 ∧ b9 ≠ n7 ∧ BrkSt w w2 W F R P n6 n7 k ∧ a' = { tmps := ((a0.tmps.setIfInBounds 15 (.int .i64 (k : Int))).setIfInBounds 16 (.agg #[.int .i64 (linS F R P k).from_, .int .i64 (linS F R P k).until_, .int .i64 (linS F R P k).wide, .int .i64 (linS F R P k).cost])).setIfInBounds 9 (.pointer (some ⟨b9, 0, none⟩)), defers := [] })
      (fun _ _ _ => False) ?hI ?hJ (fun _ _ _ _ h _ => h.elim) ?hBB ?hp0 ?h0 ?assign ?body ?done (fun _ _ _ _ _ _ h _ => h.elim)
    case hI => exact fun k W W' h hs => h.sd hs (by omega) (by decide) (by decide) (by decide)
    case hJ =>
      rintro k a' W W' ⟨b9, h1, h2, h3, h4, h5⟩ hs
      exact ⟨b9, hs.keep _ _ _ _ h1 (by decide), h2, h3, h4.sd hs (by omega) (by decide) (by decide) (by decide), h5⟩
    case hBB => exact by have := HOP2.out.bel.size; omega
    case hp0 => exact fun W hW => ⟨Ext2.blk hW xl, (HOP2.out.below hW).toI⟩
    case h0 => exact ⟨HB2.out, Nat.le_refl _, x7, _, x6, own_nil _ _ _ _ _⟩
    case assign =>
      rintro l k W hk hi
      subst ha0
      gi_wp2
      have hsz := hi.bel.size
      have h6 := hi.lns
      obtain ⟨v6, y6, -⟩ := h6
      have h6 := blk_lt y6
      have h7 := blk_lt hi.err
      exact ⟨Bd.ext (below_alloc' _ _) hsz, W.heap.size, blk_new _ _, by omega, by omega, hi.sd (Sd.alloc (B := w.heap.size) (ts := []) _ hsz) (Nat.le_refl _) (by decide) (by decide) (by decide), by simp only [List.setIfInBounds_toArray, List.set_cons_succ, List.set_cons_zero]⟩
    case body =>
      rintro l k a' W hl hr hk ⟨b9, x9, n96, n97, hS, rfl⟩
      subst ha0
      obtain ⟨hB, hz, x7, v, x6, hO⟩ := hS
      simp only [List.setIfInBounds_toArray, List.set_cons_succ, List.set_cons_zero]
      have q9c := cell_blk x9
      have q9f := frz_blk x9
      have q6c := cell_blk x6
      have q6f := frz_blk x6
      obtain ⟨⟨a', cp⟩, hsl, -⟩ := hO.sl
      subst hsl
      have HO := Lib.hid hO
      have hz' : w.heap.size ≤ W.heap.size := hB.size
      have h40k : k ≤ 40 := by omega
      clear hO
      dsimp only at q6c x6
      repeat (first | (refine round_region_list (by kernel_rfl) (by rintro ⟨a_, w_, h_⟩; exact h_) ?_) | go_values | gi_guarded | gi_step)
      go_wp2_with (at_builtin; go_loud (refine app_one [.int .i64 (linS F R P k).from_, .int .i64 (linS F R P k).until_, .int .i64 (linS F R P k).wide, .int .i64 (linS F R P k).cost] elLn rfl _ _ rfl w2.heap.size rfl (HO.out.below (below_alloc' _ _)) W.heap.size 1 rfl (blk_new _ _) (by simp [Value.oneCell']) (by omega) (by simp; omega) ?_); intro v' w7 hO7 hg7; obtain ⟨⟨a2, c2⟩, rfl, -⟩ := hO7.sl; have x6 := app_keeps (HO.out.below (below_alloc' _ _)) hg7 (blk_alloc x6 _) (by omega); have x7 := app_keeps (HO.out.below (below_alloc' _ _)) hg7 (blk_alloc x7 _) (by omega); have q6c := cell_blk x6; have q6f := frz_blk x6)
      have hb0 : Bd w.heap.size [71, 65] W w7 := by
        refine (Bd.ext (below_alloc' _ _) hz').trans (Bd.grown hg7 (by simp; omega) fun g hgk => ?_)
        obtain ⟨cur, hc⟩ := ownR_cells (HO.out.below (below_alloc' _ _)) hgk
        exact ⟨by have := own_block HO.out g hgk; omega, cur, _, _, hc, by decide⟩
      refine ⟨hb0.trans (Bd.set x6 (by decide) (by omega) _), hB.trans ((hb0.bel).trans (below_set (Below.refl _ _) (by omega))), ?_, ?_, ?_⟩
      · rw [World.size_setCell]; exact Nat.le_trans hz hb0.bel.size
      · exact blk_set_ne x7 (by omega)
      · refine ⟨_, Eq.trans (blk_set x6 _ _) rfl, ?_⟩
        have hx : (⟨some ⟨n6, 0, none⟩, 0⟩ : Sl).a = some ⟨n6, 0, none⟩ := rfl
        refine OwnR.congr (hO7.sd (B := w.heap.size) (ts := [65]) (Sd.set x6 (by decide) (by omega) _) (by decide)) fun i j hi hj => ?_
        by_cases hik : i = k
        · subst hik
          have hj4 : j < 4 := hj
          rw [upd_at]
          rcases (by omega : j = 0 ∨ j = 1 ∨ j = 2 ∨ j = 3) with rfl | rfl | rfl | rfl <;> rfl
        · rw [upd_lt (by omega)]
    case done =>
      rintro d W hd hS hD
      subst ha0
      obtain ⟨hB, hz, x7, v, x6, hO⟩ := hS
      obtain ⟨⟨a', cp⟩, rfl, hrow⟩ := hO.sl
      have q6c := cell_blk x6
      have q6f := frz_blk x6
      have q7c := cell_blk x7
      have q7f := frz_blk x7
      go_wp2_with (fail)
      have y6 := Eq.trans (blk_set_ne (b' := n7) (o := 0) (v := .int .i64 0) (blk_set x6 0 (.slice a' (nLines F R P) cp)) (by omega)) rfl
      have y7 := Eq.trans (blk_set (blk_set_ne (b' := n6) (o := 0) (v := .slice a' (nLines F R P) cp) x7 (by omega)) 0 (.int .i64 0)) rfl
      have yd := blk_set_ne (b' := n7) (o := 0) (v := .int .i64 0) (blk_set_ne (b' := n6) (o := 0) (v := .slice a' (nLines F R P) cp) hD (by omega)) (by omega)
      have hb := below_set (o := 0) (v := .int .i64 0) (below_set (o := 0) (v := .slice a' (nLines F R P) cp) hB l6) (show w.heap.size ≤ n7 by omega)
      have hrow' := (RowS.same hrow (w' := (W.setCell ⟨n6, 0, none⟩ (.slice a' (nLines F R P) cp)).setCell ⟨n7, 0, none⟩ (.int .i64 0)) (fun g off hg => by
        have h1 := own_block hO g (by rw [show a' = some ⟨g, off, none⟩ from hg]; rfl)
        rw [set_oth _ _ (by omega), set_oth _ _ (by omega)]))
      generalize (W.setCell ⟨n6, 0, none⟩ (.slice a' (nLines F R P) cp)).setCell ⟨n7, 0, none⟩ (.int .i64 0) = wz at *
      refine leaveM_take (by simp) yd ?_
      refine leaveM_done ?_
      have z6 := blk_put (d := d) (o := .deferred none) y6 (by omega)
      have z7 := blk_put (d := d) (o := .deferred none) y7 (by omega)
      have zc := cell_blk z6; have zd := cell_blk z7
      refine ⟨.tuple #[.slice a' (nLines F R P) cp, .int .i64 0], ?_, ?_⟩
      · simp [results, Tryd.results33, go_sem, zc, zd]
      · refine ⟨⟨.slice a' (nLines F R P) cp, by rw [← HX.out], ?_⟩, below_put hb (by omega)⟩
        rw [← HX.out, if_pos rfl, ← HP.out]
        refine ⟨⟨a', cp⟩, by rw [breaks_len], ?_⟩
        have hr2 := RowS.same hrow' (w' := wz.putObj d (.deferred none)) (fun g off hg => World.putObj_heap_other (fun hgd => by
          obtain ⟨cur, hc⟩ := ownR_cells hO (k := g) (by rw [show a' = some ⟨g, off, none⟩ from hg]; rfl)
          rw [hgd, hD] at hc; cases hc))
        rw [breaks_len]
        exact ⟨hr2.le, hr2.max, fun i j hi hj => by
          obtain ⟨b1, o1, h1, h2⟩ := hr2.cell i j hi hj
          exact ⟨b1, o1, h1, by rw [h2, breaks_at _ _ _ hi]⟩⟩
end Go.Proofs.YtahgbecfaihfpaaDoor
namespace Go.Proofs.YtahgbecfaihfpaaDoor.D
def restL (F : Font) (R : Rul) (P : List ByteArray) : List Int := (List.range (P.length + 1)).map (fun i => (restS F R P i).cost)
theorem rest_len (F : Font) (R : Rul) (P : List ByteArray) : (restL F R P).length = P.length + 1 := by simp [restL]
theorem restL_at (F : Font) (R : Rul) (P : List ByteArray) {i : Nat} (h : i < P.length + 1) : intD (restL F R P) i = (restS F R P i).cost := by
  simp [intD, restL, List.getD_eq_getElem?_getD, h]
end Go.Proofs.YtahgbecfaihfpaaDoor.D
namespace Go.Proofs.YtahgbecfaihfpaaDoor
open Go.RowKit D
set_option linter.unusedVariables false
set_option linter.unusedSimpArgs false
attribute [local go_sem high] run_minI run_maxI
attribute [local go_sem] upon2 cls_cell cls_frozen forall_const exists_eq_left'
attribute [local go_sem] FirstUpon
def IntsV (w : World) (l : List Int) (v : Value) : Prop := ∃ sl : Sl, v = .slice sl.a l.length sl.cap ∧ IntsT w sl l
def RestPost (w : World) (F : Font) (R : Rul) (t : ByteArray) (e : Ending) (w' : World) : Prop :=
  (∃ v, e = .returned (.tuple #[v, .int .i64 (openE F R t)]) ∧ if openE F R t = 0 then IntsV w' (restL F R (partsS t)) v else v = .slice none 0 0) ∧ Below w.heap.size w w'
theorem restPost_no {w w' : World} {F : Font} {R : Rul} {t : ByteArray} {x : Int} (h : openE F R t = x) (h0 : x ≠ 0) (hb : Below w.heap.size w w') : RestPost w F R t (.returned (.tuple #[.slice none 0 0, .int .i64 x])) w' :=
  ⟨⟨.slice none 0 0, by rw [h], by rw [if_neg (by rw [h]; exact h0)]⟩, hb⟩
/-- What is known of a text that is accepted. -/
theorem open_ok {F : Font} {R : Rul} {t : ByteArray} (h : openE F R t = 0) : FontOk F ∧ RulOk F R ∧ TextOk F R (partsS t) := by
  have h1 : checkRul F R = 0 := by unfold openE at h; split at h <;> omega
  have h2 : wordsE F R t = 0 := by unfold openE at h; split at h <;> omega
  obtain ⟨hk, hr⟩ := rul_ok h1
  exact ⟨hk, hr, text_ok hk h2⟩
set_option maxRecDepth 100000 in
set_option maxHeartbeats 2000000 in
theorem rest_any {F : Font} {s : FSl} {R : Rul} {t : ByteArray} {w : World} (hF : FontAt w F s) (hm : MaxAt w) : Calls Tryd.prog 25 #[.agg #[.int .i64 F.high, .int .i64 F.space, .slice s.g.a F.glyphs.length s.g.cap, .slice s.k.a F.kerns.length s.k.cap], .agg #[.int .i64 R.measure, .int .i64 R.lines, .int .i64 R.lead, .int .i64 R.short, .int .i64 R.extra, .int .i64 R.ink], .string t] w (RestPost w F R t) := by
  have HO : Hid (∀ W, Below w.heap.size w W → Calls Tryd.prog 54 #[.agg #[.int .i64 F.high, .int .i64 F.space, .slice s.g.a F.glyphs.length s.g.cap, .slice s.k.a F.kerns.length s.k.cap], .agg #[.int .i64 R.measure, .int .i64 R.lines, .int .i64 R.lead, .int .i64 R.short, .int .i64 R.extra, .int .i64 R.ink], .string t] W (OpenOut W F s R t)) := Lib.hid fun W hW => open_any (hF.below hW) (hm.below hW)
  obtain ⟨x, hx⟩ : ∃ x, x = openE F R t := ⟨_, rfl⟩
  have HX := Lib.hid hx
  clear hF hm hx
  go_enter_defers Tryd.func25, Tryd.ntmps25
  go_wp2_with (fail)
  refine calls_name ?_
  intro wo hwo
  have hB0 : Below w.heap.size w wo := by rw [hwo]; repeat' (first | exact Below.refl _ _ | assumption | refine below_drewN ?_ _ | refine Below.drew ?_ | refine Below.alloc ?_ (by first | assumption | omega | (simp <;> omega)) _ | refine Below.setCell ?_ (by first | assumption | omega | (simp <;> omega)) _ | refine Ext2.on (by assumption) ?_)
  have x7 : wo.heap[w.heap.size + 1 + 1]? = some (Obj.cells #[.int .i64 0] 27) := by rw [hwo]; repeat' (first | (with_reducible assumption) | (with_reducible refine blk_set_ne ?_ ?_) | (with_reducible exact blk_new _ _) | (with_reducible refine blk_new' _ _ (by first | (with_reducible rfl) | (simp; done) | (simp <;> omega))) | (with_reducible refine blk_alloc ?_ _) | (with_reducible refine blk_drew ?_) | (with_reducible refine blk_drewN ?_ _) | (with_reducible refine Ext2.blk (by assumption) ?_) | omega | (simp <;> omega) | exact blk_set (by assumption) _ _)
  clear hwo
  (with_reducible refine (HO.out _ hB0).mono ?_)
  intro e w1 ho
  unfold OpenOut at ho
  rw [← HX.out] at ho
  obtain ⟨ho, hb1⟩ := ho
  have hE1 : Ext2 wo w1 := hb1
  have hB1 : Below w.heap.size w w1 := below_ext hB0 hE1
  have x7 := Ext2.blk hE1 x7
  obtain ⟨n7, hn7⟩ : ∃ n, n = w.heap.size + 1 + 1 := ⟨_, rfl⟩
  rw [← hn7] at x7
  have l7 : w.heap.size ≤ n7 := by omega
  try rw [← hn7]
  clear hb1 hn7 hE1 hB0
  by_cases h0 : x = 0
  case neg =>
    rw [if_neg h0] at ho
    subst ho
    have H0 := Lib.hid h0; have HB1 := Lib.hid hB1
    clear h0 hB1
    go_wp2_with (fail)
    have y6 := Eq.trans (blk_set x7 0 (.int .i64 x)) rfl
    have yc := cell_blk y6
    refine leave_panic x7 ?_
    refine ⟨.tuple #[.slice none 0 0, .int .i64 x], ?_, restPost_no HX.out.symm H0.out (below_set HB1.out l7)⟩
    simp [results, Tryd.results25, go_sem, yc]
  case pos =>
    rw [if_pos h0] at ho
    obtain ⟨b, gm, km, SB, gs, ps, ws, rb, rfl, hop⟩ := ho
    subst h0
    obtain ⟨hk, hro, htx⟩ := open_ok HX.out.symm
    obtain ⟨P, hP⟩ : ∃ P, P = partsS t := ⟨_, rfl⟩
    rw [← hP] at hop htx
    have h40 := htx.n40
    have HP := Lib.hid hP
    have HOP := Lib.hid hop; have HB1 := Lib.hid hB1; have HX7 := Lib.hid x7
    have xS := hop.sh
    have l71 := blk_lt x7
    clear hop hB1 hP hk hro htx x7
    have qSc := cell_blk xS
    have qSf := frz_blk xS
    go_wp2_with (fail)
    go_loopw [18, 6] (fun p v wr => ∃ (k : Nat), p = .int .i64 (k : Int) ∧ k ≤ P.length + 1 ∧ Below w1.heap.size w1 wr ∧ OwnR wr w1.heap.size 3 1 v k (fun i _ => .int .i64 (restS F R P i).cost)) (fun p _ _ => P.length + 1 - (intOf p).toNat)
    case atStart => exact ⟨0, rfl, by omega, Below.refl _ _, own_nil _ _ _ _ _⟩
    case round =>
      obtain ⟨k, rfl, hk, hB, hO⟩ := hrel
      have HO := Lib.hid hO; have HB := Lib.hid hB
      have l1r := hB.size
      clear hO hB qSc qSf xS
      by_cases hlt : k < P.length + 1
      · go_light
        obtain ⟨c0, c1, c2⟩ := (HOP.out.below HB.out).cells (i := k) (by omega)
        obtain ⟨C, hC⟩ : ∃ C, C = (restS F R P k).cost := ⟨_, rfl⟩
        rw [← hC] at c0
        have HC := Lib.hid hC
        have r0 : (0 : Int) ≤ (k : Int) := by omega
        have r1 : (k : Int) < (P.length : Int) + 1 := by omega
        have w3' : IntKind.i64.wrap ((k : Int) + 1) = (k : Int) + 1 := IntWalk.i64_in _ (by omega)
        clear hC
        go_wp2_with (at_builtin; refine app_one [.int .i64 C] elInt rfl _ _ rfl w1.heap.size rfl ((HO.out.below (below_alloc' _ _)).below (below_alloc' _ _)) (wr.heap.size + 1) 1 rfl (blk_new' _ _ (by simp)) (by simp [Value.oneCell']) (by omega) (by simp; omega) ?_; intro v' w7 hO7 hg7)
        have hB7 : Below w1.heap.size w1 w7 := app_below ((HB.out.alloc (by omega) _).alloc (by simp; omega) _) ((HO.out.below (below_alloc' _ _)).below (below_alloc' _ _)) (Nat.le_refl _) (by simp; omega) hg7
        have hO7' : OwnR w7 w1.heap.size 3 1 v' (k + 1) (fun i _ => .int .i64 (restS F R P i).cost) := hO7.congr fun i j hi hj => by
          by_cases hik : i = k
          · subst hik
            obtain rfl : j = 0 := by have : j < 1 := hj; omega
            rw [upd_at, ← HC.out]; rfl
          · rw [upd_lt (by omega)]
        have HO7 := Lib.hid hO7'
        clear hO7 hg7 hO7'
        go_roundw
        case rel => exact ⟨k + 1, by go_num, by omega, hB7, HO7.out⟩
        case measure => simp [intOf]; omega
      · obtain rfl : k = P.length + 1 := by omega
        obtain ⟨⟨a', cp⟩, rfl, hro⟩ := HO.out.sl
        have x7 := Ext2.blk HB.out HX7.out
        have r8 : ¬ (P.length : Int) + 1 < (P.length : Int) + 1 := by omega
        have hty := own_ty HO.out
        have HRO := Lib.hid hro; have HTY := Lib.hid hty
        clear hlt hro hty
        have q7c := cell_blk x7
        have q7f := frz_blk x7
        go_wp2_with (fail)
        have y7 := Eq.trans (blk_set x7 0 (.int .i64 0)) rfl
        have yc := cell_blk y7
        refine leave_done ?_
        refine ⟨.tuple #[.slice a' (P.length + 1) cp, .int .i64 0], ?_, ?_⟩
        · simp [results, Tryd.results25, go_sem, yc]
        · refine ⟨⟨.slice a' (P.length + 1) cp, by rw [← HX.out], ?_⟩, below_set (below_ext HB1.out HB.out) l7⟩
          rw [← HX.out, if_pos rfl, ← HP.out]
          refine ⟨⟨a', cp⟩, by rw [rest_len], IntsT.set ⟨?_, HTY.out⟩ x7 (by decide)⟩
          exact ⟨by rw [rest_len]; exact HRO.out.le, HRO.out.max, fun i j hi hj => by
            rw [rest_len] at hi
            obtain ⟨b1, o1, h1, h2⟩ := HRO.out.cell i j hi hj
            exact ⟨b1, o1, h1, by rw [h2]; unfold intC; rw [restL_at _ _ _ hi]⟩⟩
end Go.Proofs.YtahgbecfaihfpaaDoor
