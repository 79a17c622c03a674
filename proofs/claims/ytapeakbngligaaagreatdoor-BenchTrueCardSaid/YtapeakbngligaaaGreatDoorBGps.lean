/-
  (*bench.table).gaps.
-/
import Derived.Test.YtapeakbngligaaaGreatDoorBTld
import Derived.Test.YtapeakbngligaaaGreatDoorBReg
namespace Go.Proofs.YtapeakbngligaaaGreatDoor.D
def gst (N : List Note) (F k : Nat) : List Gap × List Strike := ((pieceK N F).take k).foldl (gapS N) ([], [])
theorem gst_succ {N : List Note} {F k : Nat} (hk : k < (pieceK N F).length) : gst N F (k + 1) = gapS N (gst N F k) (pcD (pieceK N F) k) := by
  unfold gst
  rw [List.take_succ_eq_append_getElem hk, List.foldl_append]
  unfold pcD; rw [List.getD_eq_getElem?_getD, List.getElem?_eq_getElem hk]; rfl
theorem struck_le {f : Int} : ∀ {l : List Note} {t : D.Told}, (l.foldl (toldS f) t).struck.length ≤ t.struck.length + l.length
  | [], t => by simp
  | x :: l, t => by
    rw [List.foldl_cons]
    have h1 := struck_le (f := f) (l := l) (t := toldS f t x)
    have h2 : (toldS f t x).struck.length ≤ t.struck.length + 1 := by
      unfold toldS
      split
      · omega
      · split
        · dsimp only; omega
        · split <;> simp
    simp only [List.length_cons]; omega
theorem told_len (N : List Note) (f : Int) : (toldV N f).struck.length ≤ N.length := by
  have := struck_le (f := f) (l := N) (t := ⟨none, ⟨0, 400000⟩, []⟩)
  unfold toldV; simpa using this
theorem gst_le {N : List Note} (hN : N.length ≤ 60) {F : Nat} : ∀ {k : Nat}, k ≤ (pieceK N F).length → (gst N F k).1.length ≤ k ∧ (gst N F k).2.length ≤ 60 * k ∧ ((gst N F k).1 = [] → (gst N F k).2 = [])
  | 0, _ => by simp [gst]
  | k + 1, h => by
    obtain ⟨h1, h2, h3⟩ := gst_le hN (F := F) (k := k) (by omega)
    rw [gst_succ (by omega)]
    unfold gapS
    have ht := told_len N (pcD (pieceK N F) k).from_
    split
    · exact ⟨by omega, by omega, h3⟩
    · split
      · simp; omega
      · simp; omega
end Go.Proofs.YtapeakbngligaaaGreatDoor.D
namespace Go.Proofs.YtapeakbngligaaaGreatDoor
open Go.RowKit D
set_option linter.unusedVariables false
set_option linter.unusedSimpArgs false
attribute [local go_sem high] run_minI run_maxI
attribute [local go_sem] upon2 cls_cell cls_frozen forall_const exists_eq_left'
attribute [local go_sem] FirstUpon atBlk_cell Oper.semAt_some at2_cell at2_cell' at3_cell at3_cell' at3_cell2
theorem OwnR.sb {W W' : World} {A C base : Nat} {e : TypeId} {sz : Nat} {v : Value} {n : Nat} {c : Nat → Nat → Value} (h : OwnR W base e sz v n c) (hs : Sb A C W W') (hb : C ≤ base) : OwnR W' base e sz v n c := by
  obtain ⟨hl, ⟨h0, h1⟩ | ⟨g, cap, cur, h1, h2, hg, h3⟩⟩ := h
  · exact ⟨hl, .inl ⟨h0, h1⟩⟩
  · exact ⟨hl, .inr ⟨g, cap, cur, h1, h2, hs.keep _ _ _ _ (by omega) hg, h3⟩⟩
/-- Between two rounds of gaps. -/
structure GpsI (N : List Note) (F B n1 n2 n3 n4 : Nat) (w : World) (C k : Nat) (W : World) : Prop where
  bel : Below w.heap.size w W
  sz : C ≤ W.heap.size
  box : W.heap[n1]? = some (.cells #[.pointer (some ⟨B, 0, none⟩)] 84 (0, 0))
  span : W.heap[n4]? = some (Obj.cells #[.int .i64 (0), .int .i64 (400000)] 23)
  gap : ∃ gv, W.heap[n2]? = some (.cells #[gv] 44 (0, 0)) ∧ OwnR W C 49 4 gv (gst N F k).1.length (gpC (gst N F k).1)
  str : ∃ sv, W.heap[n3]? = some (.cells #[sv] 45 (0, 0)) ∧ OwnR W C 63 4 sv (gst N F k).2.length (skC (gst N F k).2)
theorem GpsI.sb {N : List Note} {F B n1 n2 n3 n4 A : Nat} {w : World} {C k : Nat} {W W' : World} (h : GpsI N F B n1 n2 n3 n4 w C k W) (hs : Sb A C W W') (hA : w.heap.size ≤ n1 ∧ n1 < n2 ∧ n2 < n3 ∧ n3 < n4 ∧ n4 < A) : GpsI N F B n1 n2 n3 n4 w C k W' := by
  obtain ⟨h1, h2, h3, h4, ⟨gv, h5, h6⟩, ⟨sv, h7, h8⟩⟩ := h
  exact ⟨h1.trans (hs.bel.mono (by omega)), Nat.le_trans h2 hs.bel.size, (hs.bel.block _ (by omega)).trans h3, (hs.bel.block _ (by omega)).trans h4, ⟨gv, (hs.bel.block _ (by omega)).trans h5, h6.sb hs (Nat.le_refl _)⟩, ⟨sv, (hs.bel.block _ (by omega)).trans h7, h8.sb hs (Nat.le_refl _)⟩⟩
theorem GpsI.ext {N : List Note} {F B n1 n2 n3 n4 : Nat} {w : World} {C k : Nat} {W W' : World} (h : GpsI N F B n1 n2 n3 n4 w C k W) (hs : Ext2 W W') : GpsI N F B n1 n2 n3 n4 w C k W' := by
  obtain ⟨h1, h2, h3, h4, ⟨gv, h5, h6⟩, ⟨sv, h7, h8⟩⟩ := h
  exact ⟨below_ext h1 hs, Nat.le_trans h2 hs.size, hs.blk h3, hs.blk h4, ⟨gv, hs.blk h5, h6.below hs⟩, ⟨sv, hs.blk h7, h8.below hs⟩⟩
def gpsT (n2 n3 A : Nat) (C g : Nat) (_ : TypeId) : Prop := g = n2 ∨ g = n3 ∨ (C ≤ g ∧ A ≤ g)
theorem PicAt.bw {bx : Nat} {T : Task} {t : TSl} {N : List Note} {ns : Sl} {B g F n2 n3 A C : Nat} {w W W' : World} (h0 : Tab w T t N ns B g F) (h : PicAt bx T t N ns B g F W) (hb : Bw w.heap.size (gpsT n2 n3 A C) W W') (h2 : n2 < bx) (h3 : n3 < bx) (hA : bx < A) : PicAt bx T t N ns B g F W' :=
  ⟨hb.blk h.box (by unfold gpsT; omega), h0.above h.tab hb.bel⟩
def GpsOut (w : World) (N : List Note) (F : Nat) (e : Ending) (w' : World) : Prop := (∃ s1 s2 : Sl, e = .returned (.tuple #[.slice s1.a (gapsN F N).1.length s1.cap, .slice s2.a (gapsN F N).2.length s2.cap]) ∧ GapsS w' s1 (gapsN F N).1 ∧ StrikesS w' s2 (gapsN F N).2) ∧ Below w.heap.size w w'
/-- Within a round. -/
structure GpsM (B n1 n2 n3 n4 A C : Nat) (w W0 : World) (nG : Nat) (cG : Nat → Nat → Value) (nK : Nat) (cK : Nat → Nat → Value) (gv sv hv kv : Value) (W : World) : Prop where
  bw : Bw w.heap.size (gpsT n2 n3 A C) W0 W
  bel : Below w.heap.size w W
  sz : C ≤ W.heap.size
  box : W.heap[n1]? = some (.cells #[.pointer (some ⟨B, 0, none⟩)] 84 (0, 0))
  span : W.heap[n4]? = some (Obj.cells #[.int .i64 (0), .int .i64 (400000)] 23)
  g : W.heap[n2]? = some (.cells #[hv] 44 (0, 0))
  k : W.heap[n3]? = some (.cells #[kv] 45 (0, 0))
  og : OwnR W C 49 4 gv nG cG
  ok : OwnR W C 63 4 sv nK cK
theorem skC_left {A B : List Strike} {i j : Nat} (hi : i < A.length) : skC (A ++ B) i j = skC A i j := by
  have : skD (A ++ B) i = skD A i := by unfold skD; rw [List.getD_eq_getElem?_getD, List.getD_eq_getElem?_getD, List.getElem?_append_left hi]
  unfold skC; rw [this]
theorem skC_right {A B : List Strike} {i j : Nat} : skC (A ++ B) (A.length + i) j = skC B i j := by
  have : skD (A ++ B) (A.length + i) = skD B i := by unfold skD; rw [List.getD_eq_getElem?_getD, List.getD_eq_getElem?_getD, List.getElem?_append_right (by omega), Nat.add_sub_cancel_left]
  unfold skC; rw [this]
structure GpsN (n1 n2 n3 n4 A C : Nat) (w : World) : Prop where
  a : w.heap.size ≤ n1
  b : n1 < n2
  c : n2 < n3
  d : n3 < n4
  e : n4 < A
  f : A ≤ C
section
variable {B n1 n2 n3 n4 A C : Nat} {w W0 W W' : World} {nG nK : Nat} {cG cK : Nat → Nat → Value} {gv sv hv kv : Value}
theorem GpsM.ext (h : GpsM B n1 n2 n3 n4 A C w W0 nG cG nK cK gv sv hv kv W) (hE : Ext2 W W') : GpsM B n1 n2 n3 n4 A C w W0 nG cG nK cK gv sv hv kv W' :=
  ⟨h.bw.trans (Bw.ext hE h.bel.size), below_ext h.bel hE, Nat.le_trans h.sz hE.size, hE.blk h.box, hE.blk h.span, hE.blk h.g, hE.blk h.k, h.og.below hE, h.ok.below hE⟩
theorem own_other {base base2 : Nat} {e e2 : TypeId} {sz sz2 : Nat} {v v2 : Value} {n n2 : Nat} {c c2 : Nat → Nat → Value} (hO : OwnR W base e sz v n c) (hg : W.grownBy W' v.ownBlock) (h2 : OwnR W base2 e2 sz2 v2 n2 c2) (ht : e2 ≠ e) : OwnR W' base2 e2 sz2 v2 n2 c2 := by
  refine h2.kept hg ?_
  cases hv : v2.ownBlock with
  | none => exact .inl rfl
  | some b =>
    refine .inr fun he => ?_
    obtain ⟨cur, h3⟩ := ownR_cells h2 hv
    obtain ⟨cur2, h4⟩ := ownR_cells hO he.symm
    rw [h3] at h4
    simp only [Option.some.injEq, Obj.cells.injEq] at h4
    exact ht h4.2.1
theorem own_keep {base : Nat} {e : TypeId} {sz : Nat} {v : Value} {n : Nat} {c : Nat → Nat → Value} (hO : OwnR W base e sz v n c) (hg : W.grownBy W' v.ownBlock) {b : Nat} {cs : Array Value} {t : TypeId} {f : Nat × Nat} (hb : W.heap[b]? = some (.cells cs t f)) (ht : t ≠ e) : W'.heap[b]? = some (.cells cs t f) := by
  rw [hg.block b (blk_lt hb) ?_]
  · exact hb
  · intro he
    obtain ⟨cur2, h4⟩ := ownR_cells hO he.symm
    rw [hb] at h4
    simp only [Option.some.injEq, Obj.cells.injEq] at h4
    exact ht h4.2.1
theorem GpsM.appG (h : GpsM B n1 n2 n3 n4 A C w W0 nG cG nK cK gv sv hv kv W) (hN : GpsN n1 n2 n3 n4 A C w) (hg : W.grownBy W' gv.ownBlock) {v' : Value} {n' : Nat} {c' : Nat → Nat → Value} (hO : OwnR W' C 49 4 v' n' c') : GpsM B n1 n2 n3 n4 A C w W0 n' c' nK cK v' sv hv kv W' := by
  obtain ⟨a, b, c, d, e, f⟩ := hN
  have hge := own_ge h.og
  have hlo : ∀ q, q < C → W'.heap[q]? = W.heap[q]? := fun q hq => hg.block q (Nat.lt_of_lt_of_le hq h.sz) fun he => by have := hge q he.symm; omega
  exact ⟨h.bw.trans (Bw.grown hg h.bel.size fun q hq => ⟨by have := hge q hq; omega, by obtain ⟨cur, h1⟩ := ownR_cells h.og hq; exact ⟨cur, _, _, h1, .inr (.inr (by have := hge q hq; omega))⟩⟩),
    h.bel.trans ⟨hg.os, hg.tape, hg.output, hg.size, fun q hq => hlo q (by omega)⟩, Nat.le_trans h.sz hg.size, (hlo _ (by omega)).trans h.box, (hlo _ (by omega)).trans h.span, (hlo _ (by omega)).trans h.g, (hlo _ (by omega)).trans h.k, hO, own_other h.og hg h.ok (by decide)⟩
theorem GpsM.appK (h : GpsM B n1 n2 n3 n4 A C w W0 nG cG nK cK gv sv hv kv W) (hN : GpsN n1 n2 n3 n4 A C w) (hg : W.grownBy W' sv.ownBlock) {v' : Value} {n' : Nat} {c' : Nat → Nat → Value} (hO : OwnR W' C 63 4 v' n' c') : GpsM B n1 n2 n3 n4 A C w W0 nG cG n' c' gv v' hv kv W' := by
  obtain ⟨a, b, c, d, e, f⟩ := hN
  have hge := own_ge h.ok
  have hlo : ∀ q, q < C → W'.heap[q]? = W.heap[q]? := fun q hq => hg.block q (Nat.lt_of_lt_of_le hq h.sz) fun he => by have := hge q he.symm; omega
  exact ⟨h.bw.trans (Bw.grown hg h.bel.size fun q hq => ⟨by have := hge q hq; omega, by obtain ⟨cur, h1⟩ := ownR_cells h.ok hq; exact ⟨cur, _, _, h1, .inr (.inr (by have := hge q hq; omega))⟩⟩),
    h.bel.trans ⟨hg.os, hg.tape, hg.output, hg.size, fun q hq => hlo q (by omega)⟩, Nat.le_trans h.sz hg.size, (hlo _ (by omega)).trans h.box, (hlo _ (by omega)).trans h.span, (hlo _ (by omega)).trans h.g, (hlo _ (by omega)).trans h.k, own_other h.ok hg h.og (by decide), hO⟩
theorem GpsM.setG (h : GpsM B n1 n2 n3 n4 A C w W0 nG cG nK cK gv sv hv kv W) (hN : GpsN n1 n2 n3 n4 A C w) (x : Value) : GpsM B n1 n2 n3 n4 A C w W0 nG cG nK cK gv sv x kv (W.setCell ⟨n2, 0, none⟩ x) := by
  obtain ⟨a, b, c, d, e, f⟩ := hN
  exact ⟨h.bw.trans (Bw.set h.g (.inl rfl) (by omega) _), below_set h.bel (by omega), by rw [World.size_setCell]; exact h.sz, blk_set_ne h.box (by omega), blk_set_ne h.span (by omega), Eq.trans (blk_set h.g 0 _) rfl, blk_set_ne h.k (by omega), h.og.above (Above.set (Above.refl _ _) (.inl (by omega))), h.ok.above (Above.set (Above.refl _ _) (.inl (by omega)))⟩
theorem GpsM.setK (h : GpsM B n1 n2 n3 n4 A C w W0 nG cG nK cK gv sv hv kv W) (hN : GpsN n1 n2 n3 n4 A C w) (x : Value) : GpsM B n1 n2 n3 n4 A C w W0 nG cG nK cK gv sv hv x (W.setCell ⟨n3, 0, none⟩ x) := by
  obtain ⟨a, b, c, d, e, f⟩ := hN
  exact ⟨h.bw.trans (Bw.set h.k (.inr (.inl rfl)) (by omega) _), below_set h.bel (by omega), by rw [World.size_setCell]; exact h.sz, blk_set_ne h.box (by omega), blk_set_ne h.span (by omega), blk_set_ne h.g (by omega), Eq.trans (blk_set h.k 0 _) rfl, h.og.above (Above.set (Above.refl _ _) (.inl (by omega))), h.ok.above (Above.set (Above.refl _ _) (.inl (by omega)))⟩
theorem GpsM.done {N : List Note} {F k : Nat} {G : List Gap} {K : List Strike} (h : GpsM B n1 n2 n3 n4 A C w W0 G.length (gpC G) K.length (skC K) gv sv gv sv W) (he : gst N F (k + 1) = (G, K)) : Bw w.heap.size (gpsT n2 n3 A C) W0 W ∧ GpsI N F B n1 n2 n3 n4 w C (k + 1) W :=
  ⟨h.bw, h.bel, h.sz, h.box, h.span, ⟨gv, h.g, by rw [he]; exact h.og⟩, ⟨sv, h.k, by rw [he]; exact h.ok⟩⟩
end
/-- What gaps loads at its end. -/
def GpsAt (n1 B n4 : Nat) (T : Task) (t : TSl) (N : List Note) (ns : Sl) (g F : Nat) (W : World) : Prop := W.heap[n1]? = some (.cells #[.pointer (some ⟨B, 0, none⟩)] 84 (0, 0)) ∧ W.heap[B]? = some (Obj.cells #[.string T.reel.name, .int .i64 T.reel.gauge, .int .i64 T.reel.base, .int .i64 T.reel.frames, .int .i64 T.reel.ylo, .int .i64 T.reel.yhi, .int .i64 T.reel.keep, .slice t.r.m.a T.reel.marks.length t.r.m.cap, .slice t.r.s.a T.reel.syms.length t.r.s.cap, .slice t.r.l.a T.reel.lens.length t.r.l.cap, .int .i64 T.whole.lo, .int .i64 T.whole.hi, .slice t.n.a T.notes.length t.n.cap, .slice ns.a N.length ns.cap, (.slice (some ⟨g, 0, none⟩) (F + 1) (F + 1))] 119) ∧ W.heap[n4]? = some (Obj.cells #[.int .i64 (0), .int .i64 (400000)] 23)
theorem GpsAt.ext {n1 B n4 : Nat} {T : Task} {t : TSl} {N : List Note} {ns : Sl} {g F : Nat} {w : World} (h : GpsAt n1 B n4 T t N ns g F w) : ∀ W, Ext2 w W → GpsAt n1 B n4 T t N ns g F W := fun W hW => ⟨hW.blk h.1, hW.blk h.2.1, hW.blk h.2.2⟩
section
variable {n1 B n4 : Nat} {T : Task} {t : TSl} {N : List Note} {ns : Sl} {g F : Nat} (x : Cls (GpsAt n1 B n4 T t N ns g F)) (o : Nat)
theorem gpsAt_1 : x.1.cell? ⟨n1, o, none⟩ = #[Value.pointer (some ⟨B, 0, none⟩)][o]? := cell_blk x.2.1 o
theorem gpsAt_2 : x.1.cell? ⟨B, o, none⟩ = #[.string T.reel.name, .int .i64 T.reel.gauge, .int .i64 T.reel.base, .int .i64 T.reel.frames, .int .i64 T.reel.ylo, .int .i64 T.reel.yhi, .int .i64 T.reel.keep, .slice t.r.m.a T.reel.marks.length t.r.m.cap, .slice t.r.s.a T.reel.syms.length t.r.s.cap, .slice t.r.l.a T.reel.lens.length t.r.l.cap, .int .i64 T.whole.lo, .int .i64 T.whole.hi, .slice t.n.a T.notes.length t.n.cap, .slice ns.a N.length ns.cap, (.slice (some ⟨g, 0, none⟩) (F + 1) (F + 1))][o]? := cell_blk x.2.2.1 o
theorem gpsAt_3 : x.1.cell? ⟨n4, o, none⟩ = #[Value.int .i64 0, .int .i64 400000][o]? := cell_blk x.2.2.2 o
end
attribute [local go_sem] gpsAt_1 gpsAt_2 gpsAt_3
theorem keepD {W W' : World} {base : Nat} {e : TypeId} {sz : Nat} {v : Value} {n : Nat} {c : Nat → Nat → Value} (hO : OwnR W base e sz v n c) (hg : W.grownBy W' v.ownBlock) {d : Nat} (hd : W.heap[d]? = some (.deferred (some []))) : W'.heap[d]? = some (.deferred (some [])) := by
  rw [hg.block d (blk_lt hd) ?_]
  · exact hd
  · intro he
    obtain ⟨cur, h4⟩ := ownR_cells hO he.symm
    rw [hd] at h4; cases h4
theorem own_putD {W : World} {base : Nat} {e : TypeId} {sz : Nat} {v : Value} {n : Nat} {c : Nat → Nat → Value} (hO : OwnR W base e sz v n c) {d : Nat} (hd : W.heap[d]? = some (.deferred (some []))) : OwnR (W.putObj d (.deferred none)) base e sz v n c := by
  refine hO.kept (grownBy_putObj' W d _) ?_
  cases hv : v.ownBlock with
  | none => exact .inl rfl
  | some b =>
    refine .inr fun he => ?_
    obtain ⟨cur, h4⟩ := ownR_cells hO hv
    cases he
    rw [hd] at h4; cases h4
theorem gapsN_eq {N : List Note} {F : Nat} (hN : N.length ≤ 60) {G : List Gap} {K : List Strike} (h : gst N F (pieceK N F).length = (G, K)) : gapsN F N = (G ++ [⟨F, if G.length = 0 then 1 else 3, 0, 400000⟩], K) := by
  have h0 : (pieceK N F).foldl (gapS N) ([], []) = (G, K) := by rw [← h, gst, List.take_length]
  have h2 := gst_le hN (F := F) (k := (pieceK N F).length) (Nat.le_refl _)
  rw [h] at h2
  unfold gapsN
  rw [h0]
  dsimp only at h2 ⊢
  by_cases hl : G.length = 0
  · have hG : G = [] := List.length_eq_zero_iff.1 hl
    rw [if_pos hl, if_pos hl, h2.2.2 hG, hG]; rfl
  · rw [if_neg hl, if_neg hl]
set_option maxRecDepth 100000 in
set_option maxHeartbeats 8000000 in
theorem gaps_any {T : Task} {t : TSl} {N : List Note} {ns : Sl} {B g F : Nat} {w : World} (hT : Tab w T t N ns B g F) : Calls Tryz.prog 48 #[.pointer (some ⟨B, 0, none⟩)] w (GpsOut w N F) := by
  have HT := Lib.hid hT
  have hle := hT.le
  have hn60 := hT.ok.len
  have HTL := Lib.hid fun (W : World) (hW : Below w.heap.size w W) (f : Int) => told_any (f := f) (hT.below hW).tab (by omega)
  clear hT
  refine calls_of_wp_marks Tryz.func48 rfl ?_
  simp only [Tryz.ntmps48, List.size_toArray, List.length_cons, List.length_nil, Nat.reduceAdd, Nat.reduceSub, Array.replicate_succ, Array.replicate_zero, List.push_toArray, List.append_toArray, List.nil_append, List.cons_append]
  go_upto_region 2 with (fail)
  refine wp_name ?_
  intro w3 hw3
  obtain ⟨n1, hn1⟩ : ∃ n, n = w.heap.size := ⟨_, rfl⟩
  obtain ⟨n2, hn2⟩ : ∃ n, n = n1 + 1 := ⟨_, rfl⟩
  obtain ⟨n3, hn3⟩ : ∃ n, n = n2 + 1 := ⟨_, rfl⟩
  obtain ⟨n4, hn4⟩ : ∃ n, n = n3 + 1 := ⟨_, rfl⟩
  have hf := four_blk w (.cells #[.pointer (some ⟨B, 0, none⟩)] 84 (0, 0)) (.cells #[.slice none 0 0] 44 (0, 0)) (.cells #[.slice none 0 0] 45 (0, 0)) (Obj.cells #[.int .i64 (0), .int .i64 (400000)] 23)
  have x1 : w3.heap[n1]? = some (.cells #[.pointer (some ⟨B, 0, none⟩)] 84 (0, 0)) := by rw [hw3, hn1]; exact hf.1
  have x2 : w3.heap[n2]? = some (.cells #[.slice none 0 0] 44 (0, 0)) := by rw [hw3, hn2, hn1]; exact hf.2.1
  have x3 : w3.heap[n3]? = some (.cells #[.slice none 0 0] 45 (0, 0)) := by rw [hw3, hn3, hn2, hn1]; exact hf.2.2.1
  have x4 : w3.heap[n4]? = some (Obj.cells #[.int .i64 (0), .int .i64 (400000)] 23) := by rw [hw3, hn4, hn3, hn2, hn1]; exact hf.2.2.2.1
  have hE3 : Ext2 w w3 := by rw [hw3]; exact hf.2.2.2.2.2
  have hs3 : w3.heap.size = n4 + 1 := by rw [hw3, hn4, hn3, hn2, hn1]; exact hf.2.2.2.2.1
  have lw : w.heap.size ≤ n1 := by omega
  have l12 : n1 < n2 := by omega
  have l23 : n2 < n3 := by omega
  have l34 : n3 < n4 := by omega
  rw [← hn1, ← hn2, ← hn3, ← hn4]
  have HE3 := Lib.hid hE3; have X1 := Lib.hid x1; have X2 := Lib.hid x2; have X3 := Lib.hid x3; have X4 := Lib.hid x4; have HS3 := Lib.hid hs3
  clear hf hw3 hn1 hn2 hn3 hn4 hE3 x2 x3 x4 hs3
  have q1c := cell_blk x1
  have q1f := frz_blk x1
  clear x1
  go_wp2_with (fail)
  refine (pieces_any _ _).mono ?_
  rintro e w5 ⟨rfl, hw5⟩
  obtain ⟨bx, hbx⟩ : ∃ n, n = w3.heap.size := ⟨_, rfl⟩
  have y5 : w5.heap[bx]? = some (.cells #[.pointer (some ⟨B, 0, none⟩)] 84 (0, 0)) := by rw [hw5, hbx]; exact blk_new _ _
  have hE5' : Ext2 w3 w5 := by rw [hw5]; exact below_alloc' _ _
  have hE5 := ext_trans HE3.out hE5'
  have hs5 : w5.heap.size = bx + 1 := by rw [hw5, hbx]; simp
  have l4b : n4 < bx := by rw [hbx, HS3.out]; omega
  have hm : PicAt bx T t N ns B g F w5 := ⟨y5, HT.out.below hE5⟩
  have HM := Lib.hid hm; have HE5 := Lib.hid hE5
  have X1 := Lib.hid (hE5'.blk X1.out); have X2 := Lib.hid (hE5'.blk X2.out); have X3 := Lib.hid (hE5'.blk X3.out); have X4 := Lib.hid (hE5'.blk X4.out)
  rw [← hbx]
  have lb5 : bx < w5.heap.size := by omega
  have hlw5 : w.heap.size ≤ w5.heap.size := hE5.size
  clear q1c q1f hw5 hbx y5 hE5' hE5 hm hs5 HS3 HE3
  go_wp2_with (fail)
  refine wp_aname ?_
  intro a0 ha0
  refine sb_out (gf := 61) (lb := #[.pointer (some ⟨bx, 0, none⟩)]) (by rw [ha0]; rfl) (enters_of Tryz.func61 (by kernel_rfl) rfl) (pieces_iter (T := T) (t := t) (N := N) (ns := ns) (B := B) (g := g) (F := F) (bx := bx) (A := w.heap.size)) (ts := gpsT n2 n3 w5.heap.size)
    (fun C W1 W2 h1 h2 => PicAt.bw HT.out h1 h2 (by omega) (by omega) lb5) (fun C q _ hq hC => by unfold gpsT; omega) (fun _ => rfl)
    (GpsI N F B n1 n2 n3 n4 w)
    (fun C k a' W => ∃ b5, W.heap[b5]? = some (Obj.cells #[.int .i64 (pcD (pieceK N F) k).from_, .int .i64 (pcD (pieceK N F) k).until_, .bool (pcD (pieceK N F) k).leader] 112) ∧ C ≤ b5 ∧ GpsI N F B n1 n2 n3 n4 w C k W ∧ a' = { tmps := (a0.tmps.setIfInBounds 12 (.agg #[.int .i64 (pcD (pieceK N F) k).from_, .int .i64 (pcD (pieceK N F) k).until_, .bool (pcD (pieceK N F) k).leader])).setIfInBounds 5 (.pointer (some ⟨b5, 0, none⟩)), defers := [] })
    (fun cd C k W => False) ?hI ?hJ ?hX ?hBB ?hp0 ?h0 ?assign ?body ?done ?stop
  case hI => exact fun C k W W' hs hd => hs.sb hd (by omega)
  case hJ =>
    rintro C k a' W W' ⟨b5, h1, h2, h3, h4⟩ hd
    exact ⟨b5, hd.keep _ _ _ _ h2 h1, h2, h3.sb hd (by omega), h4⟩
  case hX => exact fun _ _ _ _ _ h _ => h.elim
  case hBB => omega
  case hp0 => exact fun W hW => HM.out.below hW
  case h0 => exact fun W hW => ⟨below_ext HE5.out hW, Nat.le_refl _, hW.blk X1.out, hW.blk X4.out, ⟨_, hW.blk X2.out, own_nil _ _ _ _ _⟩, ⟨_, hW.blk X3.out, own_nil _ _ _ _ _⟩⟩
  case assign =>
    rintro l9 C k W hk hCl hCW hi
    subst ha0
    gi_wp2
    have hsz := hi.bel.size
    exact ⟨Bw.ext (below_alloc' _ _) hsz, W.heap.size, blk_new _ _, hCW, hi.ext (below_alloc' _ _), by simp only [List.setIfInBounds_toArray, List.set_cons_succ, List.set_cons_zero]⟩
  case body =>
    rintro l9 C k a' W hl9 hlC hr hk hCl hCW ⟨b5, x5, h5, hI, rfl⟩
    subst ha0
    simp only [List.setIfInBounds_toArray, List.set_cons_succ, List.set_cons_zero]
    have hgs := gst_succ hk
    have hgl := gst_le hn60 (F := F) (k := k) (by omega)
    have hpl := pieceK_len N F
    obtain ⟨p, hp⟩ : ∃ p, p = pcD (pieceK N F) k := ⟨_, rfl⟩
    rw [← hp] at x5 hgs ⊢
    obtain ⟨⟨G, K⟩, hst⟩ : ∃ st, st = gst N F k := ⟨_, rfl⟩
    obtain ⟨hbl, hsz, x1, x4, ⟨gv, x2, hG⟩, ⟨sv, x3, hK⟩⟩ := hI
    rw [← hst] at hgs hgl hG hK
    dsimp only at hgl hG hK
    obtain ⟨⟨ga, gc⟩, rfl, hgr⟩ := OwnR.sl hG
    have hgc := hgr.le; have hgm := hgr.max
    obtain ⟨⟨ka, kc⟩, rfl, hkr⟩ := OwnR.sl hK
    dsimp only at hgc hgm x2 x3 hG hK
    obtain ⟨pf, pu, pl⟩ := p
    dsimp only at x5
    obtain ⟨n, hn⟩ : ∃ n, n = G.length := ⟨_, rfl⟩
    obtain ⟨nk, hnk⟩ : ∃ n, n = K.length := ⟨_, rfl⟩
    rw [← hn] at hgc hgl hG x2; rw [← hnk] at hgl hK x3
    have hMM : GpsM B n1 n2 n3 n4 w5.heap.size C w W n (gpC G) nk (skC K) (.slice ga n gc) (.slice ka nk kc) (.slice ga n gc) (.slice ka nk kc) W := ⟨Bw.refl _ _ _, hbl, hsz, x1, x4, x2, x3, hG, hK⟩
    have hNN : GpsN n1 n2 n3 n4 w5.heap.size C w := ⟨lw, l12, l23, l34, by omega, hCl⟩
    have HMM := Lib.hid hMM; have HNN := Lib.hid hNN
    have HG := Lib.hid hG; have HK := Lib.hid hK; have HGS := Lib.hid hgs; have HN := Lib.hid hn; have HNK := Lib.hid hnk; have HBL := Lib.hid hbl
    have HSZ := Lib.hid hsz
    obtain ⟨hb1, hb2, -⟩ := hgl
    clear hgs hG hK hgr hkr hst hp hn hnk hbl hsz hMM hNN
    have HX1 := Lib.hid x1; have HX2 := Lib.hid x2; have HX3 := Lib.hid x3; have HX4 := Lib.hid x4; have HX5 := Lib.hid x5
    have hkF : k ≤ 200000 := by omega
    clear x1 x3
    have q5c := cell_blk x5
    have q5f := frz_blk x5
    cases pl with
    | true =>
      have HF : Hid (gst N F (k + 1) = (G, K)) := Lib.hid (by rw [HGS.out]; rfl)
      clear x2 x4 x5
      gi_wp2
      refine GpsM.done (gv := .slice ga n gc) (sv := .slice ka nk kc) ?_ HF.out
      rw [← HN.out, ← HNK.out]; exact HMM.out
    | false =>
    have q2c := cell_blk x2
    have q2f := frz_blk x2
    by_cases hn0 : n = 0
    · have hb0 : ((n : Int) == 0) = true := by subst hn0; rfl
      have HF : Hid (gst N F (k + 1) = (G ++ [⟨pf, 1, 0, 400000⟩], K)) := Lib.hid (by rw [HGS.out]; unfold gapS; rw [if_neg (by simp), if_pos (by rw [← HN.out, hn0])])
      clear hn0
      have q4c := cell_blk x4
      have q4f := frz_blk x4
      have hn9 : n ≤ 1000000000 := by omega
      have hlW : w.heap.size ≤ W.heap.size := HBL.out.size
      have hC5 : n4 < C := by omega
      repeat (first | (refine round_region_list (by kernel_rfl) (by rintro ⟨a_, w_, h_⟩; exact h_) ?_) | go_values | gi_guarded | gi_step)
      go_wp2_with (fail)
      repeat (first | (refine round_region_list (by kernel_rfl) (by rintro ⟨a_, w_, h_⟩; exact h_) ?_) | go_values | gi_guarded | gi_step)
      go_wp2_with (fail)
      repeat (first | (refine round_region_list (by kernel_rfl) (by rintro ⟨a_, w_, h_⟩; exact h_) ?_) | go_values | gi_guarded | gi_step)
      go_wp2_with (at_builtin; refine app_one_at [.int .i64 pf, .int .i64 1, .int .i64 0, .int .i64 400000] elGap rfl _ _ rfl C rfl (HG.out.below (below_alloc' _ _)) W.heap.size 1 rfl (blk_new _ _) (by simp [Value.oneCell']) hn9 (by have := HSZ.out; simp; omega) ?_; intro v' w7 hO7 hg7 hpl; (obtain ⟨g7, cp7, hv7, hge7, -, -, -, -⟩ := own_some hO7 (by omega)); subst hv7; (have x27 := app_blk HG.out hg7 HX2.out (by decide)); (have q27c := cell_blk x27); (have q27f := frz_blk x27))
      refine GpsM.done (gv := .slice (some ⟨g7, 0, none⟩) (n + 1) cp7) (sv := .slice ka nk kc) ?_ HF.out
      have hM7 := ((HMM.out.ext (below_alloc' _ _)).appG HNN.out hg7 hO7).setG HNN.out (.slice (some ⟨g7, 0, none⟩) (n + 1) cp7)
      rw [HN.out] at hM7 ⊢
      rw [HNK.out] at hM7 ⊢
      rw [List.length_append, List.length_singleton]
      exact ⟨hM7.bw, hM7.bel, hM7.sz, hM7.box, hM7.span, hM7.g, hM7.k, OwnR.congr hM7.og fun i j hi hj => gpC_snoc (x := ⟨pf, 1, 0, 400000⟩) hi hj, hM7.ok⟩
    · have hb0 : ((n : Int) == 0) = false := by simp; omega
      obtain ⟨td, htd⟩ : ∃ td, td = toldV N pf := ⟨_, rfl⟩
      have htl := told_len N pf
      have HF : Hid (gst N F (k + 1) = (G ++ [⟨pf, 2, td.is.lo, td.is.hi⟩], K ++ td.struck)) := Lib.hid (by rw [HGS.out, htd]; unfold gapS; rw [if_neg (by simp), if_neg (by rw [← HN.out]; exact hn0)])
      have hTW := HTL.out W HBL.out pf
      rw [← htd] at htl hTW
      obtain ⟨⟨tl, th⟩, hti⟩ : ∃ s, s = td.is := ⟨_, rfl⟩
      obtain ⟨nt, hnt⟩ : ∃ n, n = td.struck.length := ⟨_, rfl⟩
      rw [← hti] at hTW HF; rw [← hnt] at htl hTW
      dsimp only at hTW HF
      have HTW := Lib.hid hTW; have HNT := Lib.hid hnt
      have hn9 : n ≤ 1000000000 := by omega
      have hn9' : nk + nt ≤ 1000000000 := by omega
      have x1 := HX1.out
      clear hn0 htd hTW hti hnt
      have q1c := cell_blk x1
      have q1f := frz_blk x1
      clear x1
      gi_wp2
      (refine ⟨trivial, rfl, CallsIn.mono (CallsIn.inRound _ (callsIn_wide.2 (HTW.out))) ?_⟩)
      rintro e W6 ⟨⟨⟨sa, sc⟩, rfl, hsr⟩, hE6⟩
      have hcs := (own_row hsr).le; have hcm := (own_row hsr).max
      dsimp only at hcs hcm
      have hM6 := HMM.out.ext hE6
      have x5 := Ext2.blk hE6 HX5.out
      have HSR := Lib.hid hsr; have HM6 := Lib.hid hM6; have X5 := Lib.hid x5
      clear q1c q1f q2c q2f q5c q5f x2 x4 x5 hE6 hM6 hsr
      gi_wp2
      refine wpIn_name ?_
      intro W7 hw7
      obtain ⟨b6, hb6⟩ : ∃ n, n = W6.heap.size := ⟨_, rfl⟩
      have x6 : W7.heap[b6]? = some (Obj.cells #[.int .i64 (tl), .int .i64 (th)] 23) := by rw [hw7, hb6]; exact blk_new _ _
      have hE7 : Ext2 W6 W7 := by rw [hw7]; exact below_alloc' _ _
      have hM7 := HM6.out.ext hE7
      have x5 := Ext2.blk hE7 X5.out
      have hR7 := HSR.out.below hE7
      have lb6 : C ≤ b6 := by rw [hb6]; exact HM6.out.sz
      rw [← hb6]
      have HM7 := Lib.hid hM7; have HR7 := Lib.hid hR7
      have hS7 : At2 b5 #[.int .i64 pf, .int .i64 pu, .bool false] 112 b6 #[.int .i64 tl, .int .i64 th] 23 W7 := ⟨x5, x6⟩
      have HS7 := Lib.hid hS7
      clear hw7 hb6 hE7 hM7 hR7 x5 x6 HM6 HSR X5
      haveI hcls : Nonempty (Cls (At2 b5 #[.int .i64 pf, .int .i64 pu, .bool false] 112 b6 #[.int .i64 tl, .int .i64 th] 23)) := ⟨⟨W7, hS7⟩⟩
      refine meetV3 (C := fun (bq g7 cp7 : Nat) (u : World) => At2 b5 #[.int .i64 pf, .int .i64 pu, .bool false] 112 b6 #[.int .i64 tl, .int .i64 th] 23 u ∧ GpsM B n1 n2 n3 n4 w5.heap.size C w W (n + 1) (upd (gpC G) n [.int .i64 pf, .int .i64 2, .int .i64 tl, .int .i64 th]) nk (skC K) (.slice (some ⟨g7, 0, none⟩) (n + 1) cp7) (.slice ka nk kc) (.slice ga n gc) (.slice ka nk kc) u ∧ OwnR u W.heap.size 63 4 (.slice sa nt sc) nt (skC td.struck)) (P := Tryz.prog) (l := ?ll) (t := .one 9 (.one 10 (.one 11 .leaf))) (Q := ?qq) (S := At2 b5 #[.int .i64 pf, .int .i64 pu, .bool false] 112 b6 #[.int .i64 tl, .int .i64 th] 23) (A := ?ax) (fun key => ?tr) ?ke
      case tr =>
        refine round_region_treeV (At2 b5 #[.int .i64 pf, .int .i64 pu, .bool false] 112 b6 #[.int .i64 tl, .int .i64 th] 23) (.flt [1, 2, 3, 4, 8] (.thr 0 (.two 5 (.two 6 (.one 7 (.one 9 (.one 10 (.one 11 .leaf)))) 7 (.one 6 (.one 9 (.one 10 (.one 11 .leaf))))) 7 (.one 5 (.one 6 (.one 9 (.one 10 (.one 11 .leaf)))))) 5 (.two 0 (.two 6 (.one 7 (.one 9 (.one 10 (.one 11 .leaf)))) 7 (.one 6 (.one 9 (.one 10 (.one 11 .leaf))))) 7 (.one 0 (.one 6 (.one 9 (.one 10 (.one 11 .leaf)))))) 7 (.two 0 (.one 5 (.one 6 (.one 9 (.one 10 (.one 11 .leaf))))) 5 (.one 0 (.one 6 (.one 9 (.one 10 (.one 11 .leaf)))))))) (fun W' hW' => ⟨hW'.blk HS7.out.1, hW'.blk HS7.out.2⟩) (by kernel_rfl) (by rintro ⟨a_, w_, h_⟩; exact h_) (by kernel_rfl) (by kernel_rfl) (by intro c a d v w h; cases d <;> exact h) ?_
        intro u0 hE
        have hM := HM7.out.ext hE
        have hS : At2 b5 #[.int .i64 pf, .int .i64 pu, .bool false] 112 b6 #[.int .i64 tl, .int .i64 th] 23 u0 := ⟨hE.blk HS7.out.1, hE.blk HS7.out.2⟩
        have hR := HR7.out.below hE
        have hSx := fun (W' : World) (h : Ext2 u0 W') => show At2 b5 #[.int .i64 pf, .int .i64 pu, .bool false] 112 b6 #[.int .i64 tl, .int .i64 th] 23 W' from ⟨h.blk hS.1, h.blk hS.2⟩
        have q2c := cell_blk hM.g; have q2f := frz_blk hM.g; have q3c := cell_blk hM.k; have q3f := frz_blk hM.k
        have HS := Lib.hid hS; have HM := Lib.hid hM; have HR := Lib.hid hR; have HSX := Lib.hid hSx
        clear hE hS hM hR hSx
        refine wpV_flt ?_
        simp only [picks, List.drop_succ_cons, List.drop_zero]
        repeat ((with_reducible refine wpQS_step (fun K hK => ?_)); go_simp; ((with_reducible refine hK _ ?_); clear hK K))
        (with_reducible refine wpQS_nil ?_)
        refine wpV_thr ?_ ?_ ?_
        · skip
          simp only [picks, List.drop_succ_cons, List.drop_zero]
          go_wp2_with (fail)
          refine ⟨HS.out, ?_⟩
          refine wpV_two ?_ ?_
          · skip
            simp only [picks, List.drop_succ_cons, List.drop_zero]
            go_wp2_with (fail)
            refine andV_name (fun u2 hu2 => ?_)
            obtain ⟨bq, hbq⟩ : ∃ b, b = u0.heap.size := ⟨_, rfl⟩
            have nbq : u2.heap[bq]? = some (Obj.cells #[.int .i64 pf, .int .i64 2, .int .i64 tl, .int .i64 th] 49 (0, 0)) := by rw [hu2, hbq]; exact blk_new _ _
            have hE2 : Ext2 u0 u2 := by rw [hu2]; exact below_alloc' _ _
            have hM2 := HM.out.ext hE2
            have HS2 := Lib.hid (HSX.out u2 hE2)
            have HR2 := Lib.hid (HR.out.below hE2)
            have q2c := cell_blk hM2.g; have q2f := frz_blk hM2.g; have q3c := cell_blk hM2.k; have q3f := frz_blk hM2.k
            have HM2 := Lib.hid hM2; have NBQ := Lib.hid nbq
            rw [← hbq]
            clear hu2 hbq hM2 nbq
            have HE2 := Lib.hid hE2; clear hE2
            refine ⟨HS2.out, ?_⟩
            refine wpV_two ?_ ?_
            · skip
              simp only [picks, List.drop_succ_cons, List.drop_zero]
              go_wp2_with (at_builtin; refine app_one_at [.int .i64 pf, .int .i64 2, .int .i64 tl, .int .i64 th] elGap rfl _ _ rfl C rfl HM2.out.og bq 1 rfl NBQ.out (by simp [Value.oneCell']) hn9 HM2.out.sz ?_; intro v' u3 hO7 hg7 _; (obtain ⟨g7, cp7, hv7, hge7, -, -, -, -⟩ := own_some hO7 (by omega)); subst hv7; (have HM3 := Lib.hid (HM2.out.appG HNN.out hg7 hO7)); (have HS3 := Lib.hid (And.intro (own_keep HM2.out.og hg7 HS2.out.1 (by decide)) (own_keep HM2.out.og hg7 HS2.out.2 (by decide)))); (have HR3 := Lib.hid (own_other HM2.out.og hg7 HR2.out (by decide))); (have HG7 := Lib.hid hg7); clear hO7 hg7)
              have q2c := cell_blk HM3.out.g; have q2f := frz_blk HM3.out.g; have q3c := cell_blk HM3.out.k; have q3f := frz_blk HM3.out.k
              refine ⟨HS3.out, ?_⟩
              refine wpV_one ?_
              simp only [picks, List.drop_succ_cons, List.drop_zero]
              go_wp2_with (fail)
              refine ⟨HS3.out, ?_⟩
              exact key bq g7 cp7 _ ⟨HS3.out, HM3.out, HR3.out⟩
            · skip
              simp only [picks, List.drop_succ_cons, List.drop_zero]
              go_wp2_with (fail)
              refine ⟨HS2.out, ?_⟩
              refine wpV_one ?_
              simp only [picks, List.drop_succ_cons, List.drop_zero]
              go_wp2_with (at_builtin; refine app_one_at [.int .i64 pf, .int .i64 2, .int .i64 tl, .int .i64 th] elGap rfl _ _ rfl C rfl HM2.out.og bq 1 rfl NBQ.out (by simp [Value.oneCell']) hn9 HM2.out.sz ?_; intro v' u3 hO7 hg7 _; (obtain ⟨g7, cp7, hv7, hge7, -, -, -, -⟩ := own_some hO7 (by omega)); subst hv7; (have HM3 := Lib.hid (HM2.out.appG HNN.out hg7 hO7)); (have HS3 := Lib.hid (And.intro (own_keep HM2.out.og hg7 HS2.out.1 (by decide)) (own_keep HM2.out.og hg7 HS2.out.2 (by decide)))); (have HR3 := Lib.hid (own_other HM2.out.og hg7 HR2.out (by decide))); (have HG7 := Lib.hid hg7); clear hO7 hg7)
              have q2c := cell_blk HM3.out.g; have q2f := frz_blk HM3.out.g; have q3c := cell_blk HM3.out.k; have q3f := frz_blk HM3.out.k
              refine ⟨HS3.out, ?_⟩
              exact key bq g7 cp7 _ ⟨HS3.out, HM3.out, HR3.out⟩
          · skip
            simp only [picks, List.drop_succ_cons, List.drop_zero]
            go_wp2_with (fail)
            refine ⟨HS.out, ?_⟩
            refine wpV_one ?_
            simp only [picks, List.drop_succ_cons, List.drop_zero]
            go_wp2_with (fail)
            refine andV_name (fun u2 hu2 => ?_)
            obtain ⟨bq, hbq⟩ : ∃ b, b = u0.heap.size := ⟨_, rfl⟩
            have nbq : u2.heap[bq]? = some (Obj.cells #[.int .i64 pf, .int .i64 2, .int .i64 tl, .int .i64 th] 49 (0, 0)) := by rw [hu2, hbq]; exact blk_new _ _
            have hE2 : Ext2 u0 u2 := by rw [hu2]; exact below_alloc' _ _
            have hM2 := HM.out.ext hE2
            have HS2 := Lib.hid (HSX.out u2 hE2)
            have HR2 := Lib.hid (HR.out.below hE2)
            have q2c := cell_blk hM2.g; have q2f := frz_blk hM2.g; have q3c := cell_blk hM2.k; have q3f := frz_blk hM2.k
            have HM2 := Lib.hid hM2; have NBQ := Lib.hid nbq
            rw [← hbq]
            clear hu2 hbq hM2 nbq
            have HE2 := Lib.hid hE2; clear hE2
            refine ⟨HS2.out, ?_⟩
            refine wpV_one ?_
            simp only [picks, List.drop_succ_cons, List.drop_zero]
            go_wp2_with (at_builtin; refine app_one_at [.int .i64 pf, .int .i64 2, .int .i64 tl, .int .i64 th] elGap rfl _ _ rfl C rfl HM2.out.og bq 1 rfl NBQ.out (by simp [Value.oneCell']) hn9 HM2.out.sz ?_; intro v' u3 hO7 hg7 _; (obtain ⟨g7, cp7, hv7, hge7, -, -, -, -⟩ := own_some hO7 (by omega)); subst hv7; (have HM3 := Lib.hid (HM2.out.appG HNN.out hg7 hO7)); (have HS3 := Lib.hid (And.intro (own_keep HM2.out.og hg7 HS2.out.1 (by decide)) (own_keep HM2.out.og hg7 HS2.out.2 (by decide)))); (have HR3 := Lib.hid (own_other HM2.out.og hg7 HR2.out (by decide))); (have HG7 := Lib.hid hg7); clear hO7 hg7)
            have q2c := cell_blk HM3.out.g; have q2f := frz_blk HM3.out.g; have q3c := cell_blk HM3.out.k; have q3f := frz_blk HM3.out.k
            refine ⟨HS3.out, ?_⟩
            exact key bq g7 cp7 _ ⟨HS3.out, HM3.out, HR3.out⟩
        · skip
          simp only [picks, List.drop_succ_cons, List.drop_zero]
          go_wp2_with (fail)
          refine andV_name (fun u2 hu2 => ?_)
          obtain ⟨bq, hbq⟩ : ∃ b, b = u0.heap.size := ⟨_, rfl⟩
          have nbq : u2.heap[bq]? = some (Obj.cells #[.int .i64 pf, .int .i64 2, .int .i64 tl, .int .i64 th] 49 (0, 0)) := by rw [hu2, hbq]; exact blk_new _ _
          have hE2 : Ext2 u0 u2 := by rw [hu2]; exact below_alloc' _ _
          have hM2 := HM.out.ext hE2
          have HS2 := Lib.hid (HSX.out u2 hE2)
          have HR2 := Lib.hid (HR.out.below hE2)
          have q2c := cell_blk hM2.g; have q2f := frz_blk hM2.g; have q3c := cell_blk hM2.k; have q3f := frz_blk hM2.k
          have HM2 := Lib.hid hM2; have NBQ := Lib.hid nbq
          rw [← hbq]
          clear hu2 hbq hM2 nbq
          have HE2 := Lib.hid hE2; clear hE2
          refine ⟨HS2.out, ?_⟩
          refine wpV_two ?_ ?_
          · skip
            simp only [picks, List.drop_succ_cons, List.drop_zero]
            go_wp2_with (fail)
            refine ⟨HS2.out, ?_⟩
            refine wpV_two ?_ ?_
            · skip
              simp only [picks, List.drop_succ_cons, List.drop_zero]
              go_wp2_with (at_builtin; refine app_one_at [.int .i64 pf, .int .i64 2, .int .i64 tl, .int .i64 th] elGap rfl _ _ rfl C rfl HM2.out.og bq 1 rfl NBQ.out (by simp [Value.oneCell']) hn9 HM2.out.sz ?_; intro v' u3 hO7 hg7 _; (obtain ⟨g7, cp7, hv7, hge7, -, -, -, -⟩ := own_some hO7 (by omega)); subst hv7; (have HM3 := Lib.hid (HM2.out.appG HNN.out hg7 hO7)); (have HS3 := Lib.hid (And.intro (own_keep HM2.out.og hg7 HS2.out.1 (by decide)) (own_keep HM2.out.og hg7 HS2.out.2 (by decide)))); (have HR3 := Lib.hid (own_other HM2.out.og hg7 HR2.out (by decide))); (have HG7 := Lib.hid hg7); clear hO7 hg7)
              have q2c := cell_blk HM3.out.g; have q2f := frz_blk HM3.out.g; have q3c := cell_blk HM3.out.k; have q3f := frz_blk HM3.out.k
              refine ⟨HS3.out, ?_⟩
              refine wpV_one ?_
              simp only [picks, List.drop_succ_cons, List.drop_zero]
              go_wp2_with (fail)
              refine ⟨HS3.out, ?_⟩
              exact key bq g7 cp7 _ ⟨HS3.out, HM3.out, HR3.out⟩
            · skip
              simp only [picks, List.drop_succ_cons, List.drop_zero]
              go_wp2_with (fail)
              refine ⟨HS2.out, ?_⟩
              refine wpV_one ?_
              simp only [picks, List.drop_succ_cons, List.drop_zero]
              go_wp2_with (at_builtin; refine app_one_at [.int .i64 pf, .int .i64 2, .int .i64 tl, .int .i64 th] elGap rfl _ _ rfl C rfl HM2.out.og bq 1 rfl NBQ.out (by simp [Value.oneCell']) hn9 HM2.out.sz ?_; intro v' u3 hO7 hg7 _; (obtain ⟨g7, cp7, hv7, hge7, -, -, -, -⟩ := own_some hO7 (by omega)); subst hv7; (have HM3 := Lib.hid (HM2.out.appG HNN.out hg7 hO7)); (have HS3 := Lib.hid (And.intro (own_keep HM2.out.og hg7 HS2.out.1 (by decide)) (own_keep HM2.out.og hg7 HS2.out.2 (by decide)))); (have HR3 := Lib.hid (own_other HM2.out.og hg7 HR2.out (by decide))); (have HG7 := Lib.hid hg7); clear hO7 hg7)
              have q2c := cell_blk HM3.out.g; have q2f := frz_blk HM3.out.g; have q3c := cell_blk HM3.out.k; have q3f := frz_blk HM3.out.k
              refine ⟨HS3.out, ?_⟩
              exact key bq g7 cp7 _ ⟨HS3.out, HM3.out, HR3.out⟩
          · skip
            simp only [picks, List.drop_succ_cons, List.drop_zero]
            go_wp2_with (fail)
            refine ⟨HS2.out, ?_⟩
            refine wpV_one ?_
            simp only [picks, List.drop_succ_cons, List.drop_zero]
            go_wp2_with (fail)
            refine ⟨HS2.out, ?_⟩
            refine wpV_one ?_
            simp only [picks, List.drop_succ_cons, List.drop_zero]
            go_wp2_with (at_builtin; refine app_one_at [.int .i64 pf, .int .i64 2, .int .i64 tl, .int .i64 th] elGap rfl _ _ rfl C rfl HM2.out.og bq 1 rfl NBQ.out (by simp [Value.oneCell']) hn9 HM2.out.sz ?_; intro v' u3 hO7 hg7 _; (obtain ⟨g7, cp7, hv7, hge7, -, -, -, -⟩ := own_some hO7 (by omega)); subst hv7; (have HM3 := Lib.hid (HM2.out.appG HNN.out hg7 hO7)); (have HS3 := Lib.hid (And.intro (own_keep HM2.out.og hg7 HS2.out.1 (by decide)) (own_keep HM2.out.og hg7 HS2.out.2 (by decide)))); (have HR3 := Lib.hid (own_other HM2.out.og hg7 HR2.out (by decide))); (have HG7 := Lib.hid hg7); clear hO7 hg7)
            have q2c := cell_blk HM3.out.g; have q2f := frz_blk HM3.out.g; have q3c := cell_blk HM3.out.k; have q3f := frz_blk HM3.out.k
            refine ⟨HS3.out, ?_⟩
            exact key bq g7 cp7 _ ⟨HS3.out, HM3.out, HR3.out⟩
        · skip
          simp only [picks, List.drop_succ_cons, List.drop_zero]
          go_wp2_with (fail)
          refine ⟨HS.out, ?_⟩
          refine wpV_two ?_ ?_
          · skip
            simp only [picks, List.drop_succ_cons, List.drop_zero]
            go_wp2_with (fail)
            refine ⟨HS.out, ?_⟩
            refine wpV_one ?_
            simp only [picks, List.drop_succ_cons, List.drop_zero]
            go_wp2_with (fail)
            refine andV_name (fun u2 hu2 => ?_)
            obtain ⟨bq, hbq⟩ : ∃ b, b = u0.heap.size := ⟨_, rfl⟩
            have nbq : u2.heap[bq]? = some (Obj.cells #[.int .i64 pf, .int .i64 2, .int .i64 tl, .int .i64 th] 49 (0, 0)) := by rw [hu2, hbq]; exact blk_new _ _
            have hE2 : Ext2 u0 u2 := by rw [hu2]; exact below_alloc' _ _
            have hM2 := HM.out.ext hE2
            have HS2 := Lib.hid (HSX.out u2 hE2)
            have HR2 := Lib.hid (HR.out.below hE2)
            have q2c := cell_blk hM2.g; have q2f := frz_blk hM2.g; have q3c := cell_blk hM2.k; have q3f := frz_blk hM2.k
            have HM2 := Lib.hid hM2; have NBQ := Lib.hid nbq
            rw [← hbq]
            clear hu2 hbq hM2 nbq
            have HE2 := Lib.hid hE2; clear hE2
            refine ⟨HS2.out, ?_⟩
            refine wpV_one ?_
            simp only [picks, List.drop_succ_cons, List.drop_zero]
            go_wp2_with (at_builtin; refine app_one_at [.int .i64 pf, .int .i64 2, .int .i64 tl, .int .i64 th] elGap rfl _ _ rfl C rfl HM2.out.og bq 1 rfl NBQ.out (by simp [Value.oneCell']) hn9 HM2.out.sz ?_; intro v' u3 hO7 hg7 _; (obtain ⟨g7, cp7, hv7, hge7, -, -, -, -⟩ := own_some hO7 (by omega)); subst hv7; (have HM3 := Lib.hid (HM2.out.appG HNN.out hg7 hO7)); (have HS3 := Lib.hid (And.intro (own_keep HM2.out.og hg7 HS2.out.1 (by decide)) (own_keep HM2.out.og hg7 HS2.out.2 (by decide)))); (have HR3 := Lib.hid (own_other HM2.out.og hg7 HR2.out (by decide))); (have HG7 := Lib.hid hg7); clear hO7 hg7)
            have q2c := cell_blk HM3.out.g; have q2f := frz_blk HM3.out.g; have q3c := cell_blk HM3.out.k; have q3f := frz_blk HM3.out.k
            refine ⟨HS3.out, ?_⟩
            exact key bq g7 cp7 _ ⟨HS3.out, HM3.out, HR3.out⟩
          · skip
            simp only [picks, List.drop_succ_cons, List.drop_zero]
            go_wp2_with (fail)
            refine andV_name (fun u2 hu2 => ?_)
            obtain ⟨bq, hbq⟩ : ∃ b, b = u0.heap.size := ⟨_, rfl⟩
            have nbq : u2.heap[bq]? = some (Obj.cells #[.int .i64 pf, .int .i64 2, .int .i64 tl, .int .i64 th] 49 (0, 0)) := by rw [hu2, hbq]; exact blk_new _ _
            have hE2 : Ext2 u0 u2 := by rw [hu2]; exact below_alloc' _ _
            have hM2 := HM.out.ext hE2
            have HS2 := Lib.hid (HSX.out u2 hE2)
            have HR2 := Lib.hid (HR.out.below hE2)
            have q2c := cell_blk hM2.g; have q2f := frz_blk hM2.g; have q3c := cell_blk hM2.k; have q3f := frz_blk hM2.k
            have HM2 := Lib.hid hM2; have NBQ := Lib.hid nbq
            rw [← hbq]
            clear hu2 hbq hM2 nbq
            have HE2 := Lib.hid hE2; clear hE2
            refine ⟨HS2.out, ?_⟩
            refine wpV_one ?_
            simp only [picks, List.drop_succ_cons, List.drop_zero]
            go_wp2_with (fail)
            refine ⟨HS2.out, ?_⟩
            refine wpV_one ?_
            simp only [picks, List.drop_succ_cons, List.drop_zero]
            go_wp2_with (at_builtin; refine app_one_at [.int .i64 pf, .int .i64 2, .int .i64 tl, .int .i64 th] elGap rfl _ _ rfl C rfl HM2.out.og bq 1 rfl NBQ.out (by simp [Value.oneCell']) hn9 HM2.out.sz ?_; intro v' u3 hO7 hg7 _; (obtain ⟨g7, cp7, hv7, hge7, -, -, -, -⟩ := own_some hO7 (by omega)); subst hv7; (have HM3 := Lib.hid (HM2.out.appG HNN.out hg7 hO7)); (have HS3 := Lib.hid (And.intro (own_keep HM2.out.og hg7 HS2.out.1 (by decide)) (own_keep HM2.out.og hg7 HS2.out.2 (by decide)))); (have HR3 := Lib.hid (own_other HM2.out.og hg7 HR2.out (by decide))); (have HG7 := Lib.hid hg7); clear hO7 hg7)
            have q2c := cell_blk HM3.out.g; have q2f := frz_blk HM3.out.g; have q3c := cell_blk HM3.out.k; have q3f := frz_blk HM3.out.k
            refine ⟨HS3.out, ?_⟩
            exact key bq g7 cp7 _ ⟨HS3.out, HM3.out, HR3.out⟩
      case ke =>
        rintro bq g7 cp7 u ⟨hS, hM, hR⟩
        have q2c := cell_blk hM.g; have q2f := frz_blk hM.g; have q3c := cell_blk hM.k; have q3f := frz_blk hM.k
        have HS := Lib.hid hS; have HM := Lib.hid hM; have HR := Lib.hid hR
        clear hS hM hR
        refine wpV_one ?_
        simp only [picks, List.drop_succ_cons, List.drop_zero]
        go_wp2_with (at_builtin; refine app_sl_at elStrike (c2 := skC (K ++ td.struck)) rfl _ _ rfl C rfl HM.out.ok ⟨sa, sc⟩ nt rfl (own_row HR.out) (skC_one _) hn9' HM.out.sz (fun i j hi hj => skC_left (by rw [← HNK.out]; exact hi)) (fun i j hi hj => by rw [HNK.out]; exact skC_right) ?_; intro v' u3 hO8 hg8 _; (have HM3 := Lib.hid (HM.out.appK HNN.out hg8 hO8)); (have HS3 := Lib.hid (And.intro (own_keep HM.out.ok hg8 HS.out.1 (by decide)) (own_keep HM.out.ok hg8 HS.out.2 (by decide)))); (obtain ⟨⟨ka2, kc2⟩, hv8, hkr8⟩ := OwnR.sl hO8); subst hv8; clear hO8 hg8)
        refine ⟨HS3.out, ?_⟩
        clear q2c q2f q3c q3f HM HS HR
        have q2c := cell_blk HM3.out.g; have q2f := frz_blk HM3.out.g; have q3c := cell_blk HM3.out.k; have q3f := frz_blk HM3.out.k
        refine wpV_one ?_
        simp only [picks, List.drop_succ_cons, List.drop_zero]
        go_wp2_with (fail)
        refine andV_name (fun u4 hu4 => ?_)
        have hnC := HNN.out
        have HS4 : Hid (At2 b5 #[.int .i64 pf, .int .i64 pu, .bool false] 112 b6 #[.int .i64 tl, .int .i64 th] 23 u4) := Lib.hid (by rw [hu4]; exact ⟨blk_set_ne HS3.out.1 (by have := hnC.d; have := hnC.c; have := hnC.e; omega), blk_set_ne HS3.out.2 (by have := hnC.d; have := hnC.c; have := hnC.e; omega)⟩)
        have hM4 := HM3.out.setG HNN.out (.slice (some ⟨g7, 0, none⟩) (n + 1) cp7)
        rw [← hu4] at hM4
        have HM4 := Lib.hid hM4
        clear hu4 hM4 hnC q2c q2f q3c q3f HM3 HS3
        have q3c := cell_blk HM4.out.k; have q3f := frz_blk HM4.out.k
        refine ⟨HS4.out, ?_⟩
        refine wpV_one ?_
        simp only [picks, List.drop_succ_cons, List.drop_zero]
        go_wp2_with (fail)
        refine andV_name (fun u5 hu5 => ?_)
        have hnC := HNN.out
        have HS5 : Hid (At2 b5 #[.int .i64 pf, .int .i64 pu, .bool false] 112 b6 #[.int .i64 tl, .int .i64 th] 23 u5) := Lib.hid (by rw [hu5]; exact ⟨blk_set_ne HS4.out.1 (by have := hnC.d; have := hnC.e; omega), blk_set_ne HS4.out.2 (by have := hnC.d; have := hnC.e; omega)⟩)
        have hM5 := HM4.out.setK HNN.out (.slice ka2 (nk + nt) kc2)
        rw [← hu5] at hM5
        have HM5 := Lib.hid hM5
        clear hu5 hM5 hnC q3c q3f HM4 HS4
        refine ⟨HS5.out, wpV_leaf ?_⟩
        gi_wp2
        refine GpsM.done (gv := .slice (some ⟨g7, 0, none⟩) (n + 1) cp7) (sv := .slice ka2 (nk + nt) kc2) ?_ HF.out
        have hM7 := HM5.out
        rw [HN.out] at hM7 ⊢
        rw [HNK.out, HNT.out] at hM7 ⊢
        rw [List.length_append, List.length_singleton, List.length_append]
        exact ⟨hM7.bw, hM7.bel, hM7.sz, hM7.box, hM7.span, hM7.g, hM7.k, OwnR.congr hM7.og fun i j hi hj => gpC_snoc (x := ⟨pf, 2, tl, th⟩) hi hj, hM7.ok⟩
  case done =>
    rintro d C W hd hCl hI hD
    subst ha0
    have hgl := gst_le hn60 (F := F) (k := (pieceK N F).length) (Nat.le_refl _)
    have hpl := pieceK_len N F
    obtain ⟨⟨G, K⟩, hst⟩ : ∃ st, st = gst N F (pieceK N F).length := ⟨_, rfl⟩
    have hgn := gapsN_eq hn60 hst.symm
    obtain ⟨hbl, hsz, x1, x4, ⟨gv, x2, hG⟩, ⟨sv, x3, hK⟩⟩ := hI
    rw [← hst] at hgl hG hK
    dsimp only at hgl hG hK
    obtain ⟨⟨ga, gc⟩, rfl, hgr⟩ := OwnR.sl hG
    have hgc := hgr.le; have hgm := hgr.max
    obtain ⟨⟨ka, kc⟩, rfl, hkr⟩ := OwnR.sl hK
    dsimp only at hgc hgm x2 x3 hG hK
    obtain ⟨n, hn⟩ : ∃ n, n = G.length := ⟨_, rfl⟩
    obtain ⟨nk, hnk⟩ : ∃ n, n = K.length := ⟨_, rfl⟩
    rw [← hn] at hgc hgl hG x2 hgn; rw [← hnk] at hgl hK x3
    have hMM : GpsM B n1 n2 n3 n4 w5.heap.size C w W n (gpC G) nk (skC K) (.slice ga n gc) (.slice ka nk kc) (.slice ga n gc) (.slice ka nk kc) W := ⟨Bw.refl _ _ _, hbl, hsz, x1, x4, x2, x3, hG, hK⟩
    have hNN : GpsN n1 n2 n3 n4 w5.heap.size C w := ⟨lw, l12, l23, l34, by omega, hCl⟩
    have hS7 : GpsAt n1 B n4 T t N ns g F W := ⟨x1, (HT.out.below hbl).tab.blk, x4⟩
    have HMM := Lib.hid hMM; have HNN := Lib.hid hNN; have HS7 := Lib.hid hS7; have HGN := Lib.hid hgn; have HN := Lib.hid hn; have HNK := Lib.hid hnk; have HD := Lib.hid hD
    have hn9 : n ≤ 1000000000 := by omega
    have lBn : B < n2 := by have := blk_lt HT.out.tab.blk; omega
    have ldn : n3 < d := by omega
    clear hgl hpl hst hgn hbl hsz x1 x4 x3 hG hK hgr hkr hn hnk hMM hNN hS7 hD
    haveI hcls : Nonempty (Cls (GpsAt n1 B n4 T t N ns g F)) := ⟨⟨W, HS7.out⟩⟩
    have q2c := cell_blk x2
    have q2f := frz_blk x2
    clear x2
    by_cases hn0 : n = 0
    · have hb0 : ((n : Int) == 0) = true := by subst hn0; rfl
      have HF : Hid (gapsN F N = (G ++ [⟨F, 1, 0, 400000⟩], K)) := Lib.hid (by rw [HGN.out, if_pos hn0])
      clear hn0
      go_upto_region 12 with (fail)
      clear q2c q2f
      refine meetV3 (C := fun (bq g7 cp7 : Nat) (u : World) => GpsAt n1 B n4 T t N ns g F u ∧ GpsM B n1 n2 n3 n4 w5.heap.size C w W (n + 1) (upd (gpC G) n [.int .i64 T.reel.frames, .int .i64 1, .int .i64 0, .int .i64 400000]) nk (skC K) (.slice (some ⟨g7, 0, none⟩) (n + 1) cp7) (.slice ka nk kc) (.slice (some ⟨g7, 0, none⟩) (n + 1) cp7) (.slice ka nk kc) u ∧ u.heap[d]? = some (.deferred (some []))) (P := Tryz.prog) (l := ?ll1) (t := .one 14 .leaf) (Q := ?qq1) (S := GpsAt n1 B n4 T t N ns g F) (A := ?ax1) (fun key => ?tr1) ?ke1
      case tr1 =>
        refine region_treeVN (GpsAt n1 B n4 T t N ns g F) (.flt [1, 2, 3, 4, 5, 6, 7, 8, 9] (.thr 0 (.two 10 (.two 11 (.two 12 (.one 13 (.one 14 .leaf)) 13 (.one 12 (.one 14 .leaf))) 12 (.one 11 (.one 13 (.one 14 .leaf)))) 12 (.one 10 (.one 11 (.one 13 (.one 14 .leaf))))) 10 (.two 0 (.two 11 (.two 12 (.one 13 (.one 14 .leaf)) 13 (.one 12 (.one 14 .leaf))) 12 (.one 11 (.one 13 (.one 14 .leaf)))) 12 (.one 0 (.one 11 (.one 13 (.one 14 .leaf))))) 12 (.two 0 (.one 10 (.one 11 (.one 13 (.one 14 .leaf)))) 10 (.one 0 (.one 11 (.one 13 (.one 14 .leaf))))))) (fun W' hW' => HS7.out.ext W' hW') (by kernel_rfl) (by kernel_rfl) ?_
        intro u0 hE
        have hM := HMM.out.ext hE
        have hS := HS7.out.ext u0 hE
        have hR : OwnR u0 0 63 4 (.slice none 0 0) 0 (skC []) := own_nil _ _ _ _ _
        have hSx := fun (W' : World) (h : Ext2 u0 W') => GpsAt.ext hS W' h
        have q2c := cell_blk hM.g; have q2f := frz_blk hM.g; have q3c := cell_blk hM.k; have q3f := frz_blk hM.k
        have HS := Lib.hid hS; have HM := Lib.hid hM; have HR := Lib.hid hR; have HSX := Lib.hid hSx; have HDU := Lib.hid (hE.blk HD.out)
        clear hE hS hM hR hSx
        refine wpV_flt ?_
        simp only [picks, List.drop_succ_cons, List.drop_zero]
        repeat ((with_reducible refine wpQS_step (fun K hK => ?_)); go_simp; ((with_reducible refine hK _ ?_); clear hK K))
        (with_reducible refine wpQS_nil ?_)
        refine wpV_thr ?_ ?_ ?_
        · skip
          simp only [picks, List.drop_succ_cons, List.drop_zero]
          go_wp2_with (fail)
          refine ⟨HS.out, ?_⟩
          refine wpV_two ?_ ?_
          · skip
            simp only [picks, List.drop_succ_cons, List.drop_zero]
            go_wp2_with (fail)
            refine andV_name (fun u2 hu2 => ?_)
            obtain ⟨bq, hbq⟩ : ∃ b, b = u0.heap.size := ⟨_, rfl⟩
            have nbq : u2.heap[bq]? = some (Obj.cells #[.int .i64 T.reel.frames, .int .i64 1, .int .i64 0, .int .i64 400000] 49 (0, 0)) := by rw [hu2, hbq]; exact blk_new _ _
            have hE2 : Ext2 u0 u2 := by rw [hu2]; exact below_alloc' _ _
            have hM2 := HM.out.ext hE2
            have HS2 := Lib.hid (HSX.out u2 hE2)
            have HR2 := Lib.hid (HR.out.below hE2)
            have q2c := cell_blk hM2.g; have q2f := frz_blk hM2.g; have q3c := cell_blk hM2.k; have q3f := frz_blk hM2.k
            have HM2 := Lib.hid hM2; have NBQ := Lib.hid nbq
            rw [← hbq]
            clear hu2 hbq hM2 nbq
            have HE2 := Lib.hid hE2; clear hE2
            refine ⟨HS2.out, ?_⟩
            refine wpV_two ?_ ?_
            · skip
              simp only [picks, List.drop_succ_cons, List.drop_zero]
              go_wp2_with (at_builtin; refine app_one_at [.int .i64 T.reel.frames, .int .i64 1, .int .i64 0, .int .i64 400000] elGap rfl _ _ rfl C rfl HM2.out.og bq 1 rfl NBQ.out (by simp [Value.oneCell']) hn9 HM2.out.sz ?_; intro v' u3 hO7 hg7 _; (obtain ⟨g7, cp7, hv7, hge7, -, -, -, -⟩ := own_some hO7 (by omega)); subst hv7; (have HM3 := Lib.hid (HM2.out.appG HNN.out hg7 hO7)); (have HS3 := Lib.hid (And.intro (own_keep HM2.out.og hg7 HS2.out.1 (by decide)) (And.intro (own_keep HM2.out.og hg7 HS2.out.2.1 (by decide)) (own_keep HM2.out.og hg7 HS2.out.2.2 (by decide))))); (have HR3 := Lib.hid (own_other HM2.out.og hg7 HR2.out (by decide))); (have HG7 := Lib.hid hg7); clear hO7 hg7)
              have q2c := cell_blk HM3.out.g; have q2f := frz_blk HM3.out.g; have q3c := cell_blk HM3.out.k; have q3f := frz_blk HM3.out.k
              refine ⟨HS3.out, ?_⟩
              refine wpV_two ?_ ?_
              · skip
                simp only [picks, List.drop_succ_cons, List.drop_zero]
                go_wp2_with (fail)
                refine ⟨HS3.out, ?_⟩
                refine wpV_one ?_
                simp only [picks, List.drop_succ_cons, List.drop_zero]
                go_wp2_with (fail)
                refine andV_name (fun u4 hu4 => ?_)
                have hM4 := HM3.out.setG HNN.out (.slice (some ⟨g7, 0, none⟩) (n + 1) cp7)
                rw [← hu4] at hM4
                have HS4 : Hid (GpsAt n1 B n4 T t N ns g F u4) := Lib.hid (by rw [hu4]; exact ⟨blk_set_ne HS3.out.1 (by omega), blk_set_ne HS3.out.2.1 (by omega), blk_set_ne HS3.out.2.2 (by omega)⟩)
                have HD4 : Hid (u4.heap[d]? = some (.deferred (some []))) := Lib.hid (by rw [hu4]; exact blk_set_ne (keepD HM2.out.og HG7.out (HE2.out.blk HDU.out)) (by omega))
                have q3c := cell_blk hM4.k; have q3f := frz_blk hM4.k
                have HM4 := Lib.hid hM4
                clear hu4 hM4
                refine ⟨HS4.out, ?_⟩
                exact key bq g7 cp7 _ ⟨HS4.out, HM4.out, HD4.out⟩
              · skip
                simp only [picks, List.drop_succ_cons, List.drop_zero]
                go_wp2_with (fail)
                refine andV_name (fun u4 hu4 => ?_)
                have hM4 := HM3.out.setG HNN.out (.slice (some ⟨g7, 0, none⟩) (n + 1) cp7)
                rw [← hu4] at hM4
                have HS4 : Hid (GpsAt n1 B n4 T t N ns g F u4) := Lib.hid (by rw [hu4]; exact ⟨blk_set_ne HS3.out.1 (by omega), blk_set_ne HS3.out.2.1 (by omega), blk_set_ne HS3.out.2.2 (by omega)⟩)
                have HD4 : Hid (u4.heap[d]? = some (.deferred (some []))) := Lib.hid (by rw [hu4]; exact blk_set_ne (keepD HM2.out.og HG7.out (HE2.out.blk HDU.out)) (by omega))
                have q3c := cell_blk hM4.k; have q3f := frz_blk hM4.k
                have HM4 := Lib.hid hM4
                clear hu4 hM4
                refine ⟨HS4.out, ?_⟩
                refine wpV_one ?_
                simp only [picks, List.drop_succ_cons, List.drop_zero]
                go_wp2_with (fail)
                refine ⟨HS4.out, ?_⟩
                exact key bq g7 cp7 _ ⟨HS4.out, HM4.out, HD4.out⟩
            · skip
              simp only [picks, List.drop_succ_cons, List.drop_zero]
              go_wp2_with (fail)
              refine ⟨HS2.out, ?_⟩
              refine wpV_one ?_
              simp only [picks, List.drop_succ_cons, List.drop_zero]
              go_wp2_with (at_builtin; refine app_one_at [.int .i64 T.reel.frames, .int .i64 1, .int .i64 0, .int .i64 400000] elGap rfl _ _ rfl C rfl HM2.out.og bq 1 rfl NBQ.out (by simp [Value.oneCell']) hn9 HM2.out.sz ?_; intro v' u3 hO7 hg7 _; (obtain ⟨g7, cp7, hv7, hge7, -, -, -, -⟩ := own_some hO7 (by omega)); subst hv7; (have HM3 := Lib.hid (HM2.out.appG HNN.out hg7 hO7)); (have HS3 := Lib.hid (And.intro (own_keep HM2.out.og hg7 HS2.out.1 (by decide)) (And.intro (own_keep HM2.out.og hg7 HS2.out.2.1 (by decide)) (own_keep HM2.out.og hg7 HS2.out.2.2 (by decide))))); (have HR3 := Lib.hid (own_other HM2.out.og hg7 HR2.out (by decide))); (have HG7 := Lib.hid hg7); clear hO7 hg7)
              have q2c := cell_blk HM3.out.g; have q2f := frz_blk HM3.out.g; have q3c := cell_blk HM3.out.k; have q3f := frz_blk HM3.out.k
              refine ⟨HS3.out, ?_⟩
              refine wpV_one ?_
              simp only [picks, List.drop_succ_cons, List.drop_zero]
              go_wp2_with (fail)
              refine andV_name (fun u4 hu4 => ?_)
              have hM4 := HM3.out.setG HNN.out (.slice (some ⟨g7, 0, none⟩) (n + 1) cp7)
              rw [← hu4] at hM4
              have HS4 : Hid (GpsAt n1 B n4 T t N ns g F u4) := Lib.hid (by rw [hu4]; exact ⟨blk_set_ne HS3.out.1 (by omega), blk_set_ne HS3.out.2.1 (by omega), blk_set_ne HS3.out.2.2 (by omega)⟩)
              have HD4 : Hid (u4.heap[d]? = some (.deferred (some []))) := Lib.hid (by rw [hu4]; exact blk_set_ne (keepD HM2.out.og HG7.out (HE2.out.blk HDU.out)) (by omega))
              have q3c := cell_blk hM4.k; have q3f := frz_blk hM4.k
              have HM4 := Lib.hid hM4
              clear hu4 hM4
              refine ⟨HS4.out, ?_⟩
              exact key bq g7 cp7 _ ⟨HS4.out, HM4.out, HD4.out⟩
          · skip
            simp only [picks, List.drop_succ_cons, List.drop_zero]
            go_wp2_with (fail)
            refine ⟨HS.out, ?_⟩
            refine wpV_one ?_
            simp only [picks, List.drop_succ_cons, List.drop_zero]
            go_wp2_with (fail)
            refine andV_name (fun u2 hu2 => ?_)
            obtain ⟨bq, hbq⟩ : ∃ b, b = u0.heap.size := ⟨_, rfl⟩
            have nbq : u2.heap[bq]? = some (Obj.cells #[.int .i64 T.reel.frames, .int .i64 1, .int .i64 0, .int .i64 400000] 49 (0, 0)) := by rw [hu2, hbq]; exact blk_new _ _
            have hE2 : Ext2 u0 u2 := by rw [hu2]; exact below_alloc' _ _
            have hM2 := HM.out.ext hE2
            have HS2 := Lib.hid (HSX.out u2 hE2)
            have HR2 := Lib.hid (HR.out.below hE2)
            have q2c := cell_blk hM2.g; have q2f := frz_blk hM2.g; have q3c := cell_blk hM2.k; have q3f := frz_blk hM2.k
            have HM2 := Lib.hid hM2; have NBQ := Lib.hid nbq
            rw [← hbq]
            clear hu2 hbq hM2 nbq
            have HE2 := Lib.hid hE2; clear hE2
            refine ⟨HS2.out, ?_⟩
            refine wpV_one ?_
            simp only [picks, List.drop_succ_cons, List.drop_zero]
            go_wp2_with (at_builtin; refine app_one_at [.int .i64 T.reel.frames, .int .i64 1, .int .i64 0, .int .i64 400000] elGap rfl _ _ rfl C rfl HM2.out.og bq 1 rfl NBQ.out (by simp [Value.oneCell']) hn9 HM2.out.sz ?_; intro v' u3 hO7 hg7 _; (obtain ⟨g7, cp7, hv7, hge7, -, -, -, -⟩ := own_some hO7 (by omega)); subst hv7; (have HM3 := Lib.hid (HM2.out.appG HNN.out hg7 hO7)); (have HS3 := Lib.hid (And.intro (own_keep HM2.out.og hg7 HS2.out.1 (by decide)) (And.intro (own_keep HM2.out.og hg7 HS2.out.2.1 (by decide)) (own_keep HM2.out.og hg7 HS2.out.2.2 (by decide))))); (have HR3 := Lib.hid (own_other HM2.out.og hg7 HR2.out (by decide))); (have HG7 := Lib.hid hg7); clear hO7 hg7)
            have q2c := cell_blk HM3.out.g; have q2f := frz_blk HM3.out.g; have q3c := cell_blk HM3.out.k; have q3f := frz_blk HM3.out.k
            refine ⟨HS3.out, ?_⟩
            refine wpV_one ?_
            simp only [picks, List.drop_succ_cons, List.drop_zero]
            go_wp2_with (fail)
            refine andV_name (fun u4 hu4 => ?_)
            have hM4 := HM3.out.setG HNN.out (.slice (some ⟨g7, 0, none⟩) (n + 1) cp7)
            rw [← hu4] at hM4
            have HS4 : Hid (GpsAt n1 B n4 T t N ns g F u4) := Lib.hid (by rw [hu4]; exact ⟨blk_set_ne HS3.out.1 (by omega), blk_set_ne HS3.out.2.1 (by omega), blk_set_ne HS3.out.2.2 (by omega)⟩)
            have HD4 : Hid (u4.heap[d]? = some (.deferred (some []))) := Lib.hid (by rw [hu4]; exact blk_set_ne (keepD HM2.out.og HG7.out (HE2.out.blk HDU.out)) (by omega))
            have q3c := cell_blk hM4.k; have q3f := frz_blk hM4.k
            have HM4 := Lib.hid hM4
            clear hu4 hM4
            refine ⟨HS4.out, ?_⟩
            exact key bq g7 cp7 _ ⟨HS4.out, HM4.out, HD4.out⟩
        · skip
          simp only [picks, List.drop_succ_cons, List.drop_zero]
          go_wp2_with (fail)
          refine andV_name (fun u2 hu2 => ?_)
          obtain ⟨bq, hbq⟩ : ∃ b, b = u0.heap.size := ⟨_, rfl⟩
          have nbq : u2.heap[bq]? = some (Obj.cells #[.int .i64 T.reel.frames, .int .i64 1, .int .i64 0, .int .i64 400000] 49 (0, 0)) := by rw [hu2, hbq]; exact blk_new _ _
          have hE2 : Ext2 u0 u2 := by rw [hu2]; exact below_alloc' _ _
          have hM2 := HM.out.ext hE2
          have HS2 := Lib.hid (HSX.out u2 hE2)
          have HR2 := Lib.hid (HR.out.below hE2)
          have q2c := cell_blk hM2.g; have q2f := frz_blk hM2.g; have q3c := cell_blk hM2.k; have q3f := frz_blk hM2.k
          have HM2 := Lib.hid hM2; have NBQ := Lib.hid nbq
          rw [← hbq]
          clear hu2 hbq hM2 nbq
          have HE2 := Lib.hid hE2; clear hE2
          refine ⟨HS2.out, ?_⟩
          refine wpV_two ?_ ?_
          · skip
            simp only [picks, List.drop_succ_cons, List.drop_zero]
            go_wp2_with (fail)
            refine ⟨HS2.out, ?_⟩
            refine wpV_two ?_ ?_
            · skip
              simp only [picks, List.drop_succ_cons, List.drop_zero]
              go_wp2_with (at_builtin; refine app_one_at [.int .i64 T.reel.frames, .int .i64 1, .int .i64 0, .int .i64 400000] elGap rfl _ _ rfl C rfl HM2.out.og bq 1 rfl NBQ.out (by simp [Value.oneCell']) hn9 HM2.out.sz ?_; intro v' u3 hO7 hg7 _; (obtain ⟨g7, cp7, hv7, hge7, -, -, -, -⟩ := own_some hO7 (by omega)); subst hv7; (have HM3 := Lib.hid (HM2.out.appG HNN.out hg7 hO7)); (have HS3 := Lib.hid (And.intro (own_keep HM2.out.og hg7 HS2.out.1 (by decide)) (And.intro (own_keep HM2.out.og hg7 HS2.out.2.1 (by decide)) (own_keep HM2.out.og hg7 HS2.out.2.2 (by decide))))); (have HR3 := Lib.hid (own_other HM2.out.og hg7 HR2.out (by decide))); (have HG7 := Lib.hid hg7); clear hO7 hg7)
              have q2c := cell_blk HM3.out.g; have q2f := frz_blk HM3.out.g; have q3c := cell_blk HM3.out.k; have q3f := frz_blk HM3.out.k
              refine ⟨HS3.out, ?_⟩
              refine wpV_two ?_ ?_
              · skip
                simp only [picks, List.drop_succ_cons, List.drop_zero]
                go_wp2_with (fail)
                refine ⟨HS3.out, ?_⟩
                refine wpV_one ?_
                simp only [picks, List.drop_succ_cons, List.drop_zero]
                go_wp2_with (fail)
                refine andV_name (fun u4 hu4 => ?_)
                have hM4 := HM3.out.setG HNN.out (.slice (some ⟨g7, 0, none⟩) (n + 1) cp7)
                rw [← hu4] at hM4
                have HS4 : Hid (GpsAt n1 B n4 T t N ns g F u4) := Lib.hid (by rw [hu4]; exact ⟨blk_set_ne HS3.out.1 (by omega), blk_set_ne HS3.out.2.1 (by omega), blk_set_ne HS3.out.2.2 (by omega)⟩)
                have HD4 : Hid (u4.heap[d]? = some (.deferred (some []))) := Lib.hid (by rw [hu4]; exact blk_set_ne (keepD HM2.out.og HG7.out (HE2.out.blk HDU.out)) (by omega))
                have q3c := cell_blk hM4.k; have q3f := frz_blk hM4.k
                have HM4 := Lib.hid hM4
                clear hu4 hM4
                refine ⟨HS4.out, ?_⟩
                exact key bq g7 cp7 _ ⟨HS4.out, HM4.out, HD4.out⟩
              · skip
                simp only [picks, List.drop_succ_cons, List.drop_zero]
                go_wp2_with (fail)
                refine andV_name (fun u4 hu4 => ?_)
                have hM4 := HM3.out.setG HNN.out (.slice (some ⟨g7, 0, none⟩) (n + 1) cp7)
                rw [← hu4] at hM4
                have HS4 : Hid (GpsAt n1 B n4 T t N ns g F u4) := Lib.hid (by rw [hu4]; exact ⟨blk_set_ne HS3.out.1 (by omega), blk_set_ne HS3.out.2.1 (by omega), blk_set_ne HS3.out.2.2 (by omega)⟩)
                have HD4 : Hid (u4.heap[d]? = some (.deferred (some []))) := Lib.hid (by rw [hu4]; exact blk_set_ne (keepD HM2.out.og HG7.out (HE2.out.blk HDU.out)) (by omega))
                have q3c := cell_blk hM4.k; have q3f := frz_blk hM4.k
                have HM4 := Lib.hid hM4
                clear hu4 hM4
                refine ⟨HS4.out, ?_⟩
                refine wpV_one ?_
                simp only [picks, List.drop_succ_cons, List.drop_zero]
                go_wp2_with (fail)
                refine ⟨HS4.out, ?_⟩
                exact key bq g7 cp7 _ ⟨HS4.out, HM4.out, HD4.out⟩
            · skip
              simp only [picks, List.drop_succ_cons, List.drop_zero]
              go_wp2_with (fail)
              refine ⟨HS2.out, ?_⟩
              refine wpV_one ?_
              simp only [picks, List.drop_succ_cons, List.drop_zero]
              go_wp2_with (at_builtin; refine app_one_at [.int .i64 T.reel.frames, .int .i64 1, .int .i64 0, .int .i64 400000] elGap rfl _ _ rfl C rfl HM2.out.og bq 1 rfl NBQ.out (by simp [Value.oneCell']) hn9 HM2.out.sz ?_; intro v' u3 hO7 hg7 _; (obtain ⟨g7, cp7, hv7, hge7, -, -, -, -⟩ := own_some hO7 (by omega)); subst hv7; (have HM3 := Lib.hid (HM2.out.appG HNN.out hg7 hO7)); (have HS3 := Lib.hid (And.intro (own_keep HM2.out.og hg7 HS2.out.1 (by decide)) (And.intro (own_keep HM2.out.og hg7 HS2.out.2.1 (by decide)) (own_keep HM2.out.og hg7 HS2.out.2.2 (by decide))))); (have HR3 := Lib.hid (own_other HM2.out.og hg7 HR2.out (by decide))); (have HG7 := Lib.hid hg7); clear hO7 hg7)
              have q2c := cell_blk HM3.out.g; have q2f := frz_blk HM3.out.g; have q3c := cell_blk HM3.out.k; have q3f := frz_blk HM3.out.k
              refine ⟨HS3.out, ?_⟩
              refine wpV_one ?_
              simp only [picks, List.drop_succ_cons, List.drop_zero]
              go_wp2_with (fail)
              refine andV_name (fun u4 hu4 => ?_)
              have hM4 := HM3.out.setG HNN.out (.slice (some ⟨g7, 0, none⟩) (n + 1) cp7)
              rw [← hu4] at hM4
              have HS4 : Hid (GpsAt n1 B n4 T t N ns g F u4) := Lib.hid (by rw [hu4]; exact ⟨blk_set_ne HS3.out.1 (by omega), blk_set_ne HS3.out.2.1 (by omega), blk_set_ne HS3.out.2.2 (by omega)⟩)
              have HD4 : Hid (u4.heap[d]? = some (.deferred (some []))) := Lib.hid (by rw [hu4]; exact blk_set_ne (keepD HM2.out.og HG7.out (HE2.out.blk HDU.out)) (by omega))
              have q3c := cell_blk hM4.k; have q3f := frz_blk hM4.k
              have HM4 := Lib.hid hM4
              clear hu4 hM4
              refine ⟨HS4.out, ?_⟩
              exact key bq g7 cp7 _ ⟨HS4.out, HM4.out, HD4.out⟩
          · skip
            simp only [picks, List.drop_succ_cons, List.drop_zero]
            go_wp2_with (fail)
            refine ⟨HS2.out, ?_⟩
            refine wpV_one ?_
            simp only [picks, List.drop_succ_cons, List.drop_zero]
            go_wp2_with (fail)
            refine ⟨HS2.out, ?_⟩
            refine wpV_one ?_
            simp only [picks, List.drop_succ_cons, List.drop_zero]
            go_wp2_with (at_builtin; refine app_one_at [.int .i64 T.reel.frames, .int .i64 1, .int .i64 0, .int .i64 400000] elGap rfl _ _ rfl C rfl HM2.out.og bq 1 rfl NBQ.out (by simp [Value.oneCell']) hn9 HM2.out.sz ?_; intro v' u3 hO7 hg7 _; (obtain ⟨g7, cp7, hv7, hge7, -, -, -, -⟩ := own_some hO7 (by omega)); subst hv7; (have HM3 := Lib.hid (HM2.out.appG HNN.out hg7 hO7)); (have HS3 := Lib.hid (And.intro (own_keep HM2.out.og hg7 HS2.out.1 (by decide)) (And.intro (own_keep HM2.out.og hg7 HS2.out.2.1 (by decide)) (own_keep HM2.out.og hg7 HS2.out.2.2 (by decide))))); (have HR3 := Lib.hid (own_other HM2.out.og hg7 HR2.out (by decide))); (have HG7 := Lib.hid hg7); clear hO7 hg7)
            have q2c := cell_blk HM3.out.g; have q2f := frz_blk HM3.out.g; have q3c := cell_blk HM3.out.k; have q3f := frz_blk HM3.out.k
            refine ⟨HS3.out, ?_⟩
            refine wpV_one ?_
            simp only [picks, List.drop_succ_cons, List.drop_zero]
            go_wp2_with (fail)
            refine andV_name (fun u4 hu4 => ?_)
            have hM4 := HM3.out.setG HNN.out (.slice (some ⟨g7, 0, none⟩) (n + 1) cp7)
            rw [← hu4] at hM4
            have HS4 : Hid (GpsAt n1 B n4 T t N ns g F u4) := Lib.hid (by rw [hu4]; exact ⟨blk_set_ne HS3.out.1 (by omega), blk_set_ne HS3.out.2.1 (by omega), blk_set_ne HS3.out.2.2 (by omega)⟩)
            have HD4 : Hid (u4.heap[d]? = some (.deferred (some []))) := Lib.hid (by rw [hu4]; exact blk_set_ne (keepD HM2.out.og HG7.out (HE2.out.blk HDU.out)) (by omega))
            have q3c := cell_blk hM4.k; have q3f := frz_blk hM4.k
            have HM4 := Lib.hid hM4
            clear hu4 hM4
            refine ⟨HS4.out, ?_⟩
            exact key bq g7 cp7 _ ⟨HS4.out, HM4.out, HD4.out⟩
        · skip
          simp only [picks, List.drop_succ_cons, List.drop_zero]
          go_wp2_with (fail)
          refine ⟨HS.out, ?_⟩
          refine wpV_two ?_ ?_
          · skip
            simp only [picks, List.drop_succ_cons, List.drop_zero]
            go_wp2_with (fail)
            refine ⟨HS.out, ?_⟩
            refine wpV_one ?_
            simp only [picks, List.drop_succ_cons, List.drop_zero]
            go_wp2_with (fail)
            refine andV_name (fun u2 hu2 => ?_)
            obtain ⟨bq, hbq⟩ : ∃ b, b = u0.heap.size := ⟨_, rfl⟩
            have nbq : u2.heap[bq]? = some (Obj.cells #[.int .i64 T.reel.frames, .int .i64 1, .int .i64 0, .int .i64 400000] 49 (0, 0)) := by rw [hu2, hbq]; exact blk_new _ _
            have hE2 : Ext2 u0 u2 := by rw [hu2]; exact below_alloc' _ _
            have hM2 := HM.out.ext hE2
            have HS2 := Lib.hid (HSX.out u2 hE2)
            have HR2 := Lib.hid (HR.out.below hE2)
            have q2c := cell_blk hM2.g; have q2f := frz_blk hM2.g; have q3c := cell_blk hM2.k; have q3f := frz_blk hM2.k
            have HM2 := Lib.hid hM2; have NBQ := Lib.hid nbq
            rw [← hbq]
            clear hu2 hbq hM2 nbq
            have HE2 := Lib.hid hE2; clear hE2
            refine ⟨HS2.out, ?_⟩
            refine wpV_one ?_
            simp only [picks, List.drop_succ_cons, List.drop_zero]
            go_wp2_with (at_builtin; refine app_one_at [.int .i64 T.reel.frames, .int .i64 1, .int .i64 0, .int .i64 400000] elGap rfl _ _ rfl C rfl HM2.out.og bq 1 rfl NBQ.out (by simp [Value.oneCell']) hn9 HM2.out.sz ?_; intro v' u3 hO7 hg7 _; (obtain ⟨g7, cp7, hv7, hge7, -, -, -, -⟩ := own_some hO7 (by omega)); subst hv7; (have HM3 := Lib.hid (HM2.out.appG HNN.out hg7 hO7)); (have HS3 := Lib.hid (And.intro (own_keep HM2.out.og hg7 HS2.out.1 (by decide)) (And.intro (own_keep HM2.out.og hg7 HS2.out.2.1 (by decide)) (own_keep HM2.out.og hg7 HS2.out.2.2 (by decide))))); (have HR3 := Lib.hid (own_other HM2.out.og hg7 HR2.out (by decide))); (have HG7 := Lib.hid hg7); clear hO7 hg7)
            have q2c := cell_blk HM3.out.g; have q2f := frz_blk HM3.out.g; have q3c := cell_blk HM3.out.k; have q3f := frz_blk HM3.out.k
            refine ⟨HS3.out, ?_⟩
            refine wpV_one ?_
            simp only [picks, List.drop_succ_cons, List.drop_zero]
            go_wp2_with (fail)
            refine andV_name (fun u4 hu4 => ?_)
            have hM4 := HM3.out.setG HNN.out (.slice (some ⟨g7, 0, none⟩) (n + 1) cp7)
            rw [← hu4] at hM4
            have HS4 : Hid (GpsAt n1 B n4 T t N ns g F u4) := Lib.hid (by rw [hu4]; exact ⟨blk_set_ne HS3.out.1 (by omega), blk_set_ne HS3.out.2.1 (by omega), blk_set_ne HS3.out.2.2 (by omega)⟩)
            have HD4 : Hid (u4.heap[d]? = some (.deferred (some []))) := Lib.hid (by rw [hu4]; exact blk_set_ne (keepD HM2.out.og HG7.out (HE2.out.blk HDU.out)) (by omega))
            have q3c := cell_blk hM4.k; have q3f := frz_blk hM4.k
            have HM4 := Lib.hid hM4
            clear hu4 hM4
            refine ⟨HS4.out, ?_⟩
            exact key bq g7 cp7 _ ⟨HS4.out, HM4.out, HD4.out⟩
          · skip
            simp only [picks, List.drop_succ_cons, List.drop_zero]
            go_wp2_with (fail)
            refine andV_name (fun u2 hu2 => ?_)
            obtain ⟨bq, hbq⟩ : ∃ b, b = u0.heap.size := ⟨_, rfl⟩
            have nbq : u2.heap[bq]? = some (Obj.cells #[.int .i64 T.reel.frames, .int .i64 1, .int .i64 0, .int .i64 400000] 49 (0, 0)) := by rw [hu2, hbq]; exact blk_new _ _
            have hE2 : Ext2 u0 u2 := by rw [hu2]; exact below_alloc' _ _
            have hM2 := HM.out.ext hE2
            have HS2 := Lib.hid (HSX.out u2 hE2)
            have HR2 := Lib.hid (HR.out.below hE2)
            have q2c := cell_blk hM2.g; have q2f := frz_blk hM2.g; have q3c := cell_blk hM2.k; have q3f := frz_blk hM2.k
            have HM2 := Lib.hid hM2; have NBQ := Lib.hid nbq
            rw [← hbq]
            clear hu2 hbq hM2 nbq
            have HE2 := Lib.hid hE2; clear hE2
            refine ⟨HS2.out, ?_⟩
            refine wpV_one ?_
            simp only [picks, List.drop_succ_cons, List.drop_zero]
            go_wp2_with (fail)
            refine ⟨HS2.out, ?_⟩
            refine wpV_one ?_
            simp only [picks, List.drop_succ_cons, List.drop_zero]
            go_wp2_with (at_builtin; refine app_one_at [.int .i64 T.reel.frames, .int .i64 1, .int .i64 0, .int .i64 400000] elGap rfl _ _ rfl C rfl HM2.out.og bq 1 rfl NBQ.out (by simp [Value.oneCell']) hn9 HM2.out.sz ?_; intro v' u3 hO7 hg7 _; (obtain ⟨g7, cp7, hv7, hge7, -, -, -, -⟩ := own_some hO7 (by omega)); subst hv7; (have HM3 := Lib.hid (HM2.out.appG HNN.out hg7 hO7)); (have HS3 := Lib.hid (And.intro (own_keep HM2.out.og hg7 HS2.out.1 (by decide)) (And.intro (own_keep HM2.out.og hg7 HS2.out.2.1 (by decide)) (own_keep HM2.out.og hg7 HS2.out.2.2 (by decide))))); (have HR3 := Lib.hid (own_other HM2.out.og hg7 HR2.out (by decide))); (have HG7 := Lib.hid hg7); clear hO7 hg7)
            have q2c := cell_blk HM3.out.g; have q2f := frz_blk HM3.out.g; have q3c := cell_blk HM3.out.k; have q3f := frz_blk HM3.out.k
            refine ⟨HS3.out, ?_⟩
            refine wpV_one ?_
            simp only [picks, List.drop_succ_cons, List.drop_zero]
            go_wp2_with (fail)
            refine andV_name (fun u4 hu4 => ?_)
            have hM4 := HM3.out.setG HNN.out (.slice (some ⟨g7, 0, none⟩) (n + 1) cp7)
            rw [← hu4] at hM4
            have HS4 : Hid (GpsAt n1 B n4 T t N ns g F u4) := Lib.hid (by rw [hu4]; exact ⟨blk_set_ne HS3.out.1 (by omega), blk_set_ne HS3.out.2.1 (by omega), blk_set_ne HS3.out.2.2 (by omega)⟩)
            have HD4 : Hid (u4.heap[d]? = some (.deferred (some []))) := Lib.hid (by rw [hu4]; exact blk_set_ne (keepD HM2.out.og HG7.out (HE2.out.blk HDU.out)) (by omega))
            have q3c := cell_blk hM4.k; have q3f := frz_blk hM4.k
            have HM4 := Lib.hid hM4
            clear hu4 hM4
            refine ⟨HS4.out, ?_⟩
            exact key bq g7 cp7 _ ⟨HS4.out, HM4.out, HD4.out⟩
      case ke1 =>
        rintro bq g7 cp7 u ⟨hS, hM, hD2⟩
        have q2c := cell_blk hM.g; have q2f := frz_blk hM.g; have q3c := cell_blk hM.k; have q3f := frz_blk hM.k
        have HS := Lib.hid hS; have HM := Lib.hid hM; have HDU := Lib.hid hD2
        clear hS hM hD2
        refine wpV_one ?_
        simp only [picks, List.drop_succ_cons, List.drop_zero]
        go_wp2_with (fail)
        refine andV_name (fun u5 hu5 => ?_)
        have HS5 : Hid (GpsAt n1 B n4 T t N ns g F u5) := Lib.hid (by rw [hu5]; exact ⟨blk_set_ne HS.out.1 (by omega), blk_set_ne HS.out.2.1 (by omega), blk_set_ne HS.out.2.2 (by omega)⟩)
        have hM5 := HM.out.setK HNN.out (.slice ka nk kc)
        rw [← hu5] at hM5
        have HD5 : Hid (u5.heap[d]? = some (.deferred (some []))) := Lib.hid (by rw [hu5]; exact blk_set_ne HDU.out (by omega))
        have q2c := cell_blk hM5.g; have q2f := frz_blk hM5.g; have q3c := cell_blk hM5.k; have q3f := frz_blk hM5.k
        have HM5 := Lib.hid hM5
        clear hu5 hM5
        have hl1 : (gapsN F N).1.length = n + 1 := by rw [HF.out, List.length_append, List.length_singleton, ← HN.out]
        have hl2 : (gapsN F N).2.length = nk := by rw [HF.out]; exact HNK.out.symm
        have HL1 := Lib.hid hl1; have HL2 := Lib.hid hl2
        clear hl1 hl2
        refine ⟨HS5.out, wpV_leaf ?_⟩
        refine noPan_normal ?_
        go_wp2_with (fail)
        refine leaveM_take (by simp) HD5.out ?_
        have r1 := blk_put (d := d) (o := .deferred none) HM5.out.g (by omega)
        have r2 := blk_put (d := d) (o := .deferred none) HM5.out.k (by omega)
        have zc := cell_blk r1
        have zf := frz_blk r1
        have yc := cell_blk r2
        have yf := frz_blk r2
        refine leaves_nil (v := .tuple #[.slice (some ⟨g7, 0, none⟩) (n + 1) cp7, .slice ka nk kc]) (by simp [results, Tryz.results48, go_sem, zc, yc]) ⟨⟨⟨some ⟨g7, 0, none⟩, cp7⟩, ⟨ka, kc⟩, by rw [HL1.out, HL2.out], ?_, ?_⟩, below_put HM5.out.bel (by omega)⟩
        · rw [GapsS, HL1.out]
          refine own_row (own_putD (OwnR.congr HM5.out.og fun i j hi hj => ?_) HD5.out)
          rw [HF.out, HN.out, HT.out.fr]
          exact gpC_snoc (x := ⟨(F : Int), 1, 0, 400000⟩) (by rw [← HN.out]; exact hi) hj
        · rw [StrikesS, HL2.out]
          refine own_row (own_putD (OwnR.congr HM5.out.ok fun i j hi hj => ?_) HD5.out)
          rw [HF.out]
    · have hb0 : ((n : Int) == 0) = false := by simp; omega
      have HF : Hid (gapsN F N = (G ++ [⟨F, 3, 0, 400000⟩], K)) := Lib.hid (by rw [HGN.out, if_neg hn0])
      clear hn0
      go_upto_region 12 with (fail)
      clear q2c q2f
      refine meetV3 (C := fun (bq g7 cp7 : Nat) (u : World) => GpsAt n1 B n4 T t N ns g F u ∧ GpsM B n1 n2 n3 n4 w5.heap.size C w W (n + 1) (upd (gpC G) n [.int .i64 T.reel.frames, .int .i64 3, .int .i64 0, .int .i64 400000]) nk (skC K) (.slice (some ⟨g7, 0, none⟩) (n + 1) cp7) (.slice ka nk kc) (.slice (some ⟨g7, 0, none⟩) (n + 1) cp7) (.slice ka nk kc) u ∧ u.heap[d]? = some (.deferred (some []))) (P := Tryz.prog) (l := ?ll2) (t := .one 14 .leaf) (Q := ?qq2) (S := GpsAt n1 B n4 T t N ns g F) (A := ?ax2) (fun key => ?tr2) ?ke2
      case tr2 =>
        refine region_treeVN (GpsAt n1 B n4 T t N ns g F) (.flt [1, 2, 3, 4, 5, 6, 7, 8, 9] (.thr 0 (.two 10 (.two 11 (.two 12 (.one 13 (.one 14 .leaf)) 13 (.one 12 (.one 14 .leaf))) 12 (.one 11 (.one 13 (.one 14 .leaf)))) 12 (.one 10 (.one 11 (.one 13 (.one 14 .leaf))))) 10 (.two 0 (.two 11 (.two 12 (.one 13 (.one 14 .leaf)) 13 (.one 12 (.one 14 .leaf))) 12 (.one 11 (.one 13 (.one 14 .leaf)))) 12 (.one 0 (.one 11 (.one 13 (.one 14 .leaf))))) 12 (.two 0 (.one 10 (.one 11 (.one 13 (.one 14 .leaf)))) 10 (.one 0 (.one 11 (.one 13 (.one 14 .leaf))))))) (fun W' hW' => HS7.out.ext W' hW') (by kernel_rfl) (by kernel_rfl) ?_
        intro u0 hE
        have hM := HMM.out.ext hE
        have hS := HS7.out.ext u0 hE
        have hR : OwnR u0 0 63 4 (.slice none 0 0) 0 (skC []) := own_nil _ _ _ _ _
        have hSx := fun (W' : World) (h : Ext2 u0 W') => GpsAt.ext hS W' h
        have q2c := cell_blk hM.g; have q2f := frz_blk hM.g; have q3c := cell_blk hM.k; have q3f := frz_blk hM.k
        have HS := Lib.hid hS; have HM := Lib.hid hM; have HR := Lib.hid hR; have HSX := Lib.hid hSx; have HDU := Lib.hid (hE.blk HD.out)
        clear hE hS hM hR hSx
        refine wpV_flt ?_
        simp only [picks, List.drop_succ_cons, List.drop_zero]
        repeat ((with_reducible refine wpQS_step (fun K hK => ?_)); go_simp; ((with_reducible refine hK _ ?_); clear hK K))
        (with_reducible refine wpQS_nil ?_)
        refine wpV_thr ?_ ?_ ?_
        · skip
          simp only [picks, List.drop_succ_cons, List.drop_zero]
          go_wp2_with (fail)
          refine ⟨HS.out, ?_⟩
          refine wpV_two ?_ ?_
          · skip
            simp only [picks, List.drop_succ_cons, List.drop_zero]
            go_wp2_with (fail)
            refine andV_name (fun u2 hu2 => ?_)
            obtain ⟨bq, hbq⟩ : ∃ b, b = u0.heap.size := ⟨_, rfl⟩
            have nbq : u2.heap[bq]? = some (Obj.cells #[.int .i64 T.reel.frames, .int .i64 3, .int .i64 0, .int .i64 400000] 49 (0, 0)) := by rw [hu2, hbq]; exact blk_new _ _
            have hE2 : Ext2 u0 u2 := by rw [hu2]; exact below_alloc' _ _
            have hM2 := HM.out.ext hE2
            have HS2 := Lib.hid (HSX.out u2 hE2)
            have HR2 := Lib.hid (HR.out.below hE2)
            have q2c := cell_blk hM2.g; have q2f := frz_blk hM2.g; have q3c := cell_blk hM2.k; have q3f := frz_blk hM2.k
            have HM2 := Lib.hid hM2; have NBQ := Lib.hid nbq
            rw [← hbq]
            clear hu2 hbq hM2 nbq
            have HE2 := Lib.hid hE2; clear hE2
            refine ⟨HS2.out, ?_⟩
            refine wpV_two ?_ ?_
            · skip
              simp only [picks, List.drop_succ_cons, List.drop_zero]
              go_wp2_with (at_builtin; refine app_one_at [.int .i64 T.reel.frames, .int .i64 3, .int .i64 0, .int .i64 400000] elGap rfl _ _ rfl C rfl HM2.out.og bq 1 rfl NBQ.out (by simp [Value.oneCell']) hn9 HM2.out.sz ?_; intro v' u3 hO7 hg7 _; (obtain ⟨g7, cp7, hv7, hge7, -, -, -, -⟩ := own_some hO7 (by omega)); subst hv7; (have HM3 := Lib.hid (HM2.out.appG HNN.out hg7 hO7)); (have HS3 := Lib.hid (And.intro (own_keep HM2.out.og hg7 HS2.out.1 (by decide)) (And.intro (own_keep HM2.out.og hg7 HS2.out.2.1 (by decide)) (own_keep HM2.out.og hg7 HS2.out.2.2 (by decide))))); (have HR3 := Lib.hid (own_other HM2.out.og hg7 HR2.out (by decide))); (have HG7 := Lib.hid hg7); clear hO7 hg7)
              have q2c := cell_blk HM3.out.g; have q2f := frz_blk HM3.out.g; have q3c := cell_blk HM3.out.k; have q3f := frz_blk HM3.out.k
              refine ⟨HS3.out, ?_⟩
              refine wpV_two ?_ ?_
              · skip
                simp only [picks, List.drop_succ_cons, List.drop_zero]
                go_wp2_with (fail)
                refine ⟨HS3.out, ?_⟩
                refine wpV_one ?_
                simp only [picks, List.drop_succ_cons, List.drop_zero]
                go_wp2_with (fail)
                refine andV_name (fun u4 hu4 => ?_)
                have hM4 := HM3.out.setG HNN.out (.slice (some ⟨g7, 0, none⟩) (n + 1) cp7)
                rw [← hu4] at hM4
                have HS4 : Hid (GpsAt n1 B n4 T t N ns g F u4) := Lib.hid (by rw [hu4]; exact ⟨blk_set_ne HS3.out.1 (by omega), blk_set_ne HS3.out.2.1 (by omega), blk_set_ne HS3.out.2.2 (by omega)⟩)
                have HD4 : Hid (u4.heap[d]? = some (.deferred (some []))) := Lib.hid (by rw [hu4]; exact blk_set_ne (keepD HM2.out.og HG7.out (HE2.out.blk HDU.out)) (by omega))
                have q3c := cell_blk hM4.k; have q3f := frz_blk hM4.k
                have HM4 := Lib.hid hM4
                clear hu4 hM4
                refine ⟨HS4.out, ?_⟩
                exact key bq g7 cp7 _ ⟨HS4.out, HM4.out, HD4.out⟩
              · skip
                simp only [picks, List.drop_succ_cons, List.drop_zero]
                go_wp2_with (fail)
                refine andV_name (fun u4 hu4 => ?_)
                have hM4 := HM3.out.setG HNN.out (.slice (some ⟨g7, 0, none⟩) (n + 1) cp7)
                rw [← hu4] at hM4
                have HS4 : Hid (GpsAt n1 B n4 T t N ns g F u4) := Lib.hid (by rw [hu4]; exact ⟨blk_set_ne HS3.out.1 (by omega), blk_set_ne HS3.out.2.1 (by omega), blk_set_ne HS3.out.2.2 (by omega)⟩)
                have HD4 : Hid (u4.heap[d]? = some (.deferred (some []))) := Lib.hid (by rw [hu4]; exact blk_set_ne (keepD HM2.out.og HG7.out (HE2.out.blk HDU.out)) (by omega))
                have q3c := cell_blk hM4.k; have q3f := frz_blk hM4.k
                have HM4 := Lib.hid hM4
                clear hu4 hM4
                refine ⟨HS4.out, ?_⟩
                refine wpV_one ?_
                simp only [picks, List.drop_succ_cons, List.drop_zero]
                go_wp2_with (fail)
                refine ⟨HS4.out, ?_⟩
                exact key bq g7 cp7 _ ⟨HS4.out, HM4.out, HD4.out⟩
            · skip
              simp only [picks, List.drop_succ_cons, List.drop_zero]
              go_wp2_with (fail)
              refine ⟨HS2.out, ?_⟩
              refine wpV_one ?_
              simp only [picks, List.drop_succ_cons, List.drop_zero]
              go_wp2_with (at_builtin; refine app_one_at [.int .i64 T.reel.frames, .int .i64 3, .int .i64 0, .int .i64 400000] elGap rfl _ _ rfl C rfl HM2.out.og bq 1 rfl NBQ.out (by simp [Value.oneCell']) hn9 HM2.out.sz ?_; intro v' u3 hO7 hg7 _; (obtain ⟨g7, cp7, hv7, hge7, -, -, -, -⟩ := own_some hO7 (by omega)); subst hv7; (have HM3 := Lib.hid (HM2.out.appG HNN.out hg7 hO7)); (have HS3 := Lib.hid (And.intro (own_keep HM2.out.og hg7 HS2.out.1 (by decide)) (And.intro (own_keep HM2.out.og hg7 HS2.out.2.1 (by decide)) (own_keep HM2.out.og hg7 HS2.out.2.2 (by decide))))); (have HR3 := Lib.hid (own_other HM2.out.og hg7 HR2.out (by decide))); (have HG7 := Lib.hid hg7); clear hO7 hg7)
              have q2c := cell_blk HM3.out.g; have q2f := frz_blk HM3.out.g; have q3c := cell_blk HM3.out.k; have q3f := frz_blk HM3.out.k
              refine ⟨HS3.out, ?_⟩
              refine wpV_one ?_
              simp only [picks, List.drop_succ_cons, List.drop_zero]
              go_wp2_with (fail)
              refine andV_name (fun u4 hu4 => ?_)
              have hM4 := HM3.out.setG HNN.out (.slice (some ⟨g7, 0, none⟩) (n + 1) cp7)
              rw [← hu4] at hM4
              have HS4 : Hid (GpsAt n1 B n4 T t N ns g F u4) := Lib.hid (by rw [hu4]; exact ⟨blk_set_ne HS3.out.1 (by omega), blk_set_ne HS3.out.2.1 (by omega), blk_set_ne HS3.out.2.2 (by omega)⟩)
              have HD4 : Hid (u4.heap[d]? = some (.deferred (some []))) := Lib.hid (by rw [hu4]; exact blk_set_ne (keepD HM2.out.og HG7.out (HE2.out.blk HDU.out)) (by omega))
              have q3c := cell_blk hM4.k; have q3f := frz_blk hM4.k
              have HM4 := Lib.hid hM4
              clear hu4 hM4
              refine ⟨HS4.out, ?_⟩
              exact key bq g7 cp7 _ ⟨HS4.out, HM4.out, HD4.out⟩
          · skip
            simp only [picks, List.drop_succ_cons, List.drop_zero]
            go_wp2_with (fail)
            refine ⟨HS.out, ?_⟩
            refine wpV_one ?_
            simp only [picks, List.drop_succ_cons, List.drop_zero]
            go_wp2_with (fail)
            refine andV_name (fun u2 hu2 => ?_)
            obtain ⟨bq, hbq⟩ : ∃ b, b = u0.heap.size := ⟨_, rfl⟩
            have nbq : u2.heap[bq]? = some (Obj.cells #[.int .i64 T.reel.frames, .int .i64 3, .int .i64 0, .int .i64 400000] 49 (0, 0)) := by rw [hu2, hbq]; exact blk_new _ _
            have hE2 : Ext2 u0 u2 := by rw [hu2]; exact below_alloc' _ _
            have hM2 := HM.out.ext hE2
            have HS2 := Lib.hid (HSX.out u2 hE2)
            have HR2 := Lib.hid (HR.out.below hE2)
            have q2c := cell_blk hM2.g; have q2f := frz_blk hM2.g; have q3c := cell_blk hM2.k; have q3f := frz_blk hM2.k
            have HM2 := Lib.hid hM2; have NBQ := Lib.hid nbq
            rw [← hbq]
            clear hu2 hbq hM2 nbq
            have HE2 := Lib.hid hE2; clear hE2
            refine ⟨HS2.out, ?_⟩
            refine wpV_one ?_
            simp only [picks, List.drop_succ_cons, List.drop_zero]
            go_wp2_with (at_builtin; refine app_one_at [.int .i64 T.reel.frames, .int .i64 3, .int .i64 0, .int .i64 400000] elGap rfl _ _ rfl C rfl HM2.out.og bq 1 rfl NBQ.out (by simp [Value.oneCell']) hn9 HM2.out.sz ?_; intro v' u3 hO7 hg7 _; (obtain ⟨g7, cp7, hv7, hge7, -, -, -, -⟩ := own_some hO7 (by omega)); subst hv7; (have HM3 := Lib.hid (HM2.out.appG HNN.out hg7 hO7)); (have HS3 := Lib.hid (And.intro (own_keep HM2.out.og hg7 HS2.out.1 (by decide)) (And.intro (own_keep HM2.out.og hg7 HS2.out.2.1 (by decide)) (own_keep HM2.out.og hg7 HS2.out.2.2 (by decide))))); (have HR3 := Lib.hid (own_other HM2.out.og hg7 HR2.out (by decide))); (have HG7 := Lib.hid hg7); clear hO7 hg7)
            have q2c := cell_blk HM3.out.g; have q2f := frz_blk HM3.out.g; have q3c := cell_blk HM3.out.k; have q3f := frz_blk HM3.out.k
            refine ⟨HS3.out, ?_⟩
            refine wpV_one ?_
            simp only [picks, List.drop_succ_cons, List.drop_zero]
            go_wp2_with (fail)
            refine andV_name (fun u4 hu4 => ?_)
            have hM4 := HM3.out.setG HNN.out (.slice (some ⟨g7, 0, none⟩) (n + 1) cp7)
            rw [← hu4] at hM4
            have HS4 : Hid (GpsAt n1 B n4 T t N ns g F u4) := Lib.hid (by rw [hu4]; exact ⟨blk_set_ne HS3.out.1 (by omega), blk_set_ne HS3.out.2.1 (by omega), blk_set_ne HS3.out.2.2 (by omega)⟩)
            have HD4 : Hid (u4.heap[d]? = some (.deferred (some []))) := Lib.hid (by rw [hu4]; exact blk_set_ne (keepD HM2.out.og HG7.out (HE2.out.blk HDU.out)) (by omega))
            have q3c := cell_blk hM4.k; have q3f := frz_blk hM4.k
            have HM4 := Lib.hid hM4
            clear hu4 hM4
            refine ⟨HS4.out, ?_⟩
            exact key bq g7 cp7 _ ⟨HS4.out, HM4.out, HD4.out⟩
        · skip
          simp only [picks, List.drop_succ_cons, List.drop_zero]
          go_wp2_with (fail)
          refine andV_name (fun u2 hu2 => ?_)
          obtain ⟨bq, hbq⟩ : ∃ b, b = u0.heap.size := ⟨_, rfl⟩
          have nbq : u2.heap[bq]? = some (Obj.cells #[.int .i64 T.reel.frames, .int .i64 3, .int .i64 0, .int .i64 400000] 49 (0, 0)) := by rw [hu2, hbq]; exact blk_new _ _
          have hE2 : Ext2 u0 u2 := by rw [hu2]; exact below_alloc' _ _
          have hM2 := HM.out.ext hE2
          have HS2 := Lib.hid (HSX.out u2 hE2)
          have HR2 := Lib.hid (HR.out.below hE2)
          have q2c := cell_blk hM2.g; have q2f := frz_blk hM2.g; have q3c := cell_blk hM2.k; have q3f := frz_blk hM2.k
          have HM2 := Lib.hid hM2; have NBQ := Lib.hid nbq
          rw [← hbq]
          clear hu2 hbq hM2 nbq
          have HE2 := Lib.hid hE2; clear hE2
          refine ⟨HS2.out, ?_⟩
          refine wpV_two ?_ ?_
          · skip
            simp only [picks, List.drop_succ_cons, List.drop_zero]
            go_wp2_with (fail)
            refine ⟨HS2.out, ?_⟩
            refine wpV_two ?_ ?_
            · skip
              simp only [picks, List.drop_succ_cons, List.drop_zero]
              go_wp2_with (at_builtin; refine app_one_at [.int .i64 T.reel.frames, .int .i64 3, .int .i64 0, .int .i64 400000] elGap rfl _ _ rfl C rfl HM2.out.og bq 1 rfl NBQ.out (by simp [Value.oneCell']) hn9 HM2.out.sz ?_; intro v' u3 hO7 hg7 _; (obtain ⟨g7, cp7, hv7, hge7, -, -, -, -⟩ := own_some hO7 (by omega)); subst hv7; (have HM3 := Lib.hid (HM2.out.appG HNN.out hg7 hO7)); (have HS3 := Lib.hid (And.intro (own_keep HM2.out.og hg7 HS2.out.1 (by decide)) (And.intro (own_keep HM2.out.og hg7 HS2.out.2.1 (by decide)) (own_keep HM2.out.og hg7 HS2.out.2.2 (by decide))))); (have HR3 := Lib.hid (own_other HM2.out.og hg7 HR2.out (by decide))); (have HG7 := Lib.hid hg7); clear hO7 hg7)
              have q2c := cell_blk HM3.out.g; have q2f := frz_blk HM3.out.g; have q3c := cell_blk HM3.out.k; have q3f := frz_blk HM3.out.k
              refine ⟨HS3.out, ?_⟩
              refine wpV_two ?_ ?_
              · skip
                simp only [picks, List.drop_succ_cons, List.drop_zero]
                go_wp2_with (fail)
                refine ⟨HS3.out, ?_⟩
                refine wpV_one ?_
                simp only [picks, List.drop_succ_cons, List.drop_zero]
                go_wp2_with (fail)
                refine andV_name (fun u4 hu4 => ?_)
                have hM4 := HM3.out.setG HNN.out (.slice (some ⟨g7, 0, none⟩) (n + 1) cp7)
                rw [← hu4] at hM4
                have HS4 : Hid (GpsAt n1 B n4 T t N ns g F u4) := Lib.hid (by rw [hu4]; exact ⟨blk_set_ne HS3.out.1 (by omega), blk_set_ne HS3.out.2.1 (by omega), blk_set_ne HS3.out.2.2 (by omega)⟩)
                have HD4 : Hid (u4.heap[d]? = some (.deferred (some []))) := Lib.hid (by rw [hu4]; exact blk_set_ne (keepD HM2.out.og HG7.out (HE2.out.blk HDU.out)) (by omega))
                have q3c := cell_blk hM4.k; have q3f := frz_blk hM4.k
                have HM4 := Lib.hid hM4
                clear hu4 hM4
                refine ⟨HS4.out, ?_⟩
                exact key bq g7 cp7 _ ⟨HS4.out, HM4.out, HD4.out⟩
              · skip
                simp only [picks, List.drop_succ_cons, List.drop_zero]
                go_wp2_with (fail)
                refine andV_name (fun u4 hu4 => ?_)
                have hM4 := HM3.out.setG HNN.out (.slice (some ⟨g7, 0, none⟩) (n + 1) cp7)
                rw [← hu4] at hM4
                have HS4 : Hid (GpsAt n1 B n4 T t N ns g F u4) := Lib.hid (by rw [hu4]; exact ⟨blk_set_ne HS3.out.1 (by omega), blk_set_ne HS3.out.2.1 (by omega), blk_set_ne HS3.out.2.2 (by omega)⟩)
                have HD4 : Hid (u4.heap[d]? = some (.deferred (some []))) := Lib.hid (by rw [hu4]; exact blk_set_ne (keepD HM2.out.og HG7.out (HE2.out.blk HDU.out)) (by omega))
                have q3c := cell_blk hM4.k; have q3f := frz_blk hM4.k
                have HM4 := Lib.hid hM4
                clear hu4 hM4
                refine ⟨HS4.out, ?_⟩
                refine wpV_one ?_
                simp only [picks, List.drop_succ_cons, List.drop_zero]
                go_wp2_with (fail)
                refine ⟨HS4.out, ?_⟩
                exact key bq g7 cp7 _ ⟨HS4.out, HM4.out, HD4.out⟩
            · skip
              simp only [picks, List.drop_succ_cons, List.drop_zero]
              go_wp2_with (fail)
              refine ⟨HS2.out, ?_⟩
              refine wpV_one ?_
              simp only [picks, List.drop_succ_cons, List.drop_zero]
              go_wp2_with (at_builtin; refine app_one_at [.int .i64 T.reel.frames, .int .i64 3, .int .i64 0, .int .i64 400000] elGap rfl _ _ rfl C rfl HM2.out.og bq 1 rfl NBQ.out (by simp [Value.oneCell']) hn9 HM2.out.sz ?_; intro v' u3 hO7 hg7 _; (obtain ⟨g7, cp7, hv7, hge7, -, -, -, -⟩ := own_some hO7 (by omega)); subst hv7; (have HM3 := Lib.hid (HM2.out.appG HNN.out hg7 hO7)); (have HS3 := Lib.hid (And.intro (own_keep HM2.out.og hg7 HS2.out.1 (by decide)) (And.intro (own_keep HM2.out.og hg7 HS2.out.2.1 (by decide)) (own_keep HM2.out.og hg7 HS2.out.2.2 (by decide))))); (have HR3 := Lib.hid (own_other HM2.out.og hg7 HR2.out (by decide))); (have HG7 := Lib.hid hg7); clear hO7 hg7)
              have q2c := cell_blk HM3.out.g; have q2f := frz_blk HM3.out.g; have q3c := cell_blk HM3.out.k; have q3f := frz_blk HM3.out.k
              refine ⟨HS3.out, ?_⟩
              refine wpV_one ?_
              simp only [picks, List.drop_succ_cons, List.drop_zero]
              go_wp2_with (fail)
              refine andV_name (fun u4 hu4 => ?_)
              have hM4 := HM3.out.setG HNN.out (.slice (some ⟨g7, 0, none⟩) (n + 1) cp7)
              rw [← hu4] at hM4
              have HS4 : Hid (GpsAt n1 B n4 T t N ns g F u4) := Lib.hid (by rw [hu4]; exact ⟨blk_set_ne HS3.out.1 (by omega), blk_set_ne HS3.out.2.1 (by omega), blk_set_ne HS3.out.2.2 (by omega)⟩)
              have HD4 : Hid (u4.heap[d]? = some (.deferred (some []))) := Lib.hid (by rw [hu4]; exact blk_set_ne (keepD HM2.out.og HG7.out (HE2.out.blk HDU.out)) (by omega))
              have q3c := cell_blk hM4.k; have q3f := frz_blk hM4.k
              have HM4 := Lib.hid hM4
              clear hu4 hM4
              refine ⟨HS4.out, ?_⟩
              exact key bq g7 cp7 _ ⟨HS4.out, HM4.out, HD4.out⟩
          · skip
            simp only [picks, List.drop_succ_cons, List.drop_zero]
            go_wp2_with (fail)
            refine ⟨HS2.out, ?_⟩
            refine wpV_one ?_
            simp only [picks, List.drop_succ_cons, List.drop_zero]
            go_wp2_with (fail)
            refine ⟨HS2.out, ?_⟩
            refine wpV_one ?_
            simp only [picks, List.drop_succ_cons, List.drop_zero]
            go_wp2_with (at_builtin; refine app_one_at [.int .i64 T.reel.frames, .int .i64 3, .int .i64 0, .int .i64 400000] elGap rfl _ _ rfl C rfl HM2.out.og bq 1 rfl NBQ.out (by simp [Value.oneCell']) hn9 HM2.out.sz ?_; intro v' u3 hO7 hg7 _; (obtain ⟨g7, cp7, hv7, hge7, -, -, -, -⟩ := own_some hO7 (by omega)); subst hv7; (have HM3 := Lib.hid (HM2.out.appG HNN.out hg7 hO7)); (have HS3 := Lib.hid (And.intro (own_keep HM2.out.og hg7 HS2.out.1 (by decide)) (And.intro (own_keep HM2.out.og hg7 HS2.out.2.1 (by decide)) (own_keep HM2.out.og hg7 HS2.out.2.2 (by decide))))); (have HR3 := Lib.hid (own_other HM2.out.og hg7 HR2.out (by decide))); (have HG7 := Lib.hid hg7); clear hO7 hg7)
            have q2c := cell_blk HM3.out.g; have q2f := frz_blk HM3.out.g; have q3c := cell_blk HM3.out.k; have q3f := frz_blk HM3.out.k
            refine ⟨HS3.out, ?_⟩
            refine wpV_one ?_
            simp only [picks, List.drop_succ_cons, List.drop_zero]
            go_wp2_with (fail)
            refine andV_name (fun u4 hu4 => ?_)
            have hM4 := HM3.out.setG HNN.out (.slice (some ⟨g7, 0, none⟩) (n + 1) cp7)
            rw [← hu4] at hM4
            have HS4 : Hid (GpsAt n1 B n4 T t N ns g F u4) := Lib.hid (by rw [hu4]; exact ⟨blk_set_ne HS3.out.1 (by omega), blk_set_ne HS3.out.2.1 (by omega), blk_set_ne HS3.out.2.2 (by omega)⟩)
            have HD4 : Hid (u4.heap[d]? = some (.deferred (some []))) := Lib.hid (by rw [hu4]; exact blk_set_ne (keepD HM2.out.og HG7.out (HE2.out.blk HDU.out)) (by omega))
            have q3c := cell_blk hM4.k; have q3f := frz_blk hM4.k
            have HM4 := Lib.hid hM4
            clear hu4 hM4
            refine ⟨HS4.out, ?_⟩
            exact key bq g7 cp7 _ ⟨HS4.out, HM4.out, HD4.out⟩
        · skip
          simp only [picks, List.drop_succ_cons, List.drop_zero]
          go_wp2_with (fail)
          refine ⟨HS.out, ?_⟩
          refine wpV_two ?_ ?_
          · skip
            simp only [picks, List.drop_succ_cons, List.drop_zero]
            go_wp2_with (fail)
            refine ⟨HS.out, ?_⟩
            refine wpV_one ?_
            simp only [picks, List.drop_succ_cons, List.drop_zero]
            go_wp2_with (fail)
            refine andV_name (fun u2 hu2 => ?_)
            obtain ⟨bq, hbq⟩ : ∃ b, b = u0.heap.size := ⟨_, rfl⟩
            have nbq : u2.heap[bq]? = some (Obj.cells #[.int .i64 T.reel.frames, .int .i64 3, .int .i64 0, .int .i64 400000] 49 (0, 0)) := by rw [hu2, hbq]; exact blk_new _ _
            have hE2 : Ext2 u0 u2 := by rw [hu2]; exact below_alloc' _ _
            have hM2 := HM.out.ext hE2
            have HS2 := Lib.hid (HSX.out u2 hE2)
            have HR2 := Lib.hid (HR.out.below hE2)
            have q2c := cell_blk hM2.g; have q2f := frz_blk hM2.g; have q3c := cell_blk hM2.k; have q3f := frz_blk hM2.k
            have HM2 := Lib.hid hM2; have NBQ := Lib.hid nbq
            rw [← hbq]
            clear hu2 hbq hM2 nbq
            have HE2 := Lib.hid hE2; clear hE2
            refine ⟨HS2.out, ?_⟩
            refine wpV_one ?_
            simp only [picks, List.drop_succ_cons, List.drop_zero]
            go_wp2_with (at_builtin; refine app_one_at [.int .i64 T.reel.frames, .int .i64 3, .int .i64 0, .int .i64 400000] elGap rfl _ _ rfl C rfl HM2.out.og bq 1 rfl NBQ.out (by simp [Value.oneCell']) hn9 HM2.out.sz ?_; intro v' u3 hO7 hg7 _; (obtain ⟨g7, cp7, hv7, hge7, -, -, -, -⟩ := own_some hO7 (by omega)); subst hv7; (have HM3 := Lib.hid (HM2.out.appG HNN.out hg7 hO7)); (have HS3 := Lib.hid (And.intro (own_keep HM2.out.og hg7 HS2.out.1 (by decide)) (And.intro (own_keep HM2.out.og hg7 HS2.out.2.1 (by decide)) (own_keep HM2.out.og hg7 HS2.out.2.2 (by decide))))); (have HR3 := Lib.hid (own_other HM2.out.og hg7 HR2.out (by decide))); (have HG7 := Lib.hid hg7); clear hO7 hg7)
            have q2c := cell_blk HM3.out.g; have q2f := frz_blk HM3.out.g; have q3c := cell_blk HM3.out.k; have q3f := frz_blk HM3.out.k
            refine ⟨HS3.out, ?_⟩
            refine wpV_one ?_
            simp only [picks, List.drop_succ_cons, List.drop_zero]
            go_wp2_with (fail)
            refine andV_name (fun u4 hu4 => ?_)
            have hM4 := HM3.out.setG HNN.out (.slice (some ⟨g7, 0, none⟩) (n + 1) cp7)
            rw [← hu4] at hM4
            have HS4 : Hid (GpsAt n1 B n4 T t N ns g F u4) := Lib.hid (by rw [hu4]; exact ⟨blk_set_ne HS3.out.1 (by omega), blk_set_ne HS3.out.2.1 (by omega), blk_set_ne HS3.out.2.2 (by omega)⟩)
            have HD4 : Hid (u4.heap[d]? = some (.deferred (some []))) := Lib.hid (by rw [hu4]; exact blk_set_ne (keepD HM2.out.og HG7.out (HE2.out.blk HDU.out)) (by omega))
            have q3c := cell_blk hM4.k; have q3f := frz_blk hM4.k
            have HM4 := Lib.hid hM4
            clear hu4 hM4
            refine ⟨HS4.out, ?_⟩
            exact key bq g7 cp7 _ ⟨HS4.out, HM4.out, HD4.out⟩
          · skip
            simp only [picks, List.drop_succ_cons, List.drop_zero]
            go_wp2_with (fail)
            refine andV_name (fun u2 hu2 => ?_)
            obtain ⟨bq, hbq⟩ : ∃ b, b = u0.heap.size := ⟨_, rfl⟩
            have nbq : u2.heap[bq]? = some (Obj.cells #[.int .i64 T.reel.frames, .int .i64 3, .int .i64 0, .int .i64 400000] 49 (0, 0)) := by rw [hu2, hbq]; exact blk_new _ _
            have hE2 : Ext2 u0 u2 := by rw [hu2]; exact below_alloc' _ _
            have hM2 := HM.out.ext hE2
            have HS2 := Lib.hid (HSX.out u2 hE2)
            have HR2 := Lib.hid (HR.out.below hE2)
            have q2c := cell_blk hM2.g; have q2f := frz_blk hM2.g; have q3c := cell_blk hM2.k; have q3f := frz_blk hM2.k
            have HM2 := Lib.hid hM2; have NBQ := Lib.hid nbq
            rw [← hbq]
            clear hu2 hbq hM2 nbq
            have HE2 := Lib.hid hE2; clear hE2
            refine ⟨HS2.out, ?_⟩
            refine wpV_one ?_
            simp only [picks, List.drop_succ_cons, List.drop_zero]
            go_wp2_with (fail)
            refine ⟨HS2.out, ?_⟩
            refine wpV_one ?_
            simp only [picks, List.drop_succ_cons, List.drop_zero]
            go_wp2_with (at_builtin; refine app_one_at [.int .i64 T.reel.frames, .int .i64 3, .int .i64 0, .int .i64 400000] elGap rfl _ _ rfl C rfl HM2.out.og bq 1 rfl NBQ.out (by simp [Value.oneCell']) hn9 HM2.out.sz ?_; intro v' u3 hO7 hg7 _; (obtain ⟨g7, cp7, hv7, hge7, -, -, -, -⟩ := own_some hO7 (by omega)); subst hv7; (have HM3 := Lib.hid (HM2.out.appG HNN.out hg7 hO7)); (have HS3 := Lib.hid (And.intro (own_keep HM2.out.og hg7 HS2.out.1 (by decide)) (And.intro (own_keep HM2.out.og hg7 HS2.out.2.1 (by decide)) (own_keep HM2.out.og hg7 HS2.out.2.2 (by decide))))); (have HR3 := Lib.hid (own_other HM2.out.og hg7 HR2.out (by decide))); (have HG7 := Lib.hid hg7); clear hO7 hg7)
            have q2c := cell_blk HM3.out.g; have q2f := frz_blk HM3.out.g; have q3c := cell_blk HM3.out.k; have q3f := frz_blk HM3.out.k
            refine ⟨HS3.out, ?_⟩
            refine wpV_one ?_
            simp only [picks, List.drop_succ_cons, List.drop_zero]
            go_wp2_with (fail)
            refine andV_name (fun u4 hu4 => ?_)
            have hM4 := HM3.out.setG HNN.out (.slice (some ⟨g7, 0, none⟩) (n + 1) cp7)
            rw [← hu4] at hM4
            have HS4 : Hid (GpsAt n1 B n4 T t N ns g F u4) := Lib.hid (by rw [hu4]; exact ⟨blk_set_ne HS3.out.1 (by omega), blk_set_ne HS3.out.2.1 (by omega), blk_set_ne HS3.out.2.2 (by omega)⟩)
            have HD4 : Hid (u4.heap[d]? = some (.deferred (some []))) := Lib.hid (by rw [hu4]; exact blk_set_ne (keepD HM2.out.og HG7.out (HE2.out.blk HDU.out)) (by omega))
            have q3c := cell_blk hM4.k; have q3f := frz_blk hM4.k
            have HM4 := Lib.hid hM4
            clear hu4 hM4
            refine ⟨HS4.out, ?_⟩
            exact key bq g7 cp7 _ ⟨HS4.out, HM4.out, HD4.out⟩
      case ke2 =>
        rintro bq g7 cp7 u ⟨hS, hM, hD2⟩
        have q2c := cell_blk hM.g; have q2f := frz_blk hM.g; have q3c := cell_blk hM.k; have q3f := frz_blk hM.k
        have HS := Lib.hid hS; have HM := Lib.hid hM; have HDU := Lib.hid hD2
        clear hS hM hD2
        refine wpV_one ?_
        simp only [picks, List.drop_succ_cons, List.drop_zero]
        go_wp2_with (fail)
        refine andV_name (fun u5 hu5 => ?_)
        have HS5 : Hid (GpsAt n1 B n4 T t N ns g F u5) := Lib.hid (by rw [hu5]; exact ⟨blk_set_ne HS.out.1 (by omega), blk_set_ne HS.out.2.1 (by omega), blk_set_ne HS.out.2.2 (by omega)⟩)
        have hM5 := HM.out.setK HNN.out (.slice ka nk kc)
        rw [← hu5] at hM5
        have HD5 : Hid (u5.heap[d]? = some (.deferred (some []))) := Lib.hid (by rw [hu5]; exact blk_set_ne HDU.out (by omega))
        have q2c := cell_blk hM5.g; have q2f := frz_blk hM5.g; have q3c := cell_blk hM5.k; have q3f := frz_blk hM5.k
        have HM5 := Lib.hid hM5
        clear hu5 hM5
        have hl1 : (gapsN F N).1.length = n + 1 := by rw [HF.out, List.length_append, List.length_singleton, ← HN.out]
        have hl2 : (gapsN F N).2.length = nk := by rw [HF.out]; exact HNK.out.symm
        have HL1 := Lib.hid hl1; have HL2 := Lib.hid hl2
        clear hl1 hl2
        refine ⟨HS5.out, wpV_leaf ?_⟩
        refine noPan_normal ?_
        go_wp2_with (fail)
        refine leaveM_take (by simp) HD5.out ?_
        have r1 := blk_put (d := d) (o := .deferred none) HM5.out.g (by omega)
        have r2 := blk_put (d := d) (o := .deferred none) HM5.out.k (by omega)
        have zc := cell_blk r1
        have zf := frz_blk r1
        have yc := cell_blk r2
        have yf := frz_blk r2
        refine leaves_nil (v := .tuple #[.slice (some ⟨g7, 0, none⟩) (n + 1) cp7, .slice ka nk kc]) (by simp [results, Tryz.results48, go_sem, zc, yc]) ⟨⟨⟨some ⟨g7, 0, none⟩, cp7⟩, ⟨ka, kc⟩, by rw [HL1.out, HL2.out], ?_, ?_⟩, below_put HM5.out.bel (by omega)⟩
        · rw [GapsS, HL1.out]
          refine own_row (own_putD (OwnR.congr HM5.out.og fun i j hi hj => ?_) HD5.out)
          rw [HF.out, HN.out, HT.out.fr]
          exact gpC_snoc (x := ⟨(F : Int), 3, 0, 400000⟩) (by rw [← HN.out]; exact hi) hj
        · rw [StrikesS, HL2.out]
          refine own_row (own_putD (OwnR.congr HM5.out.ok fun i j hi hj => ?_) HD5.out)
          rw [HF.out]
  case stop => exact fun _ _ _ _ _ _ _ _ h _ => h.elim
end Go.Proofs.YtapeakbngligaaaGreatDoor
