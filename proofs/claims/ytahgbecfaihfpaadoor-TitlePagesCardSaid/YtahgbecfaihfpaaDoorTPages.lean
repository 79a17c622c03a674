/-
  title.Pages.
-/
import Derived.Test.YtahgbecfaihfpaaDoorTPagesQ
namespace Go.Proofs.YtahgbecfaihfpaaDoor
open Go.RowKit D
set_option linter.unusedVariables false
set_option linter.unusedSimpArgs false
attribute [local go_sem high] run_minI run_maxI
attribute [local go_sem] upon2 cls_cell cls_frozen forall_const exists_eq_left'
attribute [local go_sem] FirstUpon Oper.semAt_some atBlk_cell
theorem elFr : Elem Tryd.prog 54 59 (.agg #[.int .i64 0, .int .i64 0, .slice none 0 0]) 3 40 := ⟨by kernel_rfl, by kernel_rfl, rfl, by omega, by omega⟩
theorem elByte : Elem Tryd.prog 57 5 (.int .u8 0) 1 1 := ⟨by kernel_rfl, by kernel_rfl, rfl, by omega, by omega⟩
/-- The pixels of a page. -/
def PixAt (W : World) (b N : Nat) (ink : Int) (L : List Nat) : Prop := ∃ c : Array Value, W.heap[b]? = some (.cells c 5 (0, 0)) ∧ c.size = N ∧ ∀ j, j < N → c[j]? = some (.int .u8 (if j ∈ L then ink else 0))
theorem PixAt.same {W W' : World} {b N : Nat} {ink : Int} {L : List Nat} (h : PixAt W b N ink L) (hb : W'.heap[b]? = W.heap[b]?) : PixAt W' b N ink L := by
  obtain ⟨c, h1, h2, h3⟩ := h
  exact ⟨c, hb.trans h1, h2, h3⟩
theorem PixAt.paint {W : World} {b N : Nat} {ink : Int} {L : List Nat} (h : PixAt W b N ink L) {i : Nat} (hi : i < N) : PixAt (W.setCell ⟨b, i, none⟩ (.int .u8 ink)) b N ink (L ++ [i]) := by
  obtain ⟨c, h1, h2, h3⟩ := h
  refine ⟨_, blk_set h1 _ _, by simp [h2], fun j hj => ?_⟩
  by_cases hij : i = j
  · subst hij
    simp [h2, hi]
  · rw [Array.getElem?_setIfInBounds, if_neg hij, h3 j hj]
    congr 2
    have : (j ∈ L ++ [i]) = (j ∈ L) := by simp [Ne.symm hij]
    simp only [this]
theorem PixAt.new {W : World} {b N : Nat} {ink : Int} (h : W.heap[b]? = some (.cells (madeCells #[.int .u8 0] N) 5 (0, 0))) : PixAt W b N ink [] := by
  refine ⟨_, h, size_madeCells _ _, fun j hj => ?_⟩
  simp [madeCells, hj, Nat.mod_one]
def frC (F : Font) (R : Rul) (pb : Nat → Nat) (i j : Nat) : Value :=
  match j with
  | 0 => .int .i64 R.measure
  | 1 => .int .i64 (rowsV F R)
  | _ => .slice (some ⟨pb i, 0, none⟩) (pixN F R) (pixN F R)
/-- Pages that are being drawn; what lies from base on is theirs. -/
structure PgSt (w W : World) (F : Font) (R : Rul) (base n6 n7 : Nat) (m : Nat) (v : Value) (pb : Nat → Nat) (L : Nat → List Nat) : Prop where
  bel : Below w.heap.size w W
  size : base ≤ W.heap.size
  x6 : W.heap[n6]? = some (.cells #[v] 54 (0, 0))
  x7 : W.heap[n7]? = some (.cells #[.int .i64 0] 27 (0, 0))
  own : OwnR W base 59 3 v m (frC F R pb)
  pix : ∀ p, p < m → PixAt W (pb p) (pixN F R) R.ink (L p)
  lo : ∀ p, p < m → base ≤ pb p
  inj : ∀ p q, p < m → q < m → pb p = pb q → p = q
def tsP : List TypeId := [59, 54, 5]
section
variable {w W W' : World} {F : Font} {R : Rul} {base n6 n7 m : Nat} {v : Value} {pb : Nat → Nat} {L : Nat → List Nat}
theorem PgSt.sd {B : Nat} {ts : List TypeId} (h : PgSt w W F R base n6 n7 m v pb L) (hs : Sd B ts W W') (h0 : w.heap.size ≤ B) (h1 : 59 ∉ ts) (h2 : 54 ∉ ts) (h3 : 5 ∉ ts) (h4 : 27 ∉ ts) : PgSt w W' F R base n6 n7 m v pb L :=
  ⟨h.bel.trans (hs.bel.mono h0), Nat.le_trans h.size hs.bel.size, hs.keep _ _ _ _ h.x6 h2, hs.keep _ _ _ _ h.x7 h4, h.own.sd hs h1, fun p hp => by
    obtain ⟨c, hc, h5, h6⟩ := h.pix p hp
    exact ⟨c, hs.keep _ _ _ _ hc h3, h5, h6⟩, h.lo, h.inj⟩
theorem PgSt.ext (h : PgSt w W F R base n6 n7 m v pb L) (hb : Ext2 W W') : PgSt w W' F R base n6 n7 m v pb L := h.sd (B := w.heap.size) (ts := []) (Sd.ext hb h.bel.size) (Nat.le_refl _) (by simp) (by simp) (by simp) (by simp)
theorem PgSt.congr {L' : Nat → List Nat} (h : PgSt w W F R base n6 n7 m v pb L) (hL : ∀ p, p < m → L p = L' p) : PgSt w W F R base n6 n7 m v pb L' := ⟨h.bel, h.size, h.x6, h.x7, h.own, fun p hp => by rw [← hL p hp]; exact h.pix p hp, h.lo, h.inj⟩
theorem PgSt.paint (h : PgSt w W F R base n6 n7 m v pb L) (h0 : w.heap.size ≤ base) {p i : Nat} (hp : p < m) (hi : i < pixN F R) : PgSt w (W.setCell ⟨pb p, i, none⟩ (.int .u8 R.ink)) F R base n6 n7 m v pb (fun q => if q = p then L p ++ [i] else L q) := by
  obtain ⟨c, hc, h5, h6⟩ := h.pix p hp
  have hl := h.lo p hp
  have hs : Sd w.heap.size [5] W (W.setCell ⟨pb p, i, none⟩ (.int .u8 R.ink)) := Sd.set hc (by decide) (by omega) _
  refine ⟨h.bel.trans hs.bel, Nat.le_trans h.size hs.bel.size, hs.keep _ _ _ _ h.x6 (by decide), hs.keep _ _ _ _ h.x7 (by decide), h.own.sd hs (by decide), fun q hq => ?_, h.lo, h.inj⟩
  by_cases hqp : q = p
  · subst hqp; rw [if_pos rfl]; exact (h.pix q hq).paint hi
  · rw [if_neg hqp]
    exact (h.pix q hq).same (set_oth _ _ fun he => hqp (h.inj q p hq hp he))
theorem PgSt.cell (h : PgSt w W F R base n6 n7 m v pb L) {p i : Nat} (hp : p < m) (hi : i < pixN F R) : (∃ x, W.cell? ⟨pb p, i, none⟩ = some x) ∧ W.frozen? ⟨pb p, i, none⟩ = false := by
  obtain ⟨c, hc, h5, h6⟩ := h.pix p hp
  exact ⟨⟨_, (cell_blk hc i).trans (h6 i hi)⟩, frz_blk hc i⟩
end
/-- The pages that are returned. -/
def PgsV (w : World) (F : Font) (R : Rul) (P : List ByteArray) (v : Value) : Prop := ∃ (sl : Sl) (pb : Nat → Nat), v = .slice sl.a (npg F R P P.length) sl.cap ∧ RowS w sl 3 (npg F R P P.length) (frC F R pb) ∧ ∀ p, p < npg F R P P.length → PixAt w (pb p) (pixN F R) R.ink (ptsK F R P p P.length)
def PagesPost (w : World) (F : Font) (R : Rul) (t : ByteArray) (e : Ending) (w' : World) : Prop :=
  (∃ v, e = .returned (.tuple #[v, .int .i64 (openE F R t)]) ∧ if openE F R t = 0 then PgsV w' F R (partsS t) v else v = .slice none 0 0) ∧ Below w.heap.size w w'
theorem pagesPost_no {w w' : World} {F : Font} {R : Rul} {t : ByteArray} {x : Int} (h : openE F R t = x) (h0 : x ≠ 0) (hb : Below w.heap.size w w') : PagesPost w F R t (.returned (.tuple #[.slice none 0 0, .int .i64 x])) w' :=
  ⟨⟨.slice none 0 0, by rw [h], by rw [if_neg (by rw [h]; exact h0)]⟩, hb⟩
theorem gL_len {F : Font} {p : ByteArray} (h : p.size ≤ 24) : (gL F p).length ≤ 24 := by
  unfold gL
  cases hs : setS F p.data.toList with
  | none => exact Nat.zero_le _
  | some l =>
    have h2 := setS_len F _ _ (Nat.le_refl _) l hs
    have h3 : p.data.toList.length = p.size := Array.length_toList
    show l.length ≤ 24
    omega
theorem npg_le {F : Font} {R : Rul} {P : List ByteArray} (h : TextOk F R P) : ∀ k, k ≤ P.length → npg F R P k ≤ 40
  | 0, _ => Nat.zero_le _
  | k + 1, hk => by
    have h1 := (lineOf_ok h (i := k) (by omega)).1
    have h2 := (lines_ok h).1
    have h3 := h.n40
    have h4 : pageN F R P k ≤ lineOf F R P k := Nat.div_le_self _ _
    show pageN F R P k + 1 ≤ 40
    omega
theorem bd_sd' {B : Nat} {ts ts' : List TypeId} {w2 W1 W2 : World} (h : Bd B ts w2 W1) (hs : Sd w2.heap.size ts' W1 W2) (hB : B ≤ w2.heap.size) : Bd B ts w2 W2 :=
  ⟨h.bel.trans (hs.bel.mono hB), fun g o hg ho => (hs.bel.block g (blk_lt hg)).trans (h.keep g o hg ho)⟩
/-- Behind the first k words. -/
def PgI (w w3 : World) (F : Font) (R : Rul) (P : List ByteArray) (n6 n7 k : Nat) (W : World) : Prop :=
  (∃ v pb, PgSt w W F R w3.heap.size n6 n7 (npg F R P k) v pb (fun p => ptsK F R P p k)) ∧ Bd w.heap.size (76 :: tsP) w3 W
theorem PgI.sd {w w3 W W' : World} {F : Font} {R : Rul} {P : List ByteArray} {n6 n7 k : Nat} {ts : List TypeId} (h : PgI w w3 F R P n6 n7 k W) (hs : Sd w3.heap.size ts W W') (h0 : w.heap.size ≤ w3.heap.size) (h1 : 59 ∉ ts) (h2 : 54 ∉ ts) (h3 : 5 ∉ ts) (h4 : 27 ∉ ts) : PgI w w3 F R P n6 n7 k W' := by
  obtain ⟨⟨v, pb, hp⟩, hb⟩ := h
  exact ⟨⟨v, pb, hp.sd hs h0 h1 h2 h3 h4⟩, bd_sd' hb hs h0⟩
set_option maxRecDepth 100000 in
set_option maxHeartbeats 2000000 in
theorem pages_any {F : Font} {s : FSl} {R : Rul} {t : ByteArray} {w : World} (hF : FontAt w F s) (hm : MaxAt w) : Calls Tryd.prog 28 #[.agg #[.int .i64 F.high, .int .i64 F.space, .slice s.g.a F.glyphs.length s.g.cap, .slice s.k.a F.kerns.length s.k.cap], .agg #[.int .i64 R.measure, .int .i64 R.lines, .int .i64 R.lead, .int .i64 R.short, .int .i64 R.extra, .int .i64 R.ink], .string t] w (PagesPost w F R t) := by
  have HO : Hid (∀ W, Below w.heap.size w W → Calls Tryd.prog 54 #[.agg #[.int .i64 F.high, .int .i64 F.space, .slice s.g.a F.glyphs.length s.g.cap, .slice s.k.a F.kerns.length s.k.cap], .agg #[.int .i64 R.measure, .int .i64 R.lines, .int .i64 R.lead, .int .i64 R.short, .int .i64 R.extra, .int .i64 R.ink], .string t] W (OpenOut W F s R t)) := Lib.hid fun W hW => open_any (hF.below hW) (hm.below hW)
  obtain ⟨x, hx⟩ : ∃ x, x = openE F R t := ⟨_, rfl⟩
  have HX := Lib.hid hx
  have HFO := Lib.hid hF
  clear hF hm hx
  refine calls_of_wp_marks Tryd.func28 rfl ?_
  simp only [Tryd.ntmps28, List.size_toArray, List.length_cons, List.length_nil, Nat.reduceAdd, Nat.reduceSub, Array.replicate_succ, Array.replicate_zero, List.push_toArray, List.append_toArray, List.nil_append, List.cons_append]
  go_wp2_with (fail)
  refine calls_name ?_
  intro wo hwo
  have hB0 : Below w.heap.size w wo := by rw [hwo]; repeat' (first | exact Below.refl _ _ | assumption | refine below_drewN ?_ _ | refine Below.drew ?_ | refine Below.alloc ?_ (by first | assumption | omega | (simp <;> omega)) _ | refine Below.setCell ?_ (by first | assumption | omega | (simp <;> omega)) _ | refine Ext2.on (by assumption) ?_)
  have x6 : wo.heap[w.heap.size + 1 + 1]? = some (Obj.cells #[.slice none 0 0] 54) := by rw [hwo]; repeat' (first | (with_reducible assumption) | (with_reducible refine blk_set_ne ?_ ?_) | (with_reducible exact blk_new _ _) | (with_reducible refine blk_new' _ _ (by first | (with_reducible rfl) | (simp; done) | (simp <;> omega))) | (with_reducible refine blk_alloc ?_ _) | (with_reducible refine blk_drew ?_) | (with_reducible refine blk_drewN ?_ _) | (with_reducible refine Ext2.blk (by assumption) ?_) | omega | (simp <;> omega) | exact blk_set (by assumption) _ _)
  have x7 : wo.heap[w.heap.size + 1 + 1 + 1]? = some (Obj.cells #[.int .i64 0] 27) := by rw [hwo]; repeat' (first | (with_reducible assumption) | (with_reducible refine blk_set_ne ?_ ?_) | (with_reducible exact blk_new _ _) | (with_reducible refine blk_new' _ _ (by first | (with_reducible rfl) | (simp; done) | (simp <;> omega))) | (with_reducible refine blk_alloc ?_ _) | (with_reducible refine blk_drew ?_) | (with_reducible refine blk_drewN ?_ _) | (with_reducible refine Ext2.blk (by assumption) ?_) | omega | (simp <;> omega) | exact blk_set (by assumption) _ _)
  have HB00 := Lib.hid hB0
  clear hwo
  (with_reducible refine (HO.out _ hB0).mono ?_)
  intro e w1 ho
  unfold OpenOut at ho
  rw [← HX.out] at ho
  obtain ⟨ho, hb1⟩ := ho
  have hE1 : Ext2 wo w1 := hb1
  have hB1 : Below w.heap.size w w1 := below_ext hB0 hE1
  have x6 := Ext2.blk hE1 x6; have x7 := Ext2.blk hE1 x7
  obtain ⟨n6, hn6⟩ : ∃ n, n = w.heap.size + 1 + 1 := ⟨_, rfl⟩
  obtain ⟨n7, hn7⟩ : ∃ n, n = w.heap.size + 1 + 1 + 1 := ⟨_, rfl⟩
  rw [← hn6] at x6; rw [← hn7] at x7
  have l67 : n6 < n7 := by omega
  have l6 : w.heap.size ≤ n6 := by omega
  have l7 := blk_lt x7
  try rw [← hn7]
  try rw [← hn6]
  clear hb1 hn6 hn7 hE1 hB0
  by_cases h0 : x = 0
  case neg =>
    rw [if_neg h0] at ho
    subst ho
    have H0 := Lib.hid h0; have HB1 := Lib.hid hB1
    clear h0 hB1
    go_wp2_with (fail)
    have y6 := Eq.trans (blk_set x7 0 (.int .i64 x)) rfl
    have y5 := blk_set_ne (b' := n7) (o := 0) (v := .int .i64 x) x6 (by omega)
    have yc := cell_blk y6; have yd := cell_blk y5
    refine leaveM_panic x7 ?_
    refine ⟨.tuple #[.slice none 0 0, .int .i64 x], ?_, pagesPost_no HX.out.symm H0.out (below_set HB1.out (by omega))⟩
    simp [results, Tryd.results28, go_sem, yc, yd]
  case pos =>
    rw [if_pos h0] at ho
    obtain ⟨b, gm, km, SB, gs, ps, ws, rb, rfl, hop⟩ := ho
    obtain ⟨hk, hro, htx⟩ := open_ok (by rw [← HX.out]; exact h0)
    obtain ⟨P, hP⟩ : ∃ P, P = partsS t := ⟨_, rfl⟩
    rw [← hP] at hop htx
    have h40 := htx.n40; have hn1 := htx.n1
    have HOP := Lib.hid hop; have HB1 := Lib.hid hB1; have HK := Lib.hid hk; have HRO := Lib.hid hro; have HTX := Lib.hid htx; have HP := Lib.hid hP
    subst h0
    clear hop hB1 hk hro htx hP
    go_wp2_with (fail)
    refine (placesF_any _ _).mono ?_
    rintro e w3 ⟨rfl, h3⟩
    have hE3 : Ext2 w1 w3 := by rw [h3]; repeat' (first | exact Below.refl _ _ | assumption | refine below_drewN ?_ _ | refine Below.drew ?_ | refine Below.alloc ?_ (by first | assumption | omega | (simp <;> omega)) _ | refine Below.setCell ?_ (by first | assumption | omega | (simp <;> omega)) _ | refine Ext2.on (by assumption) ?_)
    obtain ⟨n8, hn8⟩ : ∃ n, n = w1.heap.size := ⟨_, rfl⟩
    obtain ⟨lb, hlb⟩ : ∃ n, n = w1.heap.size + 1 := ⟨_, rfl⟩
    have x8 : w3.heap[n8]? = some (.cells #[.pointer (some ⟨SB, 0, none⟩)] 96 (0, 0)) := by rw [h3, hn8]; exact blk_alloc (blk_new _ _) _
    have xl : w3.heap[lb]? = some (.cells #[.pointer (some ⟨SB, 0, none⟩)] 96 (0, 0)) := by rw [h3, hlb]; exact blk_new' _ _ (by simp)
    have x6 := Ext2.blk hE3 x6; have x7 := Ext2.blk hE3 x7
    have HB3 := Lib.hid (below_ext HB1.out hE3)
    have HOP3 := Lib.hid ((HOP.out.below hE3).at_ HFO.out HB00.out)
    have hs3 : w3.heap.size = w1.heap.size + 2 := by rw [h3]; simp
    have l73 := blk_lt x7
    have l8 := blk_lt x8
    have HX8 := Lib.hid x8
    have hws := HB3.out.size
    simp only [World.size_alloc]
    rw [← hlb, ← hn8]
    have HN8 := Lib.hid hn8; have HLB := Lib.hid hlb; have HS3 := Lib.hid hs3
    have l78 : n7 < n8 := by omega
    clear h3 hE3 HOP HB1 hn8 hlb hs3 l7
    go_wp2_with (fail)
    refine wp_aname ?_
    intro a0 ha0
    refine ss_out (gf := 79) (lb := #[.pointer (some ⟨lb, 0, none⟩)]) (by rw [ha0]; rfl) (enters_of Tryd.func79 (by kernel_rfl) rfl) (placesIter (lb := lb) (w0 := w) (s := s) (b := b) (gm := gm) (km := km) (SB := SB) (gs := gs) (ps := ps) (ws := ws) (rb := rb) HK.out HRO.out HTX.out) (ts := tsP) (by decide) (fun _ => rfl)
      (fun k W => PgI w w3 F R P n6 n7 k W)
      (fun k a' W => (∃ b9 b10, W.heap[b9]? = some (.cells #[.string (strD P k), .slice (gs k).a (gL F (strD P k)).length (gs k).cap, .slice (ps k).a (gL F (strD P k)).length (ps k).cap, .int .i64 (wW F (strD P k))] 90 (0, 0)) ∧ W.heap[b10]? = some (.cells #[.int .i64 (plS F R P k).page, .int .i64 (plS F R P k).line, .int .i64 (plS F R P k).left] 76 (0, 0)) ∧ a' = { tmps := (((a0.tmps.setIfInBounds 24 (wordV F P gs ps k)).setIfInBounds 25 (plV (plS F R P k))).setIfInBounds 9 (.pointer (some ⟨b9, 0, none⟩))).setIfInBounds 10 (.pointer (some ⟨b10, 0, none⟩)), defers := [] }) ∧ PgI w w3 F R P n6 n7 k W)
      (fun _ _ _ => False)
      ?hI ?hJ (fun _ _ _ _ h _ => h.elim) hws ?hp0 ?h0 ?assign ?body ?done (fun _ _ _ _ _ _ h _ => h.elim)
    case hI => exact fun k W W' h hs => h.sd hs hws (by decide) (by decide) (by decide) (by decide)
    case hJ =>
      rintro k a' W W' ⟨⟨b9, b10, h1, h2, h3⟩, h4⟩ hs
      exact ⟨⟨b9, b10, hs.keep _ _ _ _ h1 (by simp), hs.keep _ _ _ _ h2 (by simp), h3⟩, h4.sd hs hws (by simp) (by simp) (by simp) (by simp)⟩
    case hp0 => exact fun W hW => ⟨Ext2.blk hW xl, (HOP3.out.below hW).toI⟩
    case h0 => exact ⟨⟨_, fun _ => 0, HB3.out, Nat.le_refl _, x6, x7, own_nil _ _ _ _ _, fun p hp => absurd hp (Nat.not_lt_zero p), fun p hp => absurd hp (Nat.not_lt_zero p), fun p q hp => absurd hp (Nat.not_lt_zero p)⟩, Bd.refl _ _ _⟩
    case assign =>
      rintro l k W hk hi
      subst ha0
      have hsz := hi.2.bel.size
      simp only [plV, wordV]
      gi_wp2
      obtain ⟨O9, hO9⟩ : ∃ o, o = Obj.cells #[.string (strD P k), .slice (gs k).a (gL F (strD P k)).length (gs k).cap, .slice (ps k).a (gL F (strD P k)).length (ps k).cap, .int .i64 (wW F (strD P k))] 90 := ⟨_, rfl⟩
      obtain ⟨O10, hO10⟩ : ∃ o, o = Obj.cells #[.int .i64 (plS F R P k).page, .int .i64 (plS F R P k).line, .int .i64 (plS F R P k).left] 76 := ⟨_, rfl⟩
      rw [← hO9, ← hO10]
      have hE : Ext2 W ((W.alloc O9).alloc O10) := by repeat' (first | exact Below.refl _ _ | assumption | refine below_drewN ?_ _ | refine Below.drew ?_ | refine Below.alloc ?_ (by first | assumption | omega | (simp <;> omega)) _ | refine Below.setCell ?_ (by first | assumption | omega | (simp <;> omega)) _ | refine Ext2.on (by assumption) ?_)
      exact ⟨Bd.ext hE (by omega), ⟨W.heap.size, W.heap.size + 1, blk_alloc (blk_new _ _) _, blk_new' _ _ (by simp), rfl⟩, hi.sd (ts := []) (Sd.ext hE hsz) hws (by simp) (by simp) (by simp) (by simp)⟩
    case body =>
      rintro l k a' W hl hr hk ⟨⟨b9, b10, x9, x10, rfl⟩, hI⟩
      subst ha0
      simp only [List.setIfInBounds_toArray, List.set_cons_succ, List.set_cons_zero]
      obtain ⟨⟨v, pb, hS⟩, hbd⟩ := hI
      have hOI := HOP3.out.toI.bd hbd (by decide)
      have hGA := HOP3.out.words.gly.sd hbd.sd (by decide)
      have x8W := hbd.keep n8 _ HX8.out (by intro c e f h; cases h; decide)
      have x6 := hS.x6
      have hwW := hS.bel.size
      have hw3W := hS.size
      have hpp := plS_page (F := F) (P := P) HRO.out k
      have hnx := page_next HRO.out HTX.out hk
      have hns := npg_succ HRO.out HTX.out hk
      have hpk := fun (h : npg F R P k ≤ pageN F R P k) => ptsK_none HRO.out HTX.out k (by omega) h
      obtain ⟨pg, hpg⟩ : ∃ x, x = pageN F R P k := ⟨_, rfl⟩
      obtain ⟨m, hm⟩ : ∃ x, x = npg F R P k := ⟨_, rfl⟩
      have hm40 : m ≤ 40 := by rw [hm]; exact npg_le HTX.out k (by omega)
      rw [← hpg] at hpp hnx hns hpk
      rw [← hm] at hnx hns hpk hS
      rw [hpp.1] at x10
      obtain ⟨⟨a', cp⟩, hsl, hrow⟩ := hS.own.sl
      subst hsl
      dsimp only at x6
      have HOI := Lib.hid hOI; have HGA := Lib.hid hGA; have HS := Lib.hid hS; have HBD := Lib.hid hbd; have HPK := Lib.hid hpk; have HPP := Lib.hid hpp; have HPG := Lib.hid hpg; have HM := Lib.hid hm; have HNS := Lib.hid hns
      have HX9 := Lib.hid x9; have HX10 := Lib.hid x10
      clear hOI hGA hS hbd hpk hpp hpg hm hns hrow x9
      have q6c := cell_blk x6
      have q6f := frz_blk x6
      have q10c := cell_blk x10
      have q10f := frz_blk x10
      have hpm : pg ≤ m := by omega
      rcases Nat.lt_or_ge pg m with hlt | hge
      case' inr =>
        obtain rfl : pg = m := by omega
        have hrw := rows_pos HK.out HRO.out
        have hpx := pix_ok HK.out HRO.out
        have hms := HRO.out.measure
        have xs := HOI.out.set.blk
        have xS := HOI.out.sh
        obtain ⟨Rw, hRw⟩ : ∃ x, x = rowsV F R := ⟨_, rfl⟩
        obtain ⟨N, hN⟩ : ∃ x, x = pixN F R := ⟨_, rfl⟩
        have HRW : Hid (∀ W1, Ext2 W W1 → Calls Tryd.prog 63 #[.pointer (some ⟨b, 0, none⟩)] W1 fun e w' => e = .returned (.int .i64 Rw) ∧ Below W1.heap.size W1 w') := Lib.hid fun W1 hW1 => by rw [hRw]; exact rows_any (HOI.out.set.below hW1).blk HK.out.high HRO.out.lines HRO.out.lead
        rw [← hRw, ← hN] at hpx
        have s1 : IntKind.i64.wrap (R.measure * Rw) = (N : Int) := by rw [← hpx.1]; exact IntWalk.i64_in _ (by omega)
        have HRWE := Lib.hid hRw; have HNE := Lib.hid hN
        have hN23 := hpx.2.1
        clear hRw hN hrw hpx
        have q8c := cell_blk x8W
        have q8f := frz_blk x8W
        have qsc := cell_blk xs
        have qsf := frz_blk xs
        have qSc := cell_blk xS
        have qSf := frz_blk xS
        repeat (first | go_values | gi_guarded | gi_step | gi_upon | gi_in)
        haveI hcls : Nonempty (Cls (AtBlk n6 #[.slice a' pg cp] 54)) := ⟨⟨W, x6⟩⟩
        refine round_region_last (by rfl) (by kernel_rfl) (by rintro ⟨a_, w_, h_⟩; exact h_) (by kernel_rfl) (by kernel_rfl) ?_
        simp only [List.dropLast_cons_cons, List.dropLast_singleton]
        refine wpAny_evH (AtBlk n6 #[.slice a' pg cp] 54) [0] [1, 2, 3, 4, 5, 6, 7, 8, 9, 10, 11, 12, 13, 14, 15, 16, 17, 18, 19, 20, 21, 22, 23, 24, 25, 26, 27] [(28, 59, none)] [29, 30, 31] (AtBlk.ext x6) (by kernel_rfl) (by intro c a d v w h; cases d <;> exact h) ?_
        simp only [picks, List.drop_succ_cons, List.drop_zero]
        repeat (refine wpQS_step (fun K hK => ?_); go_simp; (refine hK _ ?_; clear hK K))
        refine wpQS_nil ?_
        repeat ((with_reducible refine wpQ2_step (fun K hK => ?_)); go_simp; first | ((with_reducible refine hK _ ?_); clear hK K) | (apply Exists.intro; refine ⟨fun x => ?_, hK _ ?_⟩; ((with_reducible exact HRW.out x.1 x.2)); clear hK K))
        refine wpQ2_nil ?_
        refine EventsH.lay1 (fun b => .slice (some ⟨b, 0, none⟩) N N) (.cells (madeCells #[.int .u8 0] (N * 1)) 5) ⟨_, rfl, rfl, rfl, fun W2 => exec_mk elByte (l := .tmp 58) (by rfl) N (by kernel_rfl) (by omega) W2⟩ fun qb w5 hqb hg5 nqb => ?_
        simp only [picks, List.drop_succ_cons, List.drop_zero]
        have y6 := Ext2.blk hg5 x6
        have hO5 := HS.out.own.below hg5
        have y9 := Ext2.blk hg5 HX9.out; have y10 := Ext2.blk hg5 x10
        clear q6c q6f q10c q10f q8c q8f qsc qsf qSc qSf xs xS
        refine wpListH_cons ?_
        go_wp2_with (fail)
        refine ⟨y6, wpListH_cons ?_⟩
        go_wp2_with (fail)
        refine ⟨blk_alloc y6 _, wpListH_cons ?_⟩
        go_wp2_with (at_builtin; refine app_one [.int .i64 R.measure, .int .i64 Rw, .slice (some ⟨qb, 0, none⟩) N N] elFr rfl _ _ rfl w3.heap.size rfl (hO5.below (below_alloc' _ _)) w5.heap.size 1 rfl (blk_new _ _) (by simp [Value.oneCell']) (by omega) (by have := hg5.size; simp; omega) ?_; intro v' w7 hO7 hg7; obtain ⟨⟨a2, c2⟩, hsl2, -⟩ := hO7.sl; subst hsl2)
        have z6 := app_keeps (hO5.below (below_alloc' _ _)) hg7 (blk_alloc y6 _) (by omega)
        refine ⟨z6, wpListH_nil ?_⟩
        have q6c := cell_blk z6
        have q6f := frz_blk z6
        have hso : w3.heap.size ≤ w5.heap.size := Nat.le_trans hw3W hg5.size
        have hbA : Bd w.heap.size tsP W w7 := by
          refine ((Bd.ext hg5 hwW).trans (Bd.ext (below_alloc' _ _) (show w.heap.size ≤ w5.heap.size by omega))).trans (Bd.grown hg7 (by simp; omega) fun g hgk => ?_)
          obtain ⟨cur, hc⟩ := ownR_cells (hO5.below (below_alloc' _ _)) hgk
          exact ⟨by have := own_block hO5 g hgk; omega, cur, _, _, hc, by decide⟩
        have hbB : Bd w.heap.size tsP W (w7.setCell ⟨n6, 0, none⟩ (.slice a2 (pg + 1) c2)) := hbA.trans (Bd.set z6 (by decide) l6 _)
        have hsP : Sd w.heap.size [59, 54] w5 (w7.setCell ⟨n6, 0, none⟩ (.slice a2 (pg + 1) c2)) := by
          refine (((Bd.ext (ts := [59, 54]) (below_alloc' _ _) (show w.heap.size ≤ w5.heap.size by omega)).trans (Bd.grown hg7 (by simp; omega) fun g hgk => ?_)).trans (Bd.set z6 (by decide) l6 _)).sd
          obtain ⟨cur, hc⟩ := ownR_cells (hO5.below (below_alloc' _ _)) hgk
          exact ⟨by have := own_block hO5 g hgk; omega, cur, _, _, hc, by decide⟩
        have hm2 : npg F R P (k + 1) = pg + 1 := by rw [HNS.out]; simp
        have hS5 := HS.out.ext hg5
        have hS2 : PgSt w (w7.setCell ⟨n6, 0, none⟩ (.slice a2 (pg + 1) c2)) F R w3.heap.size n6 n7 (pg + 1) (.slice a2 (pg + 1) c2) (fun q => if q = pg then qb else pb q) (fun q => ptsK F R P q k) := by
          refine ⟨HS.out.bel.trans hbB.bel, Nat.le_trans hw3W hbB.bel.size, Eq.trans (blk_set z6 _ _) rfl, hbB.keep _ _ HS.out.x7 (by intro c e f h; cases h; decide), ?_, fun q hq => ?_, fun q hq => ?_, fun q r hq hr' he => ?_⟩
          · refine OwnR.congr (hO7.sd (Sd.set (B := w.heap.size) (ts := [54]) z6 (by decide) l6 _) (by decide)) fun i j hi hj => ?_
            by_cases hip : i = pg
            · subst hip
              have hj3 : j < 3 := hj
              rw [upd_at]
              rcases (by omega : j = 0 ∨ j = 1 ∨ j = 2) with rfl | rfl | rfl
              · rfl
              · show Value.int .i64 Rw = Value.int .i64 (rowsV F R)
                rw [← HRWE.out]
              · show Value.slice (some ⟨qb, 0, none⟩) N N = Value.slice (some ⟨if i = i then qb else pb i, 0, none⟩) (pixN F R) (pixN F R)
                rw [if_pos rfl, ← HNE.out]
            · rw [upd_lt (by omega)]
              simp only [frC, hip, if_false]
          · by_cases hqp : q = pg
            · rw [if_pos hqp, hqp, HPK.out (Nat.le_refl _)]
              rw [Nat.mul_one] at nqb
              rw [← HNE.out]
              exact PixAt.new (hsP.keep _ _ _ _ nqb (by decide))
            · rw [if_neg hqp]
              obtain ⟨c, hc, h5, h6⟩ := hS5.pix q (by omega)
              exact ⟨c, hsP.keep _ _ _ _ hc (by decide), h5, h6⟩
          · by_cases hqp : q = pg
            · rw [if_pos hqp]; omega
            · rw [if_neg hqp]; exact HS.out.lo q (by omega)
          · have old : ∀ z, z < pg → pb z < qb := fun z hz => by
              obtain ⟨c, hc, -⟩ := HS.out.pix z hz
              have := blk_lt hc; omega
            by_cases hqp : q = pg
            · by_cases hrp : r = pg
              · omega
              · rw [if_pos hqp, if_neg hrp] at he
                have := old r (by omega); omega
            · by_cases hrp : r = pg
              · rw [if_neg hqp, if_pos hrp] at he
                have := old q (by omega); omega
              · rw [if_neg hqp, if_neg hrp] at he
                exact HS.out.inj q r (by omega) (by omega) he
        have HB2 := Lib.hid hbB
        have HS2 : Hid (∃ v2 pb2, PgSt w (w7.setCell ⟨n6, 0, none⟩ (.slice a2 (pg + 1) c2)) F R w3.heap.size n6 n7 (npg F R P (k + 1)) v2 pb2 (fun q => ptsK F R P q k)) := Lib.hid (by rw [hm2]; exact ⟨_, _, hS2⟩)
        have hlt2 : pg < npg F R P (k + 1) := by omega
        clear hO5 hO7 hg7 hbA hbB hsP hS5 hS2 hg5 y6 y9 y10 nqb hqb HRWE HNE hm2 HPK hge hnx hpm
        go_wp2_with (fail)
        refine wpIn_name ?_
        intro Wp hWp
        rw [← hWp] at HB2 HS2
        have x9 := HB2.out.keep _ _ HX9.out (by intro c e f h; cases h; decide)
        clear hWp q6c q6f z6
        have q9c := cell_blk x9
        have q9f := frz_blk x9
        repeat (first | go_values | gi_guarded | gi_step | gi_upon | gi_in)
        clear q9c q9f x9
      case' inl =>
        have hne : ¬ (pg : Int) = (m : Int) := by omega
        have hbe : ((pg : Int) == (m : Int)) = false := beq_eq_false_iff_ne.2 hne
        have hm2 : npg F R P (k + 1) = m := by rw [HNS.out, if_neg (by omega)]
        have HS20 : Hid (∃ v2 pb2, PgSt w W F R w3.heap.size n6 n7 (npg F R P (k + 1)) v2 pb2 (fun q => ptsK F R P q k)) := Lib.hid (by rw [hm2]; exact ⟨_, _, HS.out⟩)
        have hlt2 : pg < npg F R P (k + 1) := by omega
        clear hm2 HPK hnx hpm hlt
        have x9 := HX9.out
        have q9c := cell_blk x9
        have q9f := frz_blk x9
        repeat (first | go_values | gi_guarded | gi_step | gi_upon | gi_in)
        refine wpIn_name ?_
        intro Wp hWp
        have HB2 : Hid (Bd w.heap.size tsP W Wp) := Lib.hid (by rw [hWp]; exact Bd.refl _ _ _)
        have HS2 := HS20
        rw [← hWp] at HS2
        clear q9c q9f x9 hWp q6c q6f x6 HS20
      all_goals
        obtain ⟨v2, pb2, hS2⟩ := HS2.out
        obtain ⟨m2, hm2⟩ : ∃ x, x = npg F R P (k + 1) := ⟨_, rfl⟩
        rw [← hm2] at hS2 hlt2
        have HS3 := Lib.hid hS2; have HM2 := Lib.hid hm2
        obtain ⟨lG, hlG⟩ : ∃ x, x = gL F (strD P k) := ⟨_, rfl⟩
        obtain ⟨pl, hpl⟩ : ∃ x, x = plS F R P k := ⟨_, rfl⟩
        have hmem : ∀ x ∈ lG, x < F.glyphs.length := by rw [hlG]; exact gL_mem
        have hgi : ∀ n, n < lG.length → (0 ≤ pl.left ∧ 0 ≤ posS F lG n) ∧ pl.left + posS F lG n + (glN F lG n).wide ≤ R.measure := by rw [hlG, hpl]; exact fun n hn => glyph_in HK.out HRO.out HTX.out hk hn
        have hpln : 0 ≤ pl.line ∧ pl.line < R.lines := by
          have h1 := HPP.out.2
          have h2 := HRO.out.lines
          rw [← hpl] at h1
          have h3 := Nat.mod_lt (lineOf F R P k) (show 0 < R.lines.toNat by omega)
          rw [h1]; omega
        obtain ⟨hga0, hpa0⟩ := HGA.out k hk
        rw [← hlG] at hga0 hpa0
        have hgcap := hga0.1.le; have hgmax := hga0.1.max
        have hpcap := hpa0.1.le; have hpmax := hpa0.1.max
        rw [ints_len] at hgcap
        rw [places_len] at hpcap
        have x9 := HX9.out; have x10 := HX10.out
        have hg24 : lG.length ≤ 24 := by rw [hlG]; exact gL_len (HTX.out.size k hk)
        rw [← hlG] at x9
        rw [← hpl] at x10
        try rw [← hlG]
        have HGI := Lib.hid hgi; have HMEM := Lib.hid hmem; have HGA2 := Lib.hid hga0; have HPA2 := Lib.hid hpa0; have HY9 := Lib.hid x9; have HY10 := Lib.hid x10; have HLG := Lib.hid hlG; have HPL := Lib.hid hpl
        clear hS2 hm2 hlG hpl hgi hmem hga0 hpa0 x9 x10 HX9 HX10 HS2 HS HPP HNS HGA
        gi_loopw [66] (fun q wr => ∃ (n : Nat), q = .int .i64 (n : Int) ∧ n ≤ lG.length ∧ PgSt w wr F R w3.heap.size n6 n7 m2 v2 pb2 (fun z => if z = pg then ptsK F R P pg k ++ ptsW F R lG pl n else ptsK F R P z k) ∧ Bd w.heap.size tsP W wr) (fun q _ => lG.length - (intOf q).toNat)
        case atStart =>
          refine ⟨0, rfl, Nat.zero_le _, HS3.out.congr fun z hz => ?_, HB2.out⟩
          by_cases hzp : z = pg
          · rw [if_pos hzp, hzp]; simp [ptsW]
          · rw [if_neg hzp]
        case round =>
          obtain ⟨n, rfl, hn, hSr, hBr⟩ := hrel
          have HSr := Lib.hid hSr; have HBr := Lib.hid hBr
          clear hSr hBr
          have hbWr := HBD.out.trans (HBr.out.types fun t ht => List.mem_cons_of_mem _ ht)
          have hOr := HOP3.out.toI.bd hbWr (by decide)
          have hwr := HBr.out.bel.size
          by_cases hlt : n < lG.length
          · go_light
            have hgr := HGA2.out.sd HBr.out.sd (by decide)
            obtain ⟨gb, goff, hga, cg⟩ := int_cell hgr.1 (i := n) (by rw [ints_len]; exact hlt)
            obtain ⟨g, hg⟩ : ∃ g, g = lG.getD n 0 := ⟨_, rfl⟩
            have hgv : intD (lG.map Int.ofNat) n = (g : Int) := by rw [hg]; simp [intD, List.getD_eq_getElem?_getD, hlt]
            rw [hgv] at cg
            have hgF : g < F.glyphs.length := by rw [hg]; exact getD_mem HMEM.out hlt
            have hng := HK.out.ng
            obtain ⟨b', off', ha', d0, d1, d2⟩ := gl_cells hOr.set.font.gls.gl hgF
            have hgc1 := hOr.set.font.gls.gl.le; have hgc2 := hOr.set.font.gls.gl.max
            have hrow := hOr.set.font.gls.rows g hgF
            have hgw := glE_wide (HK.out.gl g hgF)
            obtain ⟨G, hG⟩ : ∃ G, G = glD F.glyphs g := ⟨_, rfl⟩
            have hGN : glN F lG n = G := by unfold glN; rw [← hg, hG]
            rw [← hG] at d0 d1 d2 hrow hgw
            have hrl := hrow.le; have hrm := hrow.max
            have x8r := hbWr.keep n8 _ HX8.out (by intro c e f h; cases h; decide)
            have xSr := hOr.sh; have xsr := hOr.set.blk
            have x9r := HBr.out.keep _ _ HY9.out (by intro c e f h; cases h; decide)
            have r0 : (0 : Int) ≤ (n : Int) := by omega
            have r1 : (n : Int) < (lG.length : Int) := by omega
            have r2 : (0 : Int) ≤ (g : Int) := by omega
            have r3 : (g : Int) < (F.glyphs.length : Int) := by omega
            have w3' : IntKind.i64.wrap ((n : Int) + 1) = (n : Int) + 1 := IntWalk.i64_in _ (by omega)
            have HGE : Hid (glD F.glyphs g = G) := Lib.hid hG.symm
            have HGN := Lib.hid hGN; have HGW := Lib.hid hgw; have HROW := Lib.hid hrow; have HGF := Lib.hid hgF
            have hgin := HGI.out n hlt
            rw [hGN] at hgin
            have l13 : ¬ n8 = wr.heap.size := by have := blk_lt x8r; omega
            clear hgv hg hG hGN hgr hrow hgw hOr hbWr
            have q8c := cell_blk x8r
            have q8f := frz_blk x8r
            have qSc := cell_blk xSr
            have qSf := frz_blk xSr
            have qsc := cell_blk xsr
            have qsf := frz_blk xsr
            repeat (first | go_values | gi_guarded | gi_step | gi_upon | gi_in)
            refine wpIn_name ?_
            intro Wn hWn
            obtain ⟨b13, hb13⟩ : ∃ x, x = wr.heap.size := ⟨_, rfl⟩
            have hEn : Ext2 wr Wn := by rw [hWn]; repeat' (first | exact Below.refl _ _ | assumption | refine below_drewN ?_ _ | refine Below.drew ?_ | refine Below.alloc ?_ (by first | assumption | omega | (simp <;> omega)) _ | refine Below.setCell ?_ (by first | assumption | omega | (simp <;> omega)) _ | refine Ext2.on (by assumption) ?_)
            have x13 : Wn.heap[b13]? = some (Obj.cells #[.string G.text, .int .i64 G.wide, .slice (s.rs g).a G.rows.length (s.rs g).cap] 41) := by rw [hWn, hb13]; exact blk_new' _ _ (by simp)
            rw [← hb13]
            have hbn : Bd w.heap.size tsP W Wn := HBr.out.trans (Bd.ext hEn (by omega))
            have HBN := Lib.hid hbn; have HX13 := Lib.hid x13; have HSN := Lib.hid (HSr.out.ext hEn)
            have hwn := hbn.bel.size
            clear hWn hEn hb13 x13 hbn q8c q8f qSc qSf qsc qsf x8r xSr xsr l13 cg d0 d1 d2 ha' hga
            gi_loopw [85] (fun q wy => ∃ (y : Nat), q = .int .i64 (y : Int) ∧ y ≤ G.rows.length ∧ PgSt w wy F R w3.heap.size n6 n7 m2 v2 pb2 (fun z => if z = pg then ptsK F R P pg k ++ ptsW F R lG pl n ++ ptsG F R G pl (posS F lG n) y else ptsK F R P z k) ∧ Bd w.heap.size tsP Wn wy) (fun q _ => G.rows.length - (intOf q).toNat)
            case atStart =>
              refine ⟨0, rfl, Nat.zero_le _, HSN.out.congr fun z hz => ?_, Bd.refl _ _ _⟩
              by_cases hzp : z = pg
              · rw [if_pos hzp, if_pos hzp]; simp [ptsG]
              · rw [if_neg hzp, if_neg hzp]
            case round =>
              obtain ⟨y, rfl, hy, hSy, hBy⟩ := hrel
              have HSy := Lib.hid hSy; have HBy := Lib.hid hBy
              have hWy := HBN.out.trans hBy
              have hbWy := HBD.out.trans (hWy.types fun t ht => List.mem_cons_of_mem _ ht)
              have hOy := HOP3.out.toI.bd hbWy (by decide)
              have hwy := hWy.bel.size
              have x13 := hBy.keep _ _ HX13.out (by intro c e f h; cases h; decide)
              clear hSy hBy
              by_cases hlty : y < G.rows.length
              · go_light
                obtain ⟨b', off', ha', cr⟩ := int_cell (hOy.set.font.gls.rows g HGF.out) (i := y) (by rw [HGE.out]; exact hlty)
                rw [HGE.out] at cr
                obtain ⟨rw_, hrw_⟩ : ∃ x, x = intD G.rows y := ⟨_, rfl⟩
                rw [← hrw_] at cr
                have hpr := HPA2.out.sd hWy.sd (by decide)
                obtain ⟨pb', poff, hpa, cp'⟩ := int_cell hpr.1 (i := n) (by rw [places_len]; exact hlt)
                rw [places_at F lG hlt] at cp'
                obtain ⟨ps_, hps_⟩ : ∃ x, x = posS F lG n := ⟨_, rfl⟩
                rw [← hps_] at cp'
                have x8r := hbWy.keep n8 _ HX8.out (by intro c e f h; cases h; decide)
                have xSr := hOy.sh; have xsr := hOy.set.blk
                have x9r := hWy.keep _ _ HY9.out (by intro c e f h; cases h; decide)
                have x10r := hWy.keep _ _ HY10.out (by intro c e f h; cases h; decide)
                have hyh : (y : Int) < F.high := by have := HGW.out.1.2.2.1; omega
                have hidx := idx_ok HK.out HRO.out hpln (a := ps_) (y := y) (x := 0) hyh (by rw [hps_]; omega) (by have := HGW.out.2; rw [hps_]; omega)
                have hh := HK.out.high; have hd := HRO.out.lead; have hms := HRO.out.measure
                have hpos0 : 0 ≤ ps_ ∧ 0 ≤ pl.left ∧ pl.left + ps_ + G.wide ≤ R.measure := by rw [hps_]; exact ⟨hgin.1.2, hgin.1.1, hgin.2⟩
                obtain ⟨A1, hA1⟩ : ∃ x, x = pl.line * (F.high + R.lead) := ⟨_, rfl⟩
                obtain ⟨A2, hA2⟩ : ∃ x, x = (A1 + (y : Int)) * R.measure := ⟨_, rfl⟩
                rw [← hA1, ← hA2] at hidx
                have hw12 := HGW.out.2
                have s1 : IntKind.i64.wrap (F.high + R.lead) = F.high + R.lead := IntWalk.i64_in _ (by omega)
                have s2 : IntKind.i64.wrap (pl.line * (F.high + R.lead)) = A1 := by rw [← hA1]; exact IntWalk.i64_in _ (by omega)
                have s3 : IntKind.i64.wrap (A1 + (y : Int)) = A1 + (y : Int) := IntWalk.i64_in _ (by omega)
                have s4 : IntKind.i64.wrap ((A1 + (y : Int)) * R.measure) = A2 := by rw [← hA2]; exact IntWalk.i64_in _ (by omega)
                have s5 : IntKind.i64.wrap (A2 + pl.left) = A2 + pl.left := IntWalk.i64_in _ (by omega)
                have s6 : IntKind.i64.wrap (A2 + pl.left + ps_) = A2 + pl.left + ps_ := IntWalk.i64_in _ (by omega)
                have r4 : (0 : Int) ≤ (y : Int) := by omega
                have r5 : (y : Int) < (G.rows.length : Int) := by omega
                have HAR := Lib.hid ha'
                have HA1 := Lib.hid hA1; have HA2 := Lib.hid hA2; have HPS := Lib.hid hps_; have HRW_ := Lib.hid hrw_
                clear hA1 hA2 hps_ hrw_ hOy hpr hbWy hidx
                have q13c := cell_blk x13
                have q13f := frz_blk x13
                have q8c := cell_blk x8r
                have q8f := frz_blk x8r
                have qSc := cell_blk xSr
                have qSf := frz_blk xSr
                have qsc := cell_blk xsr
                have qsf := frz_blk xsr
                have q9c := cell_blk x9r
                have q9f := frz_blk x9r
                have q10c := cell_blk x10r
                have q10f := frz_blk x10r
                repeat (first | go_values | gi_guarded | gi_step | gi_upon | gi_in)
                refine round_region_ev [] [0, 1, 2, 3, 4, 5, 6, 7, 8, 9, 10, 11, 12, 13, 14, 15, 16, 17, 18, 19, 20, 21, 22, 23, 24, 25, 26, 27, 28, 29, 30, 31, 32, 33, 34, 35, 36, 37, 38, 39, 40] [] [] (by kernel_rfl) (by rintro ⟨a_, w_, h_⟩; exact h_) (by kernel_rfl) (by kernel_rfl) (by intro c a d v w h; cases d <;> exact h) ?_
                simp only [picks, List.drop_succ_cons, List.drop_zero]
                repeat (refine wpQ0_step (fun K hK => ?_); go_simp; (refine hK _ ?_; clear hK K))
                refine wpQ0_nil ?_
                repeat ((with_reducible refine wpQ2_step (fun K hK => ?_)); go_simp; first | ((with_reducible refine hK _ ?_); clear hK K) | (apply Exists.intro; refine ⟨fun x => ?_, hK _ ?_⟩; (fail); clear hK K))
                refine wpQ2_nil ?_
                refine Events.none_ fun wz hgz => ?_
                simp only [picks, List.drop_succ_cons, List.drop_zero]
                have hwz := Nat.le_trans hwy hgz.size
                have hx13z := Ext2.blk hgz x13
                have HBZ := Lib.hid (HBy.out.trans (Bd.ext hgz (show w.heap.size ≤ wr.heap.size by omega)))
                have HSZ := Lib.hid (HSy.out.ext hgz)
                have HX13z := Lib.hid hx13z
                clear q13c q13f q8c q8f qSc qSf qsc qsf q9c q9f q10c q10f x13 x8r xSr xsr x9r x10r s1 s2 s3 s4 s5 s6 cr cp' ha' hpa hgz
                have q13c := cell_blk hx13z
                have q13f := frz_blk hx13z
                go_wp2_with (fail)
                repeat (first | go_values | gi_guarded | gi_step | gi_upon | gi_in)
                clear q13c q13f hx13z
                obtain ⟨wn, hwn_⟩ : ∃ x : Nat, G.wide = (x : Int) := ⟨G.wide.toNat, by omega⟩
                have hwt : G.wide.toNat = wn := by omega
                have HWT := Lib.hid hwt; have HWN := Lib.hid hwn_
                rw [hwn_] at hpos0 hw12 ⊢
                clear hwt
                gi_loopw [132] (fun q wx => ∃ (x : Nat), q = .int .i64 (x : Int) ∧ x ≤ wn ∧ PgSt w wx F R w3.heap.size n6 n7 m2 v2 pb2 (fun z => if z = pg then ptsK F R P pg k ++ ptsW F R lG pl n ++ ptsG F R G pl (posS F lG n) y ++ ptsR F R G pl (posS F lG n) y x else ptsK F R P z k) ∧ Bd w.heap.size tsP wz wx) (fun q _ => wn - (intOf q).toNat)
                case atStart =>
                  refine ⟨0, rfl, Nat.zero_le _, HSZ.out.congr fun z hz => ?_, Bd.refl _ _ _⟩
                  by_cases hzp : z = pg
                  · rw [if_pos hzp, if_pos hzp]; simp [ptsR]
                  · rw [if_neg hzp, if_neg hzp]
                case round =>
                  obtain ⟨x, rfl, hx, hSx, hBx⟩ := hrel
                  have HSx := Lib.hid hSx; have HBx := Lib.hid hBx
                  have hwx := Nat.le_trans hwz hBx.bel.size
                  have x13 := hBx.keep _ _ HX13z.out (by intro c e f h; cases h; decide)
                  rw [HWN.out] at x13
                  clear hSx hBx
                  by_cases hltx : x < wn
                  · go_light
                    have r6 : (x : Int) < (wn : Int) := by omega
                    have s1 : IntKind.i64.wrap ((wn : Int) - 1) = (wn : Int) - 1 := IntWalk.i64_in _ (by omega)
                    have s2 : IntKind.i64.wrap ((wn : Int) - 1 - (x : Int)) = (wn : Int) - 1 - (x : Int) := IntWalk.i64_in _ (by omega)
                    have hbit : (bits BinOp.and IntKind.i64 (rw_ / 2 ^ (wn - 1 - x)) 1 == 1) = bitG G y x := by
                      have h1 := row_rng HK.out HGF.out (y := y) (by rw [HGE.out]; exact hlty)
                      rw [HGE.out, ← HRW_.out] at h1
                      rw [bit_and h1.1, HRW_.out]; unfold bitG; rw [HWT.out]
                    obtain ⟨bt, hbt⟩ : ∃ z, z = bitG G y x := ⟨_, rfl⟩
                    rw [← hbt] at hbit
                    have HBT := Lib.hid hbt
                    clear hbt
                    have q13c := cell_blk x13
                    have q13f := frz_blk x13
                    cases bt
                    case false =>
                      repeat (first | go_values | gi_guarded | gi_step | gi_upon | gi_in)
                      refine ⟨⟨x + 1, congrArg (Value.int .i64) (by omega), hltx, HSx.out.congr fun z hz => ?_, HBx.out⟩, by simp only [intOf]; omega⟩
                      by_cases hzp : z = pg
                      · rw [if_pos hzp, if_pos hzp, ptsR_succ, ← HBT.out]; simp
                      · rw [if_neg hzp, if_neg hzp]
                    case true =>
                      repeat (first | go_values | gi_guarded | gi_step | gi_upon | gi_in)
                      have hWx := HBN.out.trans (HBZ.out.trans HBx.out)
                      have hbWx := HBD.out.trans (hWx.types fun t ht => List.mem_cons_of_mem _ ht)
                      have hOx := HOP3.out.toI.bd hbWx (by decide)
                      have hwWx := hWx.bel.size
                      have x8r := hbWx.keep n8 _ HX8.out (by intro c e f h; cases h; decide)
                      have xSr := hOx.sh; have xsr := hOx.set.blk
                      have x10r := hWx.keep _ _ HY10.out (by intro c e f h; cases h; decide)
                      have x6r := HSx.out.x6
                      obtain ⟨⟨a2, c2⟩, hsl, hrow2⟩ := HSx.out.own.sl
                      subst hsl
                      obtain ⟨fb, foff, hfa, hrc⟩ := hrow2.row (by omega) (by omega)
                      have hc1 := hrow2.le; have hc2 := hrow2.max
                      dsimp only at hfa hc1 hc2
                      have hd2 := (hrc.three hlt2).2.2
                      simp only [frC] at hd2
                      subst hfa
                      have hidx := idx_ok HK.out HRO.out hpln (a := ps_) (y := y) (x := x) hyh (by omega) (by omega)
                      obtain ⟨ix, hix⟩ : ∃ z, z = idxP F R pl ps_ y x := ⟨_, rfl⟩
                      obtain ⟨N, hN⟩ : ∃ z, z = pixN F R := ⟨_, rfl⟩
                      have hpx := pix_ok HK.out HRO.out
                      rw [← hN] at hd2 hpx
                      rw [← HA1.out, ← HA2.out, ← hix, ← hN] at hidx
                      have hN23 := hpx.2.1
                      have hink := HRO.out.ink
                      obtain ⟨pbp, hpbp⟩ : ∃ z, z = pb2 pg := ⟨_, rfl⟩
                      rw [← hpbp] at hd2
                      have q0 : (0 : Int) ≤ (ix : Int) := by omega
                      have q1 : (ix : Int) < (N : Int) := by omega
                      have q2 : (0 : Int) ≤ (pg : Int) := by omega
                      have q3 : (pg : Int) < (m2 : Int) := by omega
                      have s7 : IntKind.i64.wrap (A2 + pl.left + ps_ + (x : Int)) = (ix : Int) := by rw [hidx.2.2.2.2.1]; exact IntWalk.i64_in _ (by omega)
                      have s8 : IntKind.u8.wrap R.ink = R.ink := by rw [IntKind.wrap_u8]; omega
                      have HIX := Lib.hid hix; have HN := Lib.hid hN; have HPB := Lib.hid hpbp
                      clear hidx hix hN hpbp hpx hrc hrow2 hOx hbWx hWx
                      have q6c := cell_blk x6r
                      have q6f := frz_blk x6r
                      have q8c := cell_blk x8r
                      have q8f := frz_blk x8r
                      have qSc := cell_blk xSr
                      have qSf := frz_blk xSr
                      have qsc := cell_blk xsr
                      have qsf := frz_blk xsr
                      have q10c := cell_blk x10r
                      have q10f := frz_blk x10r
                      refine round_region_ev [] [0, 1, 2, 3, 4, 5, 6, 7, 8, 9, 10, 11, 12, 13, 14, 15, 16, 17, 18] [] [19] (by kernel_rfl) (by rintro ⟨a_, w_, h_⟩; exact h_) (by kernel_rfl) (by kernel_rfl) (by intro c a d v w h; cases d <;> exact h) ?_
                      simp only [picks, List.drop_succ_cons, List.drop_zero]
                      repeat (refine wpQ0_step (fun K hK => ?_); go_simp; (refine hK _ ?_; clear hK K))
                      refine wpQ0_nil ?_
                      repeat ((with_reducible refine wpQ2_step (fun K hK => ?_)); go_simp; first | ((with_reducible refine hK _ ?_); clear hK K) | (apply Exists.intro; refine ⟨fun x => ?_, hK _ ?_⟩; (fail); clear hK K))
                      refine wpQ2_nil ?_
                      refine Events.none_ fun w9 hg9 => ?_
                      simp only [picks, List.drop_succ_cons, List.drop_zero]
                      have hS9 := HSx.out.ext hg9
                      have hcf := hS9.cell hlt2 (i := ix) (by rw [← HN.out]; omega)
                      obtain ⟨cpx, hpx0, -, -⟩ := hS9.pix pg hlt2
                      have hB9 := HBx.out.trans (Bd.ext hg9 (show w.heap.size ≤ wr.heap.size by omega))
                      have hlo := hS9.lo pg hlt2
                      have hB10 := hB9.trans (Bd.set (o := ix) hpx0 (by decide) (show w.heap.size ≤ pb2 pg by omega) (.int .u8 R.ink))
                      have hS10 := hS9.paint hws hlt2 (i := ix) (by rw [← HN.out]; omega)
                      rw [← HPB.out] at hcf hB10 hS10
                      obtain ⟨⟨ov, c9⟩, f9⟩ := hcf
                      have HS10 := Lib.hid hS10; have HB10 := Lib.hid hB10
                      clear q6c q6f q8c q8f qSc qSf qsc qsf q10c q10f x6r x8r xSr xsr x10r hS9 hpx0 hB9 hlo hB10 hS10 hd2 hg9
                      go_wp2_with (fail)
                      repeat (first | go_values | gi_guarded | gi_step | gi_upon | gi_in)
                      refine ⟨⟨x + 1, congrArg (Value.int .i64) (by omega), hltx, HS10.out.congr fun z hz => ?_, HB10.out⟩, by simp only [intOf]; omega⟩
                      by_cases hzp : z = pg
                      · rw [if_pos hzp, if_pos hzp, if_pos trivial, ptsR_succ, ← HBT.out, HIX.out, HPS.out]; simp
                      · rw [if_neg hzp, if_neg hzp, if_neg hzp]
                  · have hxw : x = wn := by omega
                    have HXW := Lib.hid hxw
                    have r8 : ¬ (x : Int) < G.wide := by have := HWN.out; omega
                    clear hltx hxw
                    rw [← HWN.out, ← HAR.out]
                    repeat (first | go_values | gi_guarded | gi_step | gi_upon | gi_in)
                    refine ⟨⟨y + 1, congrArg (Value.int .i64) (by omega), hlty, HSx.out.congr fun z hz => ?_, HBZ.out.trans HBx.out⟩, by simp only [intOf]; omega⟩
                    by_cases hzp : z = pg
                    · rw [if_pos hzp, if_pos hzp, ptsG_succ, HWT.out, HXW.out]; simp
                    · rw [if_neg hzp, if_neg hzp]
              · obtain rfl : y = G.rows.length := by omega
                have r8 : ¬ (G.rows.length : Int) < (G.rows.length : Int) := by omega
                clear hlty
                repeat (first | go_values | gi_guarded | gi_step | gi_upon | gi_in)
                refine ⟨⟨n + 1, congrArg (Value.int .i64) (by omega), hlt, HSy.out.congr fun z hz => ?_, HBN.out.trans HBy.out⟩, by simp only [intOf]; omega⟩
                by_cases hzp : z = pg
                · rw [if_pos hzp, if_pos hzp, ptsW_succ, HGN.out]; simp
                · rw [if_neg hzp, if_neg hzp]
          · obtain rfl : n = lG.length := by omega
            have r8 : ¬ (lG.length : Int) < (lG.length : Int) := by omega
            clear hlt
            repeat (first | go_values | gi_guarded | gi_step | gi_upon | gi_in)
            have hpp := (plS_page (F := F) (P := P) HRO.out k).1
            rw [← HPG.out, ← HPL.out] at hpp
            refine ⟨HBr.out, ⟨v2, pb2, ?_⟩, HBD.out.trans (HBr.out.types fun t ht => List.mem_cons_of_mem _ ht)⟩
            have hfin := HSr.out
            rw [HM2.out] at hfin
            refine hfin.congr fun z hz => ?_
            rw [ptsK_succ, ← HPL.out, ← HLG.out, hpp]
            by_cases hzp : z = pg
            · rw [if_pos hzp, if_pos (by rw [hzp]), hzp]
            · rw [if_neg hzp, if_neg (by omega), List.append_nil]
    case done =>
      rintro d W hd ⟨⟨v, pb, hS⟩, hbd⟩ hD
      subst ha0
      have x6 := hS.x6; have x7 := hS.x7
      have hdn : d ≠ n6 := by omega
      have hdn7 : d ≠ n7 := by omega
      obtain ⟨⟨a', cp⟩, hsl, hrow⟩ := hS.own.sl
      subst hsl
      dsimp only at x6
      have q6c := cell_blk x6
      have q6f := frz_blk x6
      have q7c := cell_blk x7
      have q7f := frz_blk x7
      have HS := Lib.hid hS; have HD := Lib.hid hD; have HR := Lib.hid hrow
      clear hS hD hbd hrow
      go_wp2_with (fail)
      have y6 := Eq.trans (blk_set_ne (b' := n7) (o := 0) (v := .int .i64 0) (blk_set x6 0 (.slice a' (npg F R P P.length) cp)) (by omega)) rfl
      have y7 := Eq.trans (blk_set (blk_set_ne (b' := n6) (o := 0) (v := .slice a' (npg F R P P.length) cp) x7 (by omega)) 0 (.int .i64 0)) rfl
      have yd := blk_set_ne (b' := n7) (o := 0) (v := .int .i64 0) (blk_set_ne (b' := n6) (o := 0) (v := .slice a' (npg F R P P.length) cp) HD.out (by omega)) (by omega)
      have hs1 : Sd w.heap.size [54, 27] W ((W.setCell ⟨n6, 0, none⟩ (.slice a' (npg F R P P.length) cp)).setCell ⟨n7, 0, none⟩ (.int .i64 0)) :=
        (Sd.set x6 (by decide) l6 _).trans (Sd.set (blk_set_ne x7 (by omega)) (by decide) (by omega) _)
      generalize (W.setCell ⟨n6, 0, none⟩ (.slice a' (npg F R P P.length) cp)).setCell ⟨n7, 0, none⟩ (.int .i64 0) = wz at *
      refine leaveM_take (by simp) yd ?_
      refine leaveM_done ?_
      have z6 := blk_put (d := d) (o := .deferred none) y6 (by omega)
      have z7 := blk_put (d := d) (o := .deferred none) y7 (by omega)
      have zc := cell_blk z6; have zd := cell_blk z7
      have hs2 := hs1.trans (Sd.put (o' := .deferred none) (B := w.heap.size) (ts := [54, 27]) yd rfl (by omega))
      refine ⟨.tuple #[.slice a' (npg F R P P.length) cp, .int .i64 0], ?_, ?_⟩
      · simp [results, Tryd.results28, go_sem, zc, zd]
      · refine ⟨⟨.slice a' (npg F R P P.length) cp, by rw [← HX.out], ?_⟩, HS.out.bel.trans hs2.bel⟩
        rw [← HX.out, if_pos rfl, ← HP.out]
        have hown := HS.out.own.sd hs2 (by decide)
        obtain ⟨⟨a2, c2⟩, he, hro⟩ := hown.sl
        obtain ⟨rfl, rfl⟩ : a' = a2 ∧ cp = c2 := by simpa using he
        refine ⟨⟨a', cp⟩, pb, rfl, hro, fun p hp => ?_⟩
        obtain ⟨c, hc, h5, h6⟩ := HS.out.pix p hp
        exact ⟨c, hs2.keep _ _ _ _ hc (by decide), h5, h6⟩
end Go.Proofs.YtahgbecfaihfpaaDoor
