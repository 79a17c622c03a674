/-
  What the walk of known holds on to.
  What the second loop of known holds on to: the levels, backward.
-/
import Derived.Test.YtfjbgcaogffiaaaDKnowA
import Derived.Test.YtfjbgcaogffiaaaDMornA
import Derived.Test.YtfjbgcaogffiaaaDSortA
import Derived.Test.YtfjbgcaogffiaaaDSearch
import Derived.Test.YtfjbgcaogffiaaaDRegB
namespace Go.Proofs.Ytfjbgcaogffiaaa
open Go.RowKit D
set_option linter.unusedVariables false
theorem turn_two {b : Nat} {W : World} {x y : Value} {t : TypeId} (hb : W.heap[b]? = some (.cells #[x, y] t (0, 0))) (u v : Value) : Turn b (.cells #[u, v] t (0, 0)) W ((W.setCell ⟨b, 0, none⟩ u).setCell ⟨b, 1, none⟩ v) := by
  have h := (turn_set (o := 0) hb u).set (o := 1) v
  simpa using h
theorem turn_one {b : Nat} {W : World} {x : Value} {t : TypeId} (hb : W.heap[b]? = some (.cells #[x] t (0, 0))) (u : Value) : Turn b (.cells #[u] t (0, 0)) W (W.setCell ⟨b, 0, none⟩ u) := by
  have h := turn_set (o := 0) hb u
  simpa using h
/-- The length of a slice in a box. -/
def sliceLen : Option Value → Nat
  | some (.slice _ n _) => n
  | _ => 0
def ordLen (W : World) (b : Nat) : Nat := sliceLen (W.cell? ⟨b, 0, none⟩)
theorem ordLen_eq {W : World} {b n cap : Nat} {a : Option Addr} {t : TypeId} {f : Nat × Nat} (h : W.heap[b]? = some (.cells #[.slice a n cap] t f)) : ordLen W b = n := by rw [ordLen, cell_blk h]; rfl
structure KFix (w : World) (T : Task) (s : TSl) (B n0 n1 go : Nat) (W : World) : Prop where
  b : Below n0 w W
  x : W.heap[n0]? = some (.cells #[.pointer (some ⟨B, 0, none⟩)] 88 (0, 0))
  t : W.heap[n0 + 1 + 1 + 1]? = some (Obj.cells #[.slice s.h.a T.rule.heat.length s.h.cap, .slice s.w.a T.rule.wet.length s.w.cap, .int .i64 T.rule.own, .int .i64 T.rule.feed, .int .i64 T.rule.g0, .int .i64 T.rule.g1, .int .i64 T.rule.g2, .int .i64 T.rule.lost, .int .i64 T.first, .slice s.d.a T.days.length s.d.cap, .int .i64 T.start.lo, .int .i64 T.start.hi, .slice s.t.a T.tests.length s.t.cap] 31)
  o : 0 < T.tests.length → RowC W go 0 1 T.tests.length (natC (orderT T))
  n : n0 + 1 + 1 + 1 < n1
  g : 0 < T.tests.length → n0 + 1 + 1 + 1 < go ∧ go < n1
  m : MornAt W (n1 + 1 + 1 + 1) B (n1 + 1 + 1) (0 : Int) (T.days.length : Int)
structure KVar (T : Task) (n0 n1 go x8 : Nat) (W : World) (c : Nat) (st : Mst) (k : Nat) : Prop where
  now : W.heap[n1 + 1 + 1]? = some (Obj.cells #[.int .i64 st.now.lo, .int .i64 st.now.hi] 28)
  ord : ∃ a cap, W.heap[n1]? = some (.cells #[.slice a (T.tests.length - c) cap] 44 (0, 0)) ∧ (c < T.tests.length → a = some ⟨go, c, none⟩ ∧ T.tests.length - c ≤ cap ∧ cap ≤ 9223372036854775807)
  good : ∃ v, W.heap[n1 + 1]? = some (.cells #[v] 44 (0, 0)) ∧ OwnR W (n1 + 7) 3 1 v st.good.length (natC st.good) ∧ (st.good = [] → v = .slice none 0 0) ∧ v.ownBlock ≠ some x8
  struck : ∃ v, W.heap[n0 + 1 + 1]? = some (.cells #[v] 33 (0, 0)) ∧ OwnR W (n1 + 7) 65 2 v st.struck.length (strikeC st.struck)
  all : ∃ v, W.heap[n0 + 1]? = some (.cells #[v] 32 (0, 0)) ∧ OwnR W (n1 + 7) 28 2 v k (spC (fwd T))
section
variable {w : World} {T : Task} {s : TSl} {B n0 n1 go x8 : Nat} {W W' : World} {c k : Nat} {st : Mst}
theorem kept_row {C : Nat} {row : Option Nat} (hg : W.grownBy W' row) (hr : ∀ r, row = some r → C ≤ r ∧ ∃ o : Obj, W.heap[r]? = some o ∧ o.isCells = false) {b off sz n : Nat} {cf : Nat → Nat → Value} (hn : 0 < n) (hz : 0 < sz) (h : RowC W b off sz n cf) : RowC W' b off sz n cf :=
  ⟨Nat.lt_of_lt_of_le h.1 hg.size, fun i j hi hj => cell_kept (h.2 i j hi hj) hg (fun r e => (hr r e).2)⟩
theorem KFix.kept {C : Nat} {row : Option Nat} (hg : W.grownBy W' row) (hr : ∀ r, row = some r → C ≤ r ∧ ∃ o : Obj, W.heap[r]? = some o ∧ o.isCells = false) (hC : n0 ≤ C) (hw : n0 ≤ w.heap.size) (h : KFix w T s B n0 n1 go W) : KFix w T s B n0 n1 go W' :=
  ⟨kept_below hg hr h.b hw hC, kept_blk hg hr h.x, kept_blk hg hr h.t, fun h0 => kept_row hg hr h0 (by omega) (h.o h0), h.n, h.g, h.m.kept hg hr⟩
theorem KVar.kept {C : Nat} {row : Option Nat} (hg : W.grownBy W' row) (hr : ∀ r, row = some r → C ≤ r ∧ ∃ o : Obj, W.heap[r]? = some o ∧ o.isCells = false) (h : KVar T n0 n1 go x8 W c st k) : KVar T n0 n1 go x8 W' c st k := by
  obtain ⟨h1, ⟨a, cap, h2, h3⟩, ⟨v4, h4, h5, h51⟩, ⟨v6, h6, h7⟩, ⟨v8, h8, h9⟩⟩ := h
  exact ⟨kept_blk hg hr h1, ⟨a, cap, kept_blk hg hr h2, h3⟩, ⟨v4, kept_blk hg hr h4, kept_own hg hr h5, h51⟩, ⟨v6, kept_blk hg hr h6, kept_own hg hr h7⟩, ⟨v8, kept_blk hg hr h8, kept_own hg hr h9⟩⟩
theorem KFix.ext (h : KFix w T s B n0 n1 go W) (hg : Ext2 W W') (hn : n0 ≤ W.heap.size) : KFix w T s B n0 n1 go W' :=
  ⟨h.b.trans (Below.mono hg hn), hg.blk h.x, hg.blk h.t, fun h0 => (h.o h0).below hg, h.n, h.g, h.m.ext hg⟩
theorem KVar.ext (h : KVar T n0 n1 go x8 W c st k) (hg : Ext2 W W') : KVar T n0 n1 go x8 W' c st k := by
  obtain ⟨h1, ⟨a, cap, h2, h3⟩, ⟨v4, h4, h5, h51⟩, ⟨v6, h6, h7⟩, ⟨v8, h8, h9⟩⟩ := h
  exact ⟨hg.blk h1, ⟨a, cap, hg.blk h2, h3⟩, ⟨v4, hg.blk h4, h5.below hg, h51⟩, ⟨v6, hg.blk h6, h7.below hg⟩, ⟨v8, hg.blk h8, h9.below hg⟩⟩
theorem RowC.set_ne {W : World} {b off sz n g o : Nat} {cf : Nat → Nat → Value} {v : Value} (h : RowC W b off sz n cf) (hne : g ≠ b) : RowC (W.setCell ⟨g, o, none⟩ v) b off sz n cf :=
  ⟨by rw [World.size_setCell]; exact h.1, fun i j hi hj => by
    rw [← h.2 i j hi hj]
    exact World.cell?_of_block (by simp [World.setCell, Array.getElem?_modify, hne])⟩
theorem RowC.app {W W' : World} {b off sz n base : Nat} {cf : Nat → Nat → Value} {e : TypeId} {sz' m : Nat} {v : Value} {c' : Nat → Nat → Value} (h : RowC W b off sz n cf) (hO : OwnR W base e sz' v m c') (hg : W.grownBy W' v.ownBlock) (hb : b < base) : RowC W' b off sz n cf :=
  ⟨Nat.lt_of_lt_of_le h.1 hg.size, fun i j hi hj => by
    rw [← h.2 i j hi hj]
    exact World.cell?_of_block (hg.block b h.1 (fun he => by have := own_block hO b he.symm; omega))⟩
theorem KFix.set {g o : Nat} {v : Value} (h : KFix w T s B n0 n1 go W) (hg : g = n0 + 1 ∨ g = n0 + 1 + 1 ∨ n1 ≤ g) (hb : g < n1 + 1 + 1 + 1 ∨ n1 + 7 ≤ g) : KFix w T s B n0 n1 go (W.setCell ⟨g, o, none⟩ v) := by
  have hn := h.n
  refine ⟨below_set h.b (by omega), blk_set_ne h.x (by omega), blk_set_ne h.t (by omega), fun h0 => (h.o h0).set_ne (by have := h.g h0; omega), h.n, h.g, h.m.set (by omega)⟩
theorem KFix.app {base : Nat} {e : TypeId} {sz m : Nat} {v : Value} {c' : Nat → Nat → Value} (h : KFix w T s B n0 n1 go W) (hbase : n1 + 7 ≤ base) (hO : OwnR W base e sz v m c') (hg : W.grownBy W' v.ownBlock) (hw : n0 ≤ W.heap.size) : KFix w T s B n0 n1 go W' := by
  have hn := h.n
  refine ⟨app_below h.b hO (by omega) hw hg, app_keeps hO hg h.x (by omega), app_keeps hO hg h.t (by omega), fun h0 => (h.o h0).app hO hg (by have := h.g h0; omega), h.n, h.g, ⟨app_keeps hO hg h.m.x (by omega), app_keeps hO hg h.m.n (by omega), app_keeps hO hg h.m.i (by omega), app_keeps hO hg h.m.j (by omega)⟩⟩
theorem own_set {W : World} {base g o : Nat} {e : TypeId} {sz n : Nat} {v u : Value} {cf : Nat → Nat → Value} (h : OwnR W base e sz v n cf) (hg : g < base) : OwnR (W.setCell ⟨g, o, none⟩ u) base e sz v n cf := h.above (Above.set (Above.refl _ _) (.inl hg))
/-- The iterator's step sets now alone. -/
theorem KVar.setNow {v u : Value} {st' : Mst} (h : KVar T n0 n1 go x8 W c st k) (hn : n0 + 1 + 1 + 1 < n1) (hv : v = .int .i64 st'.now.lo) (hu : u = .int .i64 st'.now.hi) (hg : st'.good = st.good) (hs : st'.struck = st.struck) : KVar T n0 n1 go x8 ((W.setCell ⟨n1 + 1 + 1, 0, none⟩ v).setCell ⟨n1 + 1 + 1, 1, none⟩ u) c st' k := by
  obtain ⟨h1, ⟨a, cap, h2, h3⟩, ⟨v4, h4, h5, h51⟩, ⟨v6, h6, h7⟩, ⟨v8, h8, h9⟩⟩ := h
  refine ⟨?_, ⟨a, cap, blk_set_ne (blk_set_ne h2 (by omega)) (by omega), h3⟩, ⟨v4, blk_set_ne (blk_set_ne h4 (by omega)) (by omega), ?_, by rw [hg]; exact h51⟩, ⟨v6, blk_set_ne (blk_set_ne h6 (by omega)) (by omega), ?_⟩, ⟨v8, blk_set_ne (blk_set_ne h8 (by omega)) (by omega), own_set (own_set h9 (by omega)) (by omega)⟩⟩
  · rw [hv, hu]; exact Eq.trans (blk_set (blk_set h1 _ _) _ _) rfl
  · rw [hg]; exact own_set (own_set h5 (by omega)) (by omega)
  · rw [hs]; exact own_set (own_set h7 (by omega)) (by omega)
/-- order = order[1:]. -/
theorem KVar.setOrd {a : Option Addr} {cap c' : Nat} (h : KVar T n0 n1 go x8 W c st k) (hn : n0 + 1 + 1 + 1 < n1) (ha : c' < T.tests.length → a = some ⟨go, c', none⟩ ∧ T.tests.length - c' ≤ cap ∧ cap ≤ 9223372036854775807) : KVar T n0 n1 go x8 (W.setCell ⟨n1, 0, none⟩ (.slice a (T.tests.length - c') cap)) c' st k := by
  obtain ⟨h1, ⟨a0, cap0, h2, h3⟩, ⟨v4, h4, h5, h51⟩, ⟨v6, h6, h7⟩, ⟨v8, h8, h9⟩⟩ := h
  exact ⟨blk_set_ne h1 (by omega), ⟨a, cap, Eq.trans (blk_set h2 _ _) rfl, ha⟩, ⟨v4, blk_set_ne h4 (by omega), own_set h5 (by omega), h51⟩, ⟨v6, blk_set_ne h6 (by omega), own_set h7 (by omega)⟩, ⟨v8, blk_set_ne h8 (by omega), own_set h9 (by omega)⟩⟩
/-- Cells of the call's other blocks. -/
theorem KVar.setAt {g o : Nat} {v : Value} (h : KVar T n0 n1 go x8 W c st k) (hg : W.heap.size ≤ g ∨ (n1 + 7 ≤ g ∧ ∀ e sz u n cf, OwnR W (n1 + 7) e sz u n cf → u.ownBlock ≠ some g)) (hn : n0 + 1 + 1 + 1 < n1) : KVar T n0 n1 go x8 (W.setCell ⟨g, o, none⟩ v) c st k := by
  obtain ⟨h1, ⟨a0, cap0, h2, h3⟩, ⟨v4, h4, h5, h51⟩, ⟨v6, h6, h7⟩, ⟨v8, h8, h9⟩⟩ := h
  have key : ∀ e sz u n cf, OwnR W (n1 + 7) e sz u n cf → OwnR (W.setCell ⟨g, o, none⟩ v) (n1 + 7) e sz u n cf := fun e sz u n cf hu => by
    have hgr : W.grownBy (W.setCell ⟨g, o, none⟩ v) (some g) := grown_set (grown_refl _ _)
    refine hu.kept hgr ?_
    rcases hg with hg | hg
    · cases hb : u.ownBlock with
      | none => exact .inl rfl
      | some b =>
        right; intro e'
        have := (World.ownsRow.lt hu b hb).2
        cases e'; omega
    · exact .inr (hg.2 e sz u n cf hu)
  have l1 := blk_lt h1; have l2 := blk_lt h2; have l4 := blk_lt h4; have l6 := blk_lt h6; have l8 := blk_lt h8
  exact ⟨blk_set_ne h1 (by omega), ⟨a0, cap0, blk_set_ne h2 (by omega), h3⟩, ⟨v4, blk_set_ne h4 (by omega), key _ _ _ _ _ h5, h51⟩, ⟨v6, blk_set_ne h6 (by omega), key _ _ _ _ _ h7⟩, ⟨v8, blk_set_ne h8 (by omega), key _ _ _ _ _ h9⟩⟩
theorem KVar.fresh {x : Nat} (h : KVar T n0 n1 go x8 W c st k) (hx : W.heap.size ≤ x ∨ x < n1 + 7) : KVar T n0 n1 go x W c st k := by
  obtain ⟨h1, h2, ⟨v4, h4, h5, h6, _⟩, h7, h8⟩ := h
  exact ⟨h1, h2, ⟨v4, h4, h5, h6, fun he => by have := World.ownsRow.lt h5 x he; omega⟩, h7, h8⟩
theorem app_ne {W W' : World} {base b8 n : Nat} {v' x : Value} {cf : Nat → Nat → Value} (hO' : OwnR W' base 3 1 v' (n + 1) cf) (h8 : W'.heap[b8]? = some (.cells #[x] 3 (0, 0))) (h : 1 ≤ n ∨ (W.heap.size ≤ base)) (hb : b8 < W.heap.size) : v'.ownBlock ≠ some b8 := by
  intro he
  rcases hO' with ⟨_, ⟨rfl, h1⟩ | ⟨g, cap, cur, rfl, hbg, hg, hn, hc, hs, ht⟩⟩
  · cases he
  · cases he
    rcases h with h | h
    · rw [h8] at hg; cases hg
      simp at hs; omega
    · have hb' : g < W.heap.size := hb
      omega
theorem bad_both (a b : Span) : (!bad (both a b)) = decide (max a.lo b.lo ≤ min a.hi b.hi) := by
  by_cases h : (both a b).hi < (both a b).lo
  · rw [bad, decide_eq_true h, decide_eq_false (by simp only [both] at h; omega)]; rfl
  · rw [bad, decide_eq_false h, decide_eq_true (by simp only [both] at h; omega)]; rfl
theorem own_lt {W : World} {base : Nat} {e : TypeId} {sz n : Nat} {v : Value} {cf : Nat → Nat → Value} (h : OwnR W base e sz v n cf) {b : Nat} (hb : v.ownBlock = some b) : b < W.heap.size := (World.ownsRow.lt h b hb).2
theorem app_keeps2 {W0 W W1 : World} {base : Nat} {e : TypeId} {sz n : Nat} {v : Value} {cf : Nat → Nat → Value} (hO : OwnR W0 base e sz v n cf) (hg : W.grownBy W1 v.ownBlock) {b : Nat} {x : Obj} (h : W.heap[b]? = some x) (hb : W0.heap.size ≤ b) : W1.heap[b]? = some x :=
  (hg.block b (blk_lt h) (fun he => by have := own_lt hO he.symm; omega)).trans h
theorem natC_snoc {L : List Nat} {j p q : Nat} (hp : p < L.length + 1) (hq : q < 1) : upd (natC L) L.length [.int .i64 (j : Int)] p q = natC (L ++ [j]) p q := by
  obtain rfl : q = 0 := by omega
  rcases Nat.lt_or_ge p L.length with h | h
  · rw [upd_lt h]; simp only [natC, List.getD_eq_getElem?_getD, List.getElem?_append_left h]
  · obtain rfl : p = L.length := by omega
    rw [upd_at]; simp [natC]
theorem strikeC_snoc {L : List Strike} {x : Strike} {p q : Nat} (hp : p < L.length + 1) (hq : q < 2) : upd (strikeC L) L.length [.int .i64 x.test, .int .i64 x.by_] p q = strikeC (L ++ [x]) p q := by
  rcases Nat.lt_or_ge p L.length with h | h
  · rw [upd_lt h]
    have e : strikeD (L ++ [x]) p = strikeD L p := by simp only [strikeD, List.getD_eq_getElem?_getD, List.getElem?_append_left h]
    rcases (by omega : q = 0 ∨ q = 1) with rfl | rfl <;> simp only [strikeC, e]
  · obtain rfl : p = L.length := by omega
    rw [upd_at]
    have e : strikeD (L ++ [x]) L.length = x := by simp [strikeD]
    rcases (by omega : q = 0 ∨ q = 1) with rfl | rfl <;> simp only [strikeC, e] <;> rfl
/-- now, taken = s, append(taken, j). -/
theorem KVar.take {Wx w7 : World} {bs j cp' : Nat} {v4 x : Value} {a' : Option Addr} {sp : Span} (h : KVar T n0 n1 go x8 W c st k) (hn : n0 + 1 + 1 + 1 < n1) (hx : Ext2 W Wx) (hbs : n1 + 7 ≤ bs) (hO4 : OwnR W bs 3 1 v4 st.good.length (natC st.good)) (h3 : 1 ≤ st.good.length ∨ W.heap.size ≤ bs)
    (hne : v4.ownBlock ≠ some x8) (h8 : W.heap[x8]? = some (.cells #[x] 3 (0, 0))) (hO7 : OwnR w7 bs 3 1 (.slice a' (st.good.length + 1) cp') (st.good.length + 1) (upd (natC st.good) st.good.length [.int .i64 (j : Int)])) (hg7 : Wx.grownBy w7 v4.ownBlock) :
    KVar T n0 n1 go x8 (((w7.setCell ⟨n1 + 1 + 1, 0, none⟩ (.int .i64 sp.lo)).setCell ⟨n1 + 1 + 1, 1, none⟩ (.int .i64 sp.hi)).setCell ⟨n1 + 1, 0, none⟩ (.slice a' (st.good.length + 1) cp')) c ⟨sp, st.good ++ [j], st.struck⟩ k := by
  obtain ⟨h1, ⟨a0, cap0, h2, h3'⟩, ⟨v5, h4, h5, h6, h61⟩, ⟨v7, h7, h8'⟩, ⟨v9, h9, h10⟩⟩ := h.ext hx
  have hOx := hO4.below hx
  have k1 := app_keeps hOx hg7 h1 (by omega)
  have k2 := app_keeps hOx hg7 h2 (by omega)
  have k4 := app_keeps hOx hg7 h4 (by omega)
  have k7 := app_keeps hOx hg7 h7 (by omega)
  have k9 := app_keeps hOx hg7 h9 (by omega)
  have k8 := app_other hOx h8' (by decide) hg7
  have k10 := app_other hOx h10 (by decide) hg7
  have k88 : w7.heap[x8]? = some (.cells #[x] 3 (0, 0)) := (hg7.block x8 (blk_lt (hx.blk h8)) (fun e => hne e.symm)).trans (hx.blk h8)
  refine ⟨?_, ⟨a0, cap0, blk_set_ne (blk_set_ne (blk_set_ne k2 (by omega)) (by omega)) (by omega), h3'⟩, ⟨_, Eq.trans (blk_set (blk_set_ne (blk_set_ne k4 (by omega)) (by omega)) _ _) rfl, ?_, fun he => by simp at he, ?_⟩, ⟨v7, blk_set_ne (blk_set_ne (blk_set_ne k7 (by omega)) (by omega)) (by omega), own_set (own_set (own_set k8 (by omega)) (by omega)) (by omega)⟩, ⟨v9, blk_set_ne (blk_set_ne (blk_set_ne k9 (by omega)) (by omega)) (by omega), own_set (own_set (own_set k10 (by omega)) (by omega)) (by omega)⟩⟩
  · exact blk_set_ne (Eq.trans (blk_set (blk_set k1 _ _) _ _) rfl) (by omega)
  · have := (hO7.congr fun p q hp hq => natC_snoc (j := j) hp hq).base hbs
    have h11 := own_set (g := n1 + 1) (o := 0) (u := .slice a' (st.good.length + 1) cp') (own_set (g := n1 + 1 + 1) (o := 1) (u := .int .i64 sp.hi) (own_set (g := n1 + 1 + 1) (o := 0) (u := .int .i64 sp.lo) this (by omega)) (by omega)) (by omega)
    simpa using h11
  · exact app_ne (W := W) hO7 k88 h3 (blk_lt h8)
/-- struck = append(struck, x). -/
theorem KVar.strike {Wx w7 : World} {cp' : Nat} {v6 : Value} {a' : Option Addr} {y : Strike} (h : KVar T n0 n1 go x8 W c st k) (hn : n0 + 1 + 1 + 1 < n1) (hx : Ext2 W Wx) (hO6 : OwnR W (n1 + 7) 65 2 v6 st.struck.length (strikeC st.struck))
    (hO7 : OwnR w7 (n1 + 7) 65 2 (.slice a' (st.struck.length + 1) cp') (st.struck.length + 1) (upd (strikeC st.struck) st.struck.length [.int .i64 y.test, .int .i64 y.by_])) (hg7 : Wx.grownBy w7 v6.ownBlock) :
    KVar T n0 n1 go x8 (w7.setCell ⟨n0 + 1 + 1, 0, none⟩ (.slice a' (st.struck.length + 1) cp')) c { st with struck := st.struck ++ [y] } k := by
  obtain ⟨h1, ⟨a0, cap0, h2, h3'⟩, ⟨v5, h4, h5, h6, h61⟩, ⟨v7, h7, h8'⟩, ⟨v9, h9, h10⟩⟩ := h.ext hx
  have hOx := hO6.below hx
  have k1 := app_keeps hOx hg7 h1 (by omega)
  have k2 := app_keeps hOx hg7 h2 (by omega)
  have k4 := app_keeps hOx hg7 h4 (by omega)
  have k7 := app_keeps hOx hg7 h7 (by omega)
  have k9 := app_keeps hOx hg7 h9 (by omega)
  have k5 := app_other hOx h5 (by decide) hg7
  have k10 := app_other hOx h10 (by decide) hg7
  refine ⟨blk_set_ne k1 (by omega), ⟨a0, cap0, blk_set_ne k2 (by omega), h3'⟩, ⟨v5, blk_set_ne k4 (by omega), own_set k5 (by omega), h6, h61⟩, ⟨_, Eq.trans (blk_set k7 _ _) rfl, ?_⟩, ⟨v9, blk_set_ne k9 (by omega), own_set k10 (by omega)⟩⟩
  have := hO7.congr fun p q hp hq => strikeC_snoc (x := y) hp hq
  have h11 := own_set (g := n0 + 1 + 1) (o := 0) (u := .slice a' (st.struck.length + 1) cp') this (by omega)
  simpa using h11
/-- all = append(all, now). -/
theorem KVar.row {Wx w7 : World} {cp' : Nat} {v8 : Value} {a' : Option Addr} (h : KVar T n0 n1 go x8 W c st k) (hn : n0 + 1 + 1 + 1 < n1) (hx : Ext2 W Wx) (hO8 : OwnR W (n1 + 7) 28 2 v8 k (spC (fwd T))) (hf : st.now = fwd T k)
    (hO7 : OwnR w7 (n1 + 7) 28 2 (.slice a' (k + 1) cp') (k + 1) (upd (spC (fwd T)) k [.int .i64 st.now.lo, .int .i64 st.now.hi])) (hg7 : Wx.grownBy w7 v8.ownBlock) :
    KVar T n0 n1 go x8 (w7.setCell ⟨n0 + 1, 0, none⟩ (.slice a' (k + 1) cp')) c st (k + 1) := by
  obtain ⟨h1, ⟨a0, cap0, h2, h3'⟩, ⟨v5, h4, h5, h6, h61⟩, ⟨v7, h7, h8'⟩, ⟨v9, h9, h10⟩⟩ := h.ext hx
  have hOx := hO8.below hx
  have k1 := app_keeps hOx hg7 h1 (by omega)
  have k2 := app_keeps hOx hg7 h2 (by omega)
  have k4 := app_keeps hOx hg7 h4 (by omega)
  have k7 := app_keeps hOx hg7 h7 (by omega)
  have k9 := app_keeps hOx hg7 h9 (by omega)
  have k5 := app_other hOx h5 (by decide) hg7
  have k8 := app_other hOx h8' (by decide) hg7
  refine ⟨blk_set_ne k1 (by omega), ⟨a0, cap0, blk_set_ne k2 (by omega), h3'⟩, ⟨v5, blk_set_ne k4 (by omega), own_set k5 (by omega), h6, h61⟩, ⟨v7, blk_set_ne k7 (by omega), own_set k8 (by omega)⟩, ⟨_, Eq.trans (blk_set k9 _ _) rfl, own_set (hO7.congr fun p q hp hq => ?_) (by omega)⟩⟩
  have hq' : q < 2 := hq
  rcases Nat.lt_or_ge p k with h | h
  · rw [upd_lt h]
  · obtain rfl : p = k := by omega
    rw [upd_at]
    rcases (by omega : q = 0 ∨ q = 1) with rfl | rfl <;> simp only [spC, ← hf] <;> rfl
end
/-- Between two tests of a morning. -/
def KRel (w : World) (T : Task) (s : TSl) (B n0 n1 go b8 k : Nat) (W wr : World) : Prop :=
  ∃ q, q ≤ (dayTests T k).length ∧ KFix w T s B n0 n1 go wr ∧ KVar T n0 n1 go b8 wr (pos T k + q) (stq T k q) k ∧ wr.heap[b8]? = some (.cells #[.int .i64 (k : Int)] 3 (0, 0)) ∧ KeepsOthers W wr
/-- A loop within a round that is left by its end or by one break. -/
theorem rf_in_brk {P : Program} {id : Nat} {l0 : Nat} {r0 : Loop} {g : Operand} {ps : Array Tmp} {assign body : Code} {Q0 : Exit → Act → World → Prop} {a : Act} {w : World} (hl0 : w.heap[l0]? = some (.loop r0)) {gf : Nat} {lb : Array Value} (hg : a.eval g = .func (.func gf) #[] lb) (eg : ∀ args w, (callFunc gf args).run P w = .ok (.enter gf args) w)
    {N : Nat} {enc : Nat → Array Value} {Step : Nat → World → World → Prop} {Pre : Nat → World → Prop} {Pre0 : World → Prop} (hit : IterR P gf lb N enc Step Pre Pre0) (hps : ∀ k, (enc k).size = ps.size)
    (I M X : Nat → World → Prop) (J : Nat → Act → World → Prop) (hi : OwnFrom w.heap.size I) (hm : OwnFrom w.heap.size M) (hx : OwnFrom w.heap.size X) (hj : ∀ a, OwnFrom w.heap.size (fun k W => J k a W)) (hp0 : ∀ W, Below w.heap.size w W → Pre0 W) (h0 : I 0 w)
    (hMP : ∀ k W, k < N → M k W → Pre k W) (hstep : ∀ k W1 W2, k + 1 < N → M k W1 → Step k W1 W2 → KeepsOthers W1 W2 ∧ I (k + 1) W2)
    (hassign : ∀ (l k : Nat) (W : World), k < N → I k W → assign.wpIn (Fence.wide.inRound l) 0 P (Exit.then (fun a' W' => KeepsOthers W W' ∧ J k a' W') (fun _ _ _ => False)) { tmps := (ps.zip (enc k)).foldl (fun t (p, v) => t.setIfInBounds p v) a.tmps, defers := [] } W)
    (hbody : ∀ (l k : Nat) (a' : Act) (W : World), w.heap.size ≤ l → (∃ r, W.heap[l]? = some (.loop r)) → k < N → J k a' W → body.wpIn (Fence.wide.inRound l) 0 P (rEnd M (fun c k W => c = .exit id ∧ X k W) k W) a' W)
    (hfin : ∀ (W : World), ((N = 0 ∧ I 0 W) ∨ (∃ j, j + 1 = N ∧ M j W) ∨ ∃ k, k < N ∧ X k W) → Q0 .normal a W) :
    (Code.rangeFunc g ps assign body).wpIn (Fence.wide.inRound l0) 0 P (Exit.inBlock id Q0) a w :=
  rf_in hl0 hg eg hit hps I M J (fun c k W => c = .exit id ∧ X k W) ⟨hi, hm, hj, fun c k W W' row hs hg' hr => ⟨hs.1, hx k W W' row hs.2 hg' hr⟩⟩ hp0 h0 hMP hstep hassign hbody
    (fun W h => hfin W (h.elim .inl (fun h => .inr (.inl h)))) (fun c k W hk h => by
      obtain ⟨rfl, h⟩ := h
      apply wpIn_exit
      show Exit.inBlock id Q0 (.exit id) a W
      simp only [Exit.inBlock, if_true]
      exact hfin W (.inr (.inr ⟨k, hk, h⟩)))
/-- While it is sought what strikes. -/
structure SInv (wr : World) (b9 b12 bb : Nat) (want : Span) (a4 : Option Addr) (n cp4 : Nat) (by_ : Int) (W : World) : Prop where
  x : Ext2 wr W
  want : W.heap[b9]? = some (Obj.cells #[.int .i64 want.lo, .int .i64 want.hi] 28)
  by_ : W.heap[b12]? = some (.cells #[.int .i64 by_] 3 (0, 0))
  box : W.heap[bb]? = some (.cells #[.slice a4 n cp4] 44 (0, 0))
theorem SInv.kept {C : Nat} {W W' wr : World} {b9 b12 bb n cp4 : Nat} {want : Span} {a4 : Option Addr} {by_ : Int} {row : Option Nat} (hg : W.grownBy W' row) (hr : ∀ r, row = some r → C ≤ r ∧ ∃ o : Obj, W.heap[r]? = some o ∧ o.isCells = false) (hC : wr.heap.size ≤ C) (h : SInv wr b9 b12 bb want a4 n cp4 by_ W) : SInv wr b9 b12 bb want a4 n cp4 by_ W' :=
  ⟨kept_below hg hr h.x (Nat.le_refl _) hC, kept_blk hg hr h.want, kept_blk hg hr h.by_, kept_blk hg hr h.box⟩
theorem wpList_to_in {P : Program} {ops : Array Oper} {Q : Exit → Act → World → Prop} {l0 n : Nat} (hq : ¬ LetsOut Q) : ∀ (l : List Oper) (a : Act) (w : World), (∀ o ∈ l, ∀ c, o.op ≠ .defer c) → wpList P ops Q l a w → wpListIn (Fence.wide.inRound l0) n P ops Q l a w
  | [], _, _, _, h => h
  | o :: l, a, w, hn, h => by
    have ih := fun (a : Act) (w : World) (h : wpList P ops Q l a w) => wpList_to_in (n := n) (l0 := l0) hq l a w (fun o ho => hn o (List.mem_cons_of_mem _ ho)) h
    simp only [wpList] at h
    simp only [wpListIn]
    split
    · rename_i hw
      rw [if_pos hw] at h
      rcases h with h | h
      · exact wp_to_in (hn o List.mem_cons_self) (Oper.wp_mono ih h)
      · exact (hq h.2).elim
    · rename_i hw
      rw [if_neg hw] at h
      exact ⟨fun _ _ => trivial, ih _ _ h⟩
theorem round_region_list {P : Program} {Q : Exit → Act → World → Prop} {l0 n id : Nat} {l : List Oper} {a : Act} {w : World} (hn : noDefers l.toArray = true) (hq : ¬ LetsOut Q) (h : wpList P l.toArray Q l a w) : (Code.region id l.toArray false).wpIn (Fence.wide.inRound l0) n P Q a w :=
  wpIn_region_lit (wpList_to_in hq l a w (fun o ho => by
    obtain ⟨i, hi, rfl⟩ := List.mem_iff_getElem.1 ho
    exact noDefers_at hn (i := i) (by simp [hi])) h)
theorem own_type_ne {W : World} {base : Nat} {e e' : TypeId} {sz n b : Nat} {v : Value} {cf : Nat → Nat → Value} {cc : Array Value} {f : Nat × Nat} (h : OwnR W base e sz v n cf) (hb : W.heap[b]? = some (.cells cc e' f)) (hne : e' ≠ e) : v.ownBlock ≠ some b := fun he => by
  obtain ⟨cur, hc⟩ := ownR_cells h he
  rw [hb] at hc
  exact hne (by injection hc with hc; injection hc)
end Go.Proofs.Ytfjbgcaogffiaaa
namespace Go.Proofs.Ytfjbgcaogffiaaa
open Go.RowKit D
set_option linter.unusedVariables false
def lvF (T : Task) (k j : Nat) : Span := if T.days.length - k ≤ j then lv T j else fwd T j
theorem lvF_zero {T : Task} {j : Nat} (hj : j ≤ T.days.length) : lvF T 0 j = fwd T j := by
  unfold lvF
  split
  · obtain rfl : j = T.days.length := by omega
    exact lv_last T
  · rfl
theorem lvF_all {T : Task} (j : Nat) : lvF T T.days.length j = lv T j := by unfold lvF; rw [if_pos (by omega)]
theorem lvF_fwd {T : Task} {k : Nat} (hk : k < T.days.length) : lvF T k (T.days.length - 1 - k) = fwd T (T.days.length - 1 - k) := by unfold lvF; rw [if_neg (by omega)]
theorem lvF_lv {T : Task} {k : Nat} (hk : k < T.days.length) : lvF T k (T.days.length - 1 - k + 1) = lv T (T.days.length - 1 - k + 1) := by unfold lvF; rw [if_pos (by omega)]
theorem lvF_succ {T : Task} {k j : Nat} (hk : k < T.days.length) (hj : j ≠ T.days.length - 1 - k) : lvF T (k + 1) j = lvF T k j := by
  unfold lvF
  by_cases h : T.days.length - k ≤ j
  · rw [if_pos h, if_pos (by omega)]
  · rw [if_neg h, if_neg (by omega)]
theorem lvF_at {T : Task} {k : Nat} (hk : k < T.days.length) : lvF T (k + 1) (T.days.length - 1 - k) = lv T (T.days.length - 1 - k) := by unfold lvF; rw [if_pos (by omega)]
structure KBack (w : World) (T : Task) (f : Sl) (B n0 n1 d bb g cap : Nat) (v6 : Value) (k : Nat) (W : World) : Prop where
  b : Below n0 w W
  x : W.heap[n0]? = some (.cells #[.pointer (some ⟨B, 0, none⟩)] 88 (0, 0))
  all : W.heap[n0 + 1]? = some (.cells #[.slice (some ⟨g, 0, none⟩) (T.days.length + 1) cap] 32 (0, 0))
  own : OwnR W (n1 + 7) 28 2 (.slice (some ⟨g, 0, none⟩) (T.days.length + 1) cap) (T.days.length + 1) (spC (lvF T k))
  sbox : W.heap[n0 + 1 + 1]? = some (.cells #[v6] 33 (0, 0))
  struck : OwnR W (n1 + 7) 65 2 v6 (struckT T).length (strikeC (struckT T))
  dfr : W.heap[d]? = some (.deferred (some []))
  bk : BackSAt W bb f T.days.length (spC (spanD (forces T)))
section
variable {w : World} {T : Task} {f : Sl} {B n0 n1 d bb g cap k : Nat} {v6 : Value} {W W' : World}
theorem KBack.ext (h : KBack w T f B n0 n1 d bb g cap v6 k W) (hg : Ext2 W W') (hn : n0 ≤ W.heap.size) : KBack w T f B n0 n1 d bb g cap v6 k W' :=
  ⟨h.b.trans (Below.mono hg hn), hg.blk h.x, hg.blk h.all, h.own.below hg, hg.blk h.sbox, h.struck.below hg, hg.blk h.dfr, ⟨hg.blk h.bk.box, h.bk.row.below hg⟩⟩
theorem KBack.kept {C : Nat} {row : Option Nat} (hg : W.grownBy W' row) (hr : ∀ r, row = some r → C ≤ r ∧ ∃ o : Obj, W.heap[r]? = some o ∧ o.isCells = false) (hC : n0 ≤ C) (hd : d < C) (hw : n0 ≤ w.heap.size) (h : KBack w T f B n0 n1 d bb g cap v6 k W) : KBack w T f B n0 n1 d bb g cap v6 k W' :=
  ⟨kept_below hg hr h.b hw hC, kept_blk hg hr h.x, kept_blk hg hr h.all, kept_own hg hr h.own, kept_blk hg hr h.sbox, kept_own hg hr h.struck,
    (hg.block d (blk_lt h.dfr) (fun e => by have := (hr d e.symm).1; omega)).trans h.dfr, ⟨kept_blk hg hr h.bk.box, ⟨h.bk.row.le, h.bk.row.max, fun i j hi hj => by
      obtain ⟨b, off, ha, hc⟩ := h.bk.row.cell i j hi hj
      exact ⟨b, off, ha, cell_kept hc hg (fun r e => (hr r e).2)⟩⟩⟩⟩
/-- *a = lv. -/
theorem KBack.put {lo hi : Int} (h : KBack w T f B n0 n1 d bb g cap v6 k W) (hk : k < T.days.length) (hn : n0 + 1 + 1 + 1 < n1) (hfw : RowS w f 2 T.days.length (spC (spanD (forces T)))) (hw2 : w.heap.size ≤ n0) (hgd : g ≠ d) (hgb : g ≠ bb)
    (hlo : lo = (lv T (T.days.length - 1 - k)).lo) (hhi : hi = (lv T (T.days.length - 1 - k)).hi) :
    KBack w T f B n0 n1 d bb g cap v6 (k + 1) ((W.setCell ⟨g, (T.days.length - 1 - k) * 2, none⟩ (.int .i64 lo)).setCell ⟨g, (T.days.length - 1 - k) * 2 + 1, none⟩ (.int .i64 hi)) := by
  have hb := own_block h.own g rfl
  have h1 := h.own.set (i := T.days.length - 1 - k) (j := 0) (by omega) (by omega) (.int .i64 lo)
  have h2 := h1.set (i := T.days.length - 1 - k) (j := 1) (by omega) (by omega) (.int .i64 hi)
  have hB : Below n0 w ((W.setCell ⟨g, (T.days.length - 1 - k) * 2, none⟩ (.int .i64 lo)).setCell ⟨g, (T.days.length - 1 - k) * 2 + 1, none⟩ (.int .i64 hi)) := below_set (below_set h.b (by omega)) (by omega)
  have hne : v6.ownBlock ≠ some g := by
    obtain ⟨cur, hc⟩ := ownR_cells h.own (k := g) rfl
    exact own_type_ne h.struck hc (by decide)
  refine ⟨hB, blk_set_ne (blk_set_ne h.x (by omega)) (by omega), blk_set_ne (blk_set_ne h.all (by omega)) (by omega), ?_, blk_set_ne (blk_set_ne h.sbox (by omega)) (by omega), ?_, blk_set_ne (blk_set_ne h.dfr hgd) hgd, ⟨blk_set_ne (blk_set_ne h.bk.box hgb) hgb, ?_⟩⟩
  · refine OwnR.congr h2 fun i j hi hj => ?_
    have hj' : j < 2 := hj
    by_cases hi' : i = T.days.length - 1 - k
    · subst hi'
      rcases (by omega : j = 0 ∨ j = 1) with rfl | rfl
      · simp [spC, lvF_at hk, hlo]
      · simp [spC, lvF_at hk, hhi]
    · have e1 : ¬ (i = T.days.length - 1 - k ∧ j = 1) := fun x => hi' x.1
      have e0 : ¬ (i = T.days.length - 1 - k ∧ j = 0) := fun x => hi' x.1
      rw [if_neg e1, if_neg e0]
      rcases (by omega : j = 0 ∨ j = 1) with rfl | rfl <;> simp only [spC, lvF_succ hk hi']
  · exact (h.struck.kept (grown_set (grown_refl W (some g))) (.inr hne)).kept (grown_set (grown_refl _ (some g))) (.inr hne)
  · have hx : Below w.heap.size w ((W.setCell ⟨g, (T.days.length - 1 - k) * 2, none⟩ (.int .i64 lo)).setCell ⟨g, (T.days.length - 1 - k) * 2 + 1, none⟩ (.int .i64 hi)) := hB.mono hw2
    exact hfw.below hx
end
/-- Where the searches of known turn. -/
theorem turn_lo {T : Task} (hk : TaskOk T) {i m n : Nat} (hi : i < T.days.length) (hn : (n : Int) = (fwd T i).hi - (fwd T i).lo + 1)
    (h : Turns (fun k => decide ((lv T (i + 1)).lo ≤ most T.rule (spanD (forces T) i) ((fwd T i).lo + (k : Int)))) n m) : (fwd T i).lo + (m : Int) = (lv T i).lo := by
  have hb := lv_backOk hk hi
  have hs := (stepOk_at hk hi).g
  have h1 := hb.lo; have h2 := hb.hi; have h3 := hb.sp.2
  have : m = ((lv T i).lo - (fwd T i).lo).toNat := turns_eq h (by omega) (fun j hj => decide_eq_false (by have := hb.lo2 ((fwd T i).lo + (j : Int)) (by omega) (by omega); omega))
    (fun j hj hj2 => decide_eq_true (by have := most_mono hs (n := (lv T i).lo) (m := (fwd T i).lo + (j : Int)) (by omega); have := hb.lo1; omega))
  omega
theorem turn_hi {T : Task} (hk : TaskOk T) {i m n : Nat} (hi : i < T.days.length) (hn : (n : Int) = (fwd T i).hi - (fwd T i).lo + 1)
    (h : Turns (fun k => decide ((lv T (i + 1)).hi < least T.rule (spanD (forces T) i) ((fwd T i).lo + (k : Int)))) n m) : (fwd T i).lo + (m : Int) - 1 = (lv T i).hi := by
  have hb := lv_backOk hk hi
  have hs := (stepOk_at hk hi).g
  have h1 := hb.lo; have h2 := hb.hi; have h3 := hb.sp.2
  have : m = ((lv T i).hi - (fwd T i).lo + 1).toNat := turns_eq h (by omega) (fun j hj => decide_eq_false (by have := least_mono hs (n := (fwd T i).lo + (j : Int)) (m := (lv T i).hi) (by omega); have := hb.hi1; omega))
    (fun j hj hj2 => decide_eq_true (by have := hb.hi2 ((fwd T i).lo + (j : Int)) (by omega) (by omega); omega))
  omega
end Go.Proofs.Ytfjbgcaogffiaaa
