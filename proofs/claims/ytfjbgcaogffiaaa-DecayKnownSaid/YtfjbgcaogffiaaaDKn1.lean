/-
  decay.known: what can be known of all mornings, and the tests that are struck.
-/
import Derived.Test.YtfjbgcaogffiaaaDKnA
import Derived.Deep.Light
namespace Go.Proofs.Ytfjbgcaogffiaaa
open Go.RowKit D
set_option linter.unusedVariables false
set_option linter.unusedSimpArgs false
attribute [local go_sem high] run_minI run_maxI
attribute [local go_sem] upon2 cls_cell cls_frozen forall_const exists_eq_left'
attribute [local go_sem] FirstUpon Oper.semAt_some atBlk_cell
theorem wp_calm {P : Program} {c : Code} {K : Act → World → Prop} {Q : Exit → Act → World → Prop} {a : Act} {w : World} (h : c.wp P (Exit.then K (fun _ _ _ => False)) a w) : c.wp P (Exit.then K Q) a w :=
  Code.wp_mono (fun e a w h => by cases e <;> first | exact h | exact h.elim) h
theorem own_put {W : World} {base d : Nat} {o : Obj} {e : TypeId} {sz n : Nat} {v : Value} {cf : Nat → Nat → Value} (h : OwnR W base e sz v n cf) (hd : v.ownBlock ≠ some d) : OwnR (W.putObj d o) base e sz v n cf :=
  h.kept (grownBy_putObj' W d o) (.inr hd)
theorem wp_aname {P : Program} {c : Code} {Q : Exit → Act → World → Prop} {a : Act} {w : World} (h : ∀ a0, a0 = a → c.wp P Q a0 w) : c.wp P Q a w := h a rfl
theorem wpIn_aname {F : Fence} {n : Nat} {P : Program} {c : Code} {Q : Exit → Act → World → Prop} {a : Act} {w : World} (h : ∀ a0, a0 = a → c.wpIn F n P Q a0 w) : c.wpIn F n P Q a w := h a rfl
set_option maxRecDepth 100000 in
set_option maxHeartbeats 20000000 in
theorem known_any {T : Task} {s : TSl} {f : Sl} {B : Nat} {w : World} (hk : TaskOk T) (hB : w.heap[B]? = some (reelO T s f T.days.length)) (hf : RowS w f 2 T.days.length (spC (spanD (forces T)))) (ht : TestsS w s.t T.tests) :
    Calls Try.prog 51 #[.pointer (some ⟨B, 0, none⟩)] w (KnownOut T w) := by
  have hnt := hk.nt
  have hnd := hk.nd
  have hBl := blk_lt hB
  have HO : Hid (∀ W, Below w.heap.size w W → Calls Try.prog 77 #[.slice s.t.a T.tests.length s.t.cap, .func (.func 78) #[] #[]] W fun e w' => (∃ v, e = .returned v ∧ OwnR w' W.heap.size 3 1 v T.tests.length (natC (orderT T))) ∧ Below W.heap.size W w') := Lib.hid fun W hW => ordered_any (ht.below hW) hnt
  have HK := Lib.hid hk; have HF := Lib.hid hf; have HT := Lib.hid ht; have HB := Lib.hid hB
  have hc := hB
  unfold reelO at hc
  have e0 : ¬ B = w.heap.size := by omega
  have e1 : ¬ B = w.heap.size + 1 := by omega
  have e2 : ¬ B = w.heap.size + 1 + 1 := by omega
  have e3 : B < w.heap.size + 1 := by omega
  have e4 : B < w.heap.size + 1 + 1 := by omega
  have e5 : B < w.heap.size + 1 + 1 + 1 := by omega
  clear hk hf ht hB
  have qrc := cell_blk hc
  have qrf := frz_blk hc
  refine calls_of_wp_marks Try.func51 rfl ?_
  simp only [Try.ntmps51, List.size_toArray, List.length_cons, List.length_nil, Nat.reduceAdd, Nat.reduceSub, Array.replicate_succ, Array.replicate_zero, List.push_toArray, List.append_toArray, List.nil_append, List.cons_append]
  go_wp2_with (fail)
  (with_reducible refine (HO.out _ ?_).mono ?_)
  · repeat' (first | exact Below.refl _ _ | assumption | refine below_drewN ?_ _ | refine Below.drew ?_ | refine Below.alloc ?_ (by first | assumption | omega | (simp <;> omega)) _ | refine Below.setCell ?_ (by first | assumption | omega | (simp <;> omega)) _ | refine Ext2.on (by assumption) ?_)
  rintro e w1 ⟨⟨v, rfl, hO⟩, hb1⟩
  have b0 : w1.heap[w.heap.size]? = some (.cells #[.pointer (some ⟨B, 0, none⟩)] 88 (0, 0)) := below_blk hb1 (by repeat' (first | (with_reducible assumption) | (with_reducible refine blk_set_ne ?_ ?_) | (with_reducible exact blk_new _ _) | (with_reducible refine blk_new' _ _ (by first | (with_reducible rfl) | (simp; done) | (simp <;> omega))) | (with_reducible refine blk_alloc ?_ _) | (with_reducible refine blk_drew ?_) | (with_reducible refine blk_drewN ?_ _) | (with_reducible refine Ext2.blk (by assumption) ?_) | omega | (simp <;> omega) | exact blk_set (by assumption) _ _)) (by first | (simp; done) | (simp; omega))
  have b1 : w1.heap[w.heap.size + 1]? = some (.cells #[.slice none 0 0] 32 (0, 0)) := below_blk hb1 (by repeat' (first | (with_reducible assumption) | (with_reducible refine blk_set_ne ?_ ?_) | (with_reducible exact blk_new _ _) | (with_reducible refine blk_new' _ _ (by first | (with_reducible rfl) | (simp; done) | (simp <;> omega))) | (with_reducible refine blk_alloc ?_ _) | (with_reducible refine blk_drew ?_) | (with_reducible refine blk_drewN ?_ _) | (with_reducible refine Ext2.blk (by assumption) ?_) | omega | (simp <;> omega) | exact blk_set (by assumption) _ _)) (by first | (simp; done) | (simp; omega))
  have b2 : w1.heap[w.heap.size + 1 + 1]? = some (.cells #[.slice none 0 0] 33 (0, 0)) := below_blk hb1 (by repeat' (first | (with_reducible assumption) | (with_reducible refine blk_set_ne ?_ ?_) | (with_reducible exact blk_new _ _) | (with_reducible refine blk_new' _ _ (by first | (with_reducible rfl) | (simp; done) | (simp <;> omega))) | (with_reducible refine blk_alloc ?_ _) | (with_reducible refine blk_drew ?_) | (with_reducible refine blk_drewN ?_ _) | (with_reducible refine Ext2.blk (by assumption) ?_) | omega | (simp <;> omega) | exact blk_set (by assumption) _ _)) (by simp)
  have b3 : w1.heap[w.heap.size + 1 + 1 + 1]? = some (Obj.cells #[.slice s.h.a T.rule.heat.length s.h.cap, .slice s.w.a T.rule.wet.length s.w.cap, .int .i64 T.rule.own, .int .i64 T.rule.feed, .int .i64 T.rule.g0, .int .i64 T.rule.g1, .int .i64 T.rule.g2, .int .i64 T.rule.lost, .int .i64 T.first, .slice s.d.a T.days.length s.d.cap, .int .i64 T.start.lo, .int .i64 T.start.hi, .slice s.t.a T.tests.length s.t.cap] 31) := below_blk hb1 (by repeat' (first | (with_reducible assumption) | (with_reducible refine blk_set_ne ?_ ?_) | (with_reducible exact blk_new _ _) | (with_reducible refine blk_new' _ _ (by first | (with_reducible rfl) | (simp; done) | (simp <;> omega))) | (with_reducible refine blk_alloc ?_ _) | (with_reducible refine blk_drew ?_) | (with_reducible refine blk_drewN ?_ _) | (with_reducible refine Ext2.blk (by assumption) ?_) | omega | (simp <;> omega) | exact blk_set (by assumption) _ _)) (by simp)
  have hB1 : Below w.heap.size w w1 := Below.trans (by repeat' (first | exact Below.refl _ _ | assumption | refine below_drewN ?_ _ | refine Below.drew ?_ | refine Below.alloc ?_ (by first | assumption | omega | (simp <;> omega)) _ | refine Below.setCell ?_ (by first | assumption | omega | (simp <;> omega)) _ | refine Ext2.on (by assumption) ?_)) (hb1.mono (by simp; omega))
  obtain ⟨⟨oa, oc⟩, rfl, -⟩ := hO.sl
  dsimp only at hO
  have hz := blk_lt b3
  have hrB : w1.heap[B]? = some (reelO T s f T.days.length) := below_blk hB1 HB.out hBl
  unfold reelO at hrB
  simp only [World.size_alloc] at hO
  clear hb1 qrc qrf e0 e1 e2 e3 e4 e5
  have e0 : w.heap.size < w1.heap.size := by omega
  have e1 : w.heap.size + 1 + 1 + 1 < w1.heap.size + 1 := by omega
  have e6 : w.heap.size < w1.heap.size + 1 := by omega
  have e7 : w.heap.size < w1.heap.size + 1 + 1 := by omega
  have e2 : w.heap.size + 1 + 1 + 1 < w1.heap.size + 1 + 1 := by omega
  have f0 : ¬ w.heap.size = w1.heap.size := by omega
  have f1 : ¬ w.heap.size = w1.heap.size + 1 := by omega
  have f2 : ¬ w.heap.size = w1.heap.size + 1 + 1 := by omega
  have f3 : ¬ w.heap.size + 1 + 1 + 1 = w1.heap.size := by omega
  have f4 : ¬ w.heap.size + 1 + 1 + 1 = w1.heap.size + 1 := by omega
  have f5 : ¬ w.heap.size + 1 + 1 + 1 = w1.heap.size + 1 + 1 := by omega
  have q0c := cell_blk b0
  have q0f := frz_blk b0
  have q3c := cell_blk b3
  have q3f := frz_blk b3
  have HO1 := Lib.hid hO; have H1 := Lib.hid b1; have H2 := Lib.hid b2; have H0 := Lib.hid b0; have H3 := Lib.hid b3
  clear hO b1 b2
  go_wp2_with (fail)
  refine (mornings_any _ _ _ _ _).mono ?_
  rintro e w2 ⟨rfl, hw2⟩
  obtain ⟨wa, hwa⟩ : ∃ wa, wa = ((w1.alloc (.cells #[.slice oa T.tests.length oc] 44 (0, 0))).alloc (.cells #[.slice none 0 0] 44 (0, 0))).alloc (Obj.cells #[.int .i64 T.start.lo, .int .i64 T.start.hi] 28) := ⟨_, rfl⟩
  rw [← hwa] at hw2 ⊢
  have hza : wa.heap.size = w1.heap.size + 1 + 1 + 1 := by rw [hwa]; simp
  have hba : Below w1.heap.size w1 wa := by rw [hwa]; repeat' (first | exact Below.refl _ _ | assumption | refine below_drewN ?_ _ | refine Below.drew ?_ | refine Below.alloc ?_ (by first | assumption | omega | (simp <;> omega)) _ | refine Below.setCell ?_ (by first | assumption | omega | (simp <;> omega)) _ | refine Ext2.on (by assumption) ?_)
  have hm := mornW_blk wa (some ⟨B, 0, none⟩) (some ⟨w1.heap.size + 1 + 1, 0, none⟩) 0 (T.days.length : Int)
  have hat : MornAt w2 (w1.heap.size + 1 + 1 + 1) B (w1.heap.size + 1 + 1) 0 (T.days.length : Int) := by rw [hw2]; have := @mornAt_of wa B (w1.heap.size + 1 + 1) 0 (T.days.length : Int); rwa [hza] at this
  rw [← hw2] at hm
  obtain ⟨hbm, hsm, -⟩ := hm
  have a5 : wa.heap[w1.heap.size]? = some (.cells #[.slice oa T.tests.length oc] 44 (0, 0)) := by rw [hwa]; repeat' (first | (with_reducible assumption) | (with_reducible refine blk_set_ne ?_ ?_) | (with_reducible exact blk_new _ _) | (with_reducible refine blk_new' _ _ (by first | (with_reducible rfl) | (simp; done) | (simp <;> omega))) | (with_reducible refine blk_alloc ?_ _) | (with_reducible refine blk_drew ?_) | (with_reducible refine blk_drewN ?_ _) | (with_reducible refine Ext2.blk (by assumption) ?_) | omega | (simp <;> omega) | exact blk_set (by assumption) _ _)
  have a6 : wa.heap[w1.heap.size + 1]? = some (.cells #[.slice none 0 0] 44 (0, 0)) := by rw [hwa]; repeat' (first | (with_reducible assumption) | (with_reducible refine blk_set_ne ?_ ?_) | (with_reducible exact blk_new _ _) | (with_reducible refine blk_new' _ _ (by first | (with_reducible rfl) | (simp; done) | (simp <;> omega))) | (with_reducible refine blk_alloc ?_ _) | (with_reducible refine blk_drew ?_) | (with_reducible refine blk_drewN ?_ _) | (with_reducible refine Ext2.blk (by assumption) ?_) | omega | (simp <;> omega) | exact blk_set (by assumption) _ _)
  have a7 : wa.heap[w1.heap.size + 1 + 1]? = some (Obj.cells #[.int .i64 T.start.lo, .int .i64 T.start.hi] 28) := by rw [hwa]; repeat' (first | (with_reducible assumption) | (with_reducible refine blk_set_ne ?_ ?_) | (with_reducible exact blk_new _ _) | (with_reducible refine blk_new' _ _ (by first | (with_reducible rfl) | (simp; done) | (simp <;> omega))) | (with_reducible refine blk_alloc ?_ _) | (with_reducible refine blk_drew ?_) | (with_reducible refine blk_drewN ?_ _) | (with_reducible refine Ext2.blk (by assumption) ?_) | omega | (simp <;> omega) | exact blk_set (by assumption) _ _)
  have hb2 : Ext2 w1 w2 := hba.trans (hbm.mono (by omega))
  have hB2 : Below w.heap.size w w2 := hB1.trans (Below.mono hb2 (by omega))
  obtain ⟨go, hgo⟩ : ∃ go, 0 < T.tests.length → oa = some ⟨go, 0, none⟩ ∧ RowC w1 go 0 1 T.tests.length (natC (orderT T)) ∧ T.tests.length ≤ oc ∧ oc ≤ 9223372036854775807 ∧ w.heap.size + 1 + 1 + 1 < go := by
    rcases HO1.out.forms with ⟨_, h⟩ | ⟨g, cap, he, h1, h2, h3, h4, -, -⟩
    · exact ⟨0, fun h0 => by omega⟩
    · obtain ⟨rfl, rfl⟩ : oa = some ⟨g, 0, none⟩ ∧ oc = cap := by simpa using he
      exact ⟨g, fun _ => ⟨rfl, h4, h2, h3, by omega⟩⟩
  have hF : KFix w T s B w.heap.size w1.heap.size go w2 := ⟨hB2, hb2.blk H0.out, hb2.blk H3.out, fun h0 => (hgo h0).2.1.below hb2, hz, fun h0 => ⟨(hgo h0).2.2.2.2, (hgo h0).2.1.1⟩, hat⟩
  have hV : KVar T w.heap.size w1.heap.size go 0 w2 (pos T 0) (dawn T 0) 0 := ⟨below_blk hbm a7 (by omega), ⟨oa, oc, below_blk hbm a5 (by omega), fun h0 => ⟨(hgo h0).1, (hgo h0).2.2.1, (hgo h0).2.2.2.1⟩⟩, ⟨_, below_blk hbm a6 (by omega), own_nil _ _ _ _ _, fun _ => rfl, by simp [Value.ownBlock]⟩, ⟨_, hb2.blk H2.out, own_nil _ _ _ _ _⟩, ⟨_, hb2.blk H1.out, own_nil _ _ _ _ _⟩⟩
  have hsz2 : w2.heap.size = w1.heap.size + 7 := by omega
  unfold mornF
  simp only [hza]
  clear hw2 hwa a5 a6 a7 hbm hsm hba hat hgo b0 b3 q0c q0f q3c q3f e0 e1 e2 e6 e7 f0 f1 f2 f3 f4 f5 hrB hc HO1 H1 H2 H0 H3
  go_wp2_with (fail)
  obtain ⟨n0, hn0⟩ : ∃ n0, n0 = w.heap.size := ⟨_, rfl⟩
  obtain ⟨n1, hn1⟩ : ∃ n1, n1 = w1.heap.size := ⟨_, rfl⟩
  rw [← hn0, ← hn1] at hF hV ⊢
  rw [← hn1] at hsz2
  have hle : n0 ≤ w.heap.size := by omega
  have HN0 := Lib.hid hn0; have HN1 := Lib.hid hn1
  have hnn := hF.n
  clear hn0 hn1 hz
  refine wp_aname ?_
  intro a0 ha0
  have hfw : ∀ k, k < T.days.length - 0 + 1 → k ≤ T.days.length := fun k hk => by omega
  refine rf_out (gf := 105) (lb := mornLb (n1 + 1 + 1 + 1)) (by rw [ha0]; rfl) (enters_of Try.func105 (by kernel_rfl) rfl) (mornIter (T := T) (s := s) (f := f) (nb := n1 + 1 + 1 + 1) (B := B) (Bn := n1 + 1 + 1) (i := 0) (j := T.days.length) HK.out (Nat.zero_le _) (Nat.le_refl _) (b := fwd T) (fun k h => (fwd_sp HK.out (by omega)).1)) (fun _ => rfl)
    (fun k W => KFix w T s B n0 n1 go W ∧ KVar T n0 n1 go 0 W (pos T k) (dawn T k) k)
    (fun k W => KFix w T s B n0 n1 go W ∧ KVar T n0 n1 go 0 W (pos T (k + 1)) (dusk T k) (k + 1))
    (fun k a' W => ∃ b8, n1 + 7 ≤ b8 ∧ W.heap[b8]? = some (.cells #[.int .i64 (k : Int)] 3 (0, 0)) ∧ KFix w T s B n0 n1 go W ∧ KVar T n0 n1 go b8 W (pos T k) (dawn T k) k ∧ a' = { tmps := (a0.tmps.setIfInBounds 38 (.int .i64 (k : Int))).setIfInBounds 8 (.pointer (some ⟨b8, 0, none⟩)), defers := [] })
    (fun _ _ _ => False) ⟨?ri, ?rm, ?rj, fun _ _ _ _ _ h _ _ => h⟩ ?p0 ⟨hF, hV⟩ ?mp ?step ?assign ?body ?done (fun _ _ _ _ _ _ h _ => h.elim)
  case ri => exact fun k W W' row hs hg hr => ⟨hs.1.kept hg hr (by omega) (by omega), hs.2.kept hg hr⟩
  case rm => exact fun k W W' row hs hg hr => ⟨hs.1.kept hg hr (by omega) (by omega), hs.2.kept hg hr⟩
  case rj =>
    intro a' k W W' row hs hg hr
    obtain ⟨b8, h1, h2, h3, h4, h5⟩ := hs
    exact ⟨b8, h1, kept_blk hg hr h2, h3.kept hg hr (by omega) (by omega), h4.kept hg hr, h5⟩
  case p0 => exact fun W hW => hF.m.ext hW
  case mp =>
    intro k W hk hm
    exact ⟨hm.1.m, below_blk (HN0.out ▸ hm.1.b) HB.out hBl, HF.out.below (HN0.out ▸ hm.1.b), hm.2.now⟩
  case step =>
    rintro k W1 W2 hk ⟨hm1, hm2⟩ ⟨W', hx, rfl⟩
    have h0 : n0 ≤ W1.heap.size := by have := hm1.b.size; omega
    have hnn := hm1.n
    have e1 := hm1.ext hx h0
    have e2 := hm2.ext hx
    refine ⟨(keeps_below hx).trans ((KeepsOthers.setCell _ _ _).trans (KeepsOthers.setCell _ _ _)), (e1.set (by omega) (by omega)).set (by omega) (by omega), e2.setNow hnn ?_ ?_ rfl rfl⟩
    · rw [Nat.zero_add]; rfl
    · rw [Nat.zero_add]; rfl
  case assign =>
    rintro l k W hk ⟨hF1, hV1⟩
    rw [Nat.zero_add]
    subst ha0
    gi_wp2
    have h0 : n0 ≤ W.heap.size := by have := hF1.b.size; omega
    have h7 : n1 + 7 ≤ W.heap.size := by have := blk_lt hF1.m.j; omega
    exact ⟨KeepsOthers.alloc _ _, W.heap.size, h7, blk_new _ _, hF1.ext (below_alloc' _ _) h0, (hV1.fresh (.inl (Nat.le_refl _))).ext (below_alloc' _ _), by simp only [List.setIfInBounds_toArray, List.set_cons_succ, List.set_cons_zero]⟩
  case done =>
    rintro d W hd hfin hD
    rcases hfin with ⟨h, _⟩ | ⟨k, hk, hFx, hVx⟩
    · omega
    obtain rfl : k = T.days.length := by omega
    clear hk
    subst ha0
    obtain ⟨-, -, -, ⟨v6, r3, hO6⟩, ⟨v8, r2, hO8⟩⟩ := hVx
    have rB := below_blk (HN0.out ▸ hFx.b) HB.out hBl
    have r1 := hFx.x
    have HD := Lib.hid hD
    unfold reelO at rB
    clear hF hV hD
    have q1c := cell_blk r1
    have q1f := frz_blk r1
    have qrc := cell_blk rB
    have qrf := frz_blk rB
    go_wp2_with (fail)
    refine (backS_any _ _ _ _).mono ?_
    rintro e w3 ⟨rfl, hw3⟩
    obtain ⟨⟨a8, cp8⟩, hsl, hrow8⟩ := hO8.sl
    subst hsl
    obtain ⟨⟨a6, cp6⟩, rfl, -⟩ := hO6.sl
    obtain ⟨ns, hns⟩ : ∃ ns, ns = (dusk T T.days.length).struck.length := ⟨_, rfl⟩
    rw [← hns] at r3 hO6
    dsimp only at r3 hO6
    have HNS := Lib.hid hns
    clear hns
    dsimp only at hO8 r2
    obtain ⟨g, cap8, hs8, hgb, hcap1, hcap2⟩ : ∃ g cap, (Value.slice a8 (T.days.length + 1) cp8) = .slice (some ⟨g, 0, none⟩) (T.days.length + 1) cap ∧ n1 + 7 ≤ g ∧ T.days.length + 1 ≤ cap ∧ cap ≤ 9223372036854775807 := by
      rcases hO8.forms with ⟨h0, _⟩ | ⟨g, cap, he, h1, h2, h3, -⟩
      · omega
      · exact ⟨g, cap, he, h1, h2, h3⟩
    obtain ⟨rfl, rfl⟩ : a8 = some ⟨g, 0, none⟩ ∧ cp8 = cap8 := by simpa using hs8
    have hgW : g < W.heap.size := own_lt hO8 rfl
    have hgd : g ≠ d := fun e => by
      obtain ⟨cur, hc⟩ := ownR_cells hO8 (k := g) rfl
      rw [e, HD.out] at hc; cases hc
    have hdW : d < W.heap.size := blk_lt HD.out
    have hnW : n0 ≤ W.heap.size := by have := hFx.b.size; omega
    have h3e : Ext2 W w3 := by rw [hw3]; exact below_alloc' _ _
    have h3s : w3.heap.size = W.heap.size + 1 := by rw [hw3, World.size_alloc]
    have h3b : w3.heap[W.heap.size]? = some (.cells #[.slice f.a T.days.length f.cap] 32 (0, 0)) := by rw [hw3]; exact blk_new _ _
    have hW0 : Ext2 w W := show Below w.heap.size w W from HN0.out ▸ hFx.b
    have hK0 : KBack w T f B n0 n1 d W.heap.size g cp8 (.slice a6 ns cp6) 0 w3 := ⟨hFx.b.trans (Below.mono h3e hnW), h3e.blk hFx.x, h3e.blk r2, (hO8.below h3e).congr (fun i j hi hj => by
        have hj' : j < 2 := hj
        rcases (by omega : j = 0 ∨ j = 1) with rfl | rfl <;> simp only [spC, lvF_zero (T := T) (j := i) (by omega)]), h3e.blk r3, (by have h := hO6.below h3e; rw [HNS.out] at h ⊢; exact h), h3e.blk HD.out, ⟨h3b, HF.out.below (hW0.trans (Below.mono h3e hW0.size))⟩⟩
    clear hw3 hs8 hrow8 hO8 hO6 r1 r2 r3 rB q1c q1f qrc qrf h3b
    go_wp2_with (fail)
    refine wp_aname ?_
    intro a1 ha1
    refine rf_out (gf := 107) (lb := #[.pointer (some ⟨W.heap.size, 0, none⟩)]) (by rw [ha1]; rfl) (enters_of Try.func107 (by kernel_rfl) rfl) (backSIter (bb := W.heap.size) (n := T.days.length) (s := f) (fs := spanD (forces T)) (by omega)) (fun _ => rfl)
      (fun k W' => KBack w T f B n0 n1 d W.heap.size g cp8 (.slice a6 ns cp6) k W')
      (fun k W' => KBack w T f B n0 n1 d W.heap.size g cp8 (.slice a6 ns cp6) (k + 1) W')
      (fun k a' W' => ∃ b18, w3.heap.size ≤ b18 ∧ W'.heap[b18]? = some (Obj.cells #[.int .i64 (spanD (forces T) (T.days.length - 1 - k)).lo, .int .i64 (spanD (forces T) (T.days.length - 1 - k)).hi] 28) ∧ KBack w T f B n0 n1 d W.heap.size g cp8 (.slice a6 ns cp6) k W' ∧ a' = { tmps := (((a1.tmps.setIfInBounds 130 (.int .i64 ((T.days.length - 1 - k : Nat) : Int))).setIfInBounds 131 (.agg #[.int .i64 (spanD (forces T) (T.days.length - 1 - k)).lo, .int .i64 (spanD (forces T) (T.days.length - 1 - k)).hi])).setIfInBounds 17 (.int .i64 ((T.days.length - 1 - k : Nat) : Int))).setIfInBounds 18 (.pointer (some ⟨b18, 0, none⟩)), defers := [] })
      (fun _ _ _ => False) ⟨?si, ?sm, ?sj, fun _ _ _ _ _ h _ _ => h⟩ ?sp0 hK0 ?smp ?sstep ?sassign ?sbody ?sdone (fun _ _ _ _ _ _ h _ => h.elim)
    case si => exact fun k W1 W2 row hs hg hr => hs.kept hg hr (by omega) (by omega) (by omega)
    case sm => exact fun k W1 W2 row hs hg hr => hs.kept hg hr (by omega) (by omega) (by omega)
    case sj =>
      intro a' k W1 W2 row hs hg hr
      obtain ⟨b8, h1, h2, h3, h4⟩ := hs
      exact ⟨b8, h1, kept_blk hg hr h2, h3.kept hg hr (by omega) (by omega) (by omega), h4⟩
    case sp0 => exact fun W1 hW1 => ⟨Ext2.blk hW1 hK0.bk.box, hK0.bk.row.below hW1⟩
    case smp => exact fun k W1 hk hm => hm.bk
    case sstep =>
      rintro k W1 W2 hk hm rfl
      exact ⟨KeepsOthers.refl _, hm⟩
    case sassign =>
      rintro l k W1 hk hK
      subst ha1
      go_light
      gi_wp2
      have hz1 := blk_lt hK.bk.box
      exact ⟨KeepsOthers.alloc _ _, W1.heap.size, by omega, blk_new _ _, hK.ext (below_alloc' _ _) (by omega), by simp only [List.setIfInBounds_toArray, List.set_cons_succ, List.set_cons_zero]⟩
    case sbody =>
      rintro l k a' W1 hl ⟨r0, hr0⟩ hk ⟨b18, hb18, h18, hK, rfl⟩
      subst ha1
      go_light
      simp only [List.setIfInBounds_toArray, List.set_cons_succ, List.set_cons_zero]
      obtain ⟨s', he, hs'⟩ := hK.own.sl
      obtain ⟨sa, sc⟩ := s'
      obtain ⟨rfl, rfl⟩ : some ⟨g, 0, none⟩ = sa ∧ cp8 = sc := by simpa using he
      obtain ⟨gg, off, hga, hrc⟩ := hs'.row (by omega) (by omega)
      obtain ⟨rfl, rfl⟩ : g = gg ∧ 0 = off := by simpa using hga
      obtain ⟨i, hi⟩ : ∃ i, i = T.days.length - 1 - k := ⟨_, rfl⟩
      have hid : i < T.days.length := by omega
      obtain ⟨c0, c1⟩ := hrc.two (i := i) (by omega)
      obtain ⟨c2, c3⟩ := hrc.two (i := i + 1) (by omega)
      have hle1 := hrc.1
      have hf1 : lvF T k i = fwd T i := by rw [hi]; exact lvF_fwd hk
      have hf2 : lvF T k (i + 1) = lv T (i + 1) := by rw [hi]; exact lvF_lv hk
      simp only [spC, hf1, hf2, Nat.zero_add] at c0 c1 c2 c3
      have hsp := fwd_sp HK.out (i := i) (by omega)
      have hgr := (stepOk_at HK.out hid).g
      rw [← hi] at h18
      obtain ⟨st, hst⟩ : ∃ st, st = spanD (forces T) i := ⟨_, rfl⟩
      obtain ⟨av, hav⟩ : ∃ av, av = fwd T i := ⟨_, rfl⟩
      obtain ⟨bv, hbv⟩ : ∃ bv, bv = lv T (i + 1) := ⟨_, rfl⟩
      rw [← hav] at c0 c1 hsp
      rw [← hbv] at c2 c3
      rw [← hst] at h18 hgr
      obtain ⟨⟨⟨a1, a2⟩, a3, a4⟩, a5⟩ := hsp
      have HI := Lib.hid hi; have HST := Lib.hid hst; have HAV := Lib.hid hav; have HBV := Lib.hid hbv
      have r1 := hK.x; have r2 := hK.all
      have rB := below_blk (HN0.out ▸ hK.b) HB.out hBl
      have hz1 := blk_lt hK.bk.box
      have HKB := Lib.hid hK
      rw [← hi]
      have z0 : (0 : Int) ≤ (i : Int) := by omega
      have z1 : (i : Int) < (T.days.length : Int) + 1 := by omega
      have z2 : IntKind.i64.wrap ((i : Int) + 1) = (i : Int) + 1 := IntWalk.i64_in _ (by omega)
      have z3 : (0 : Int) ≤ (i : Int) + 1 := by omega
      have z4 : (i : Int) + 1 < (T.days.length : Int) + 1 := by omega
      have z5 : ((i : Int) + 1).toNat = i + 1 := by omega
      clear hi hst hav hbv hf1 hf2 he hga hs' hrc hK
      have q18c := cell_blk h18
      have q18f := frz_blk h18
      have q2c := cell_blk r2
      have q2f := frz_blk r2
      have q1c := cell_blk r1
      have q1f := frz_blk r1
      gi_wp2
      refine round_region_ev [] [0, 1, 2, 3, 4, 5, 6, 7] [(8, 19, some 10), (9, 20, some 11)] [] (by kernel_rfl) (by rintro ⟨a_, w_, h_⟩; exact h_) (by kernel_rfl) (by kernel_rfl) (by intro c a d v w h; cases d <;> exact h) ?_
      simp only [picks, List.drop_succ_cons, List.drop_zero]
      repeat (refine wpQ0_step (fun K hK => ?_); go_simp; (refine hK _ ?_; clear hK K))
      refine wpQ0_nil ?_
      repeat ((with_reducible refine wpQ2_step (fun K hK => ?_)); go_simp; first | ((with_reducible refine hK _ ?_); clear hK K) | (apply Exists.intro; refine ⟨fun x => ?_, hK _ ?_⟩; (fail); clear hK K))
      refine wpQ2_nil ?_
      refine Events.fill2 (fun b => .pointer (some ⟨b, 0, none⟩)) (.cells #[.pointer none] 126 (0, 0)) (.cells #[.pointer (some ⟨g, i * 2, none⟩)] 126 (0, 0)) (fun b => .pointer (some ⟨b, 0, none⟩)) (Obj.cells #[.int .i64 0, .int .i64 0] 28) (Obj.cells #[.int .i64 bv.lo, .int .i64 bv.hi] 28) ⟨_, rfl, rfl, rfl, fun W => by kernel_rfl⟩ ⟨_, rfl, rfl, rfl, fun b W hb => ?_⟩ ⟨_, rfl, rfl, rfl, fun W => by kernel_rfl⟩ ⟨_, rfl, rfl, rfl, fun b W hb => ?_⟩ (by omega) fun b19 b20 w4 hb19 hb20 hneb19 hg4 nb19 nb20 => ?_
      · have hbc := cell_blk hb; have hbf := frz_blk hb; go_simp; exact turn_one hb _
      · have hbc := cell_blk hb; have hbf := frz_blk hb; go_simp; exact turn_two hb _ _
      simp only [picks, List.drop_succ_cons, List.drop_zero]
      clear q18c q18f q2c q2f q1c q1f z0 z1 z2 z3 z4 z5
      have hE4 : Ext2 W1 w4 := hg4
      have p18 := hE4.blk h18; have p1 := hE4.blk r1
      have d0 := (Below.cell hE4 (cell_lt c0)).trans c0
      have d1 := (Below.cell hE4 (cell_lt c1)).trans c1
      clear c0 c1 c2 c3 r1 r2 h18
      obtain ⟨n, hn⟩ : ∃ n : Nat, av.hi - av.lo + 1 = (n : Int) := ⟨(av.hi - av.lo + 1).toNat, by omega⟩
      have z0 : IntKind.i64.wrap (av.hi - av.lo) = av.hi - av.lo := IntWalk.i64_in _ (by omega)
      have z1 : IntKind.i64.wrap (n : Int) = (n : Int) := IntWalk.i64_in _ (by omega)
      have hn1 : n ≤ 4000000000 := by omega
      have hn2 : (n : Int) = av.hi - av.lo + 1 := hn.symm
      have HN := Lib.hid hn2
      clear hn2
      have q19c := cell_blk nb19
      have q19f := frz_blk nb19
      go_wp2_with (fail)
      gi_wp2
      refine round_region_ev [] [0, 1, 2, 3, 4, 5, 6, 7, 8, 9, 10] [] [] (by kernel_rfl) (by rintro ⟨a_, w_, h_⟩; exact h_) (by kernel_rfl) (by kernel_rfl) (by intro c a d v w h; cases d <;> exact h) ?_
      simp only [picks, List.drop_succ_cons, List.drop_zero]
      repeat (refine wpQ0_step (fun K hK => ?_); go_simp; (refine hK _ ?_; clear hK K))
      refine wpQ0_nil ?_
      repeat ((with_reducible refine wpQ2_step (fun K hK => ?_)); go_simp; first | ((with_reducible refine hK _ ?_); clear hK K) | (apply Exists.intro; refine ⟨fun x => ?_, hK _ ?_⟩; (fail); clear hK K))
      refine wpQ2_nil ?_
      refine Events.none_ fun w5 hg5 => ?_
      simp only [picks, List.drop_succ_cons, List.drop_zero]
      have hE5 : Ext2 W1 w5 := hE4.trans (Below.mono hg5 hE4.size)
      have hKn : KnAt w5 T s f n0 B b18 b19 g (i * 2) b20 st bv av.lo := ⟨hg5.blk p1, hE5.blk rB, hg5.blk p18, hg5.blk nb19, hg5.blk nb20, (Below.cell hg5 (cell_lt d0)).trans d0⟩
      have HS2 : Hid (∀ Wc, Ext2 w5 Wc → Calls Try.prog 85 #[.int .i64 (n : Int), .func (.func 86) #[] #[.pointer (some ⟨n0, 0, none⟩), .pointer (some ⟨b18, 0, none⟩), .pointer (some ⟨b19, 0, none⟩), .pointer (some ⟨b20, 0, none⟩)]] Wc fun e w' => (∃ m : Nat, e = .returned (.int .i64 (m : Int)) ∧ Turns (fun k => decide (bv.lo ≤ most T.rule st (av.lo + (k : Int)))) n m) ∧ Below Wc.heap.size Wc w') :=
        Lib.hid fun Wc hWc => search_any hn1 (enters_of Try.func86 (by kernel_rfl) rfl) fun j Wd hj hWd => known2_any ((hKn.ext hWc).ext hWd) hgr (by omega) (by have := HN.out; omega)
      have HS3 : Hid (∀ Wc, Ext2 w5 Wc → Calls Try.prog 85 #[.int .i64 (n : Int), .func (.func 87) #[] #[.pointer (some ⟨n0, 0, none⟩), .pointer (some ⟨b18, 0, none⟩), .pointer (some ⟨b19, 0, none⟩), .pointer (some ⟨b20, 0, none⟩)]] Wc fun e w' => (∃ m : Nat, e = .returned (.int .i64 (m : Int)) ∧ Turns (fun k => decide (bv.hi < least T.rule st (av.lo + (k : Int)))) n m) ∧ Below Wc.heap.size Wc w') :=
        Lib.hid fun Wc hWc => search_any hn1 (enters_of Try.func87 (by kernel_rfl) rfl) fun j Wd hj hWd => known3_any ((hKn.ext hWc).ext hWd) hgr (by omega) (by have := HN.out; omega)
      have e19 := hg5.blk nb19
      have d2 := (Below.cell hg5 (cell_lt d0)).trans d0
      have d3 := (Below.cell hg5 (cell_lt d1)).trans d1
      have HE5 := Lib.hid hE5
      clear q19c q19f hKn p1 p18 rB nb19 nb20 d0 d1 hg5 hg4 hE4 hE5 z0 z1 hgr hn
      go_wp2_with (fail)
      gi_wp2
      (refine ⟨trivial, rfl, CallsIn.mono (CallsIn.inRound _ (callsIn_wide.2 (HS2.out _ (Below.refl _ _)))) ?_⟩)
      rintro e w6 ⟨⟨m1, rfl, ht1⟩, hg6⟩
      gi_wp2
      (refine ⟨trivial, rfl, CallsIn.mono (CallsIn.inRound _ (callsIn_wide.2 (HS3.out _ hg6))) ?_⟩)
      rintro e w7 ⟨⟨m2, rfl, ht2⟩, hg7⟩
      gi_wp2
      have hm1 := ht1.1
      have hm2 := ht2.1
      have hnn2 := HN.out
      have hE57 : Ext2 w5 w7 := Below.trans hg6 (Below.mono hg7 hg6.size)
      have e19 := hE57.blk e19
      have d2 := (Below.cell hE57 (cell_lt d2)).trans d2
      have d3 := (Below.cell hE57 (cell_lt d3)).trans d3
      have z0 : IntKind.i64.wrap (av.lo + (m1 : Int)) = av.lo + (m1 : Int) := IntWalk.i64_in _ (by omega)
      have z1 : IntKind.i64.wrap (av.lo + (m2 : Int)) = av.lo + (m2 : Int) := IntWalk.i64_in _ (by omega)
      have z2 : IntKind.i64.wrap (av.lo + (m2 : Int) - 1) = av.lo + (m2 : Int) - 1 := IntWalk.i64_in _ (by omega)
      have hE7 : Ext2 W1 w7 := HE5.out.trans (Below.mono hE57 HE5.out.size)
      have HE7 := Lib.hid hE7; have HT1 := Lib.hid ht1; have HT2 := Lib.hid ht2
      have hgf : g < w7.heap.size := cell_lt d2
      have hfz : ∀ o, w7.frozen? ⟨g, o, none⟩ = false := by
        obtain ⟨cur, hc⟩ := ownR_cells (HKB.out.own.below hE7) (k := g) rfl
        intro o; exact frz_blk hc o
      clear ht1 ht2 hE57 hE7 hnn2 HS2 HS3 hg6 hg7 HE5
      have q19c := cell_blk e19
      have q19f := frz_blk e19
      refine round_region_ev [] [0, 1, 2, 3, 4, 5, 6, 7, 8, 9, 10, 11, 12, 13, 14, 15] [] [16] (by kernel_rfl) (by rintro ⟨a_, w_, h_⟩; exact h_) (by kernel_rfl) (by kernel_rfl) (by intro c a d v w h; cases d <;> exact h) ?_
      simp only [picks, List.drop_succ_cons, List.drop_zero]
      repeat (refine wpQ0_step (fun K hK => ?_); go_simp; (refine hK _ ?_; clear hK K))
      refine wpQ0_nil ?_
      repeat ((with_reducible refine wpQ2_step (fun K hK => ?_)); go_simp; first | ((with_reducible refine hK _ ?_); clear hK K) | (apply Exists.intro; refine ⟨fun x => ?_, hK _ ?_⟩; (fail); clear hK K))
      refine wpQ2_nil ?_
      refine Events.none_ fun w8 hg8 => ?_
      simp only [picks, List.drop_succ_cons, List.drop_zero]
      have hE8 : Ext2 W1 w8 := HE7.out.trans (Below.mono hg8 HE7.out.size)
      have d2 := (Below.cell hg8 (cell_lt d2)).trans d2
      have d3 := (Below.cell hg8 (cell_lt d3)).trans d3
      have hnW1 : n0 ≤ W1.heap.size := by omega
      have hKB8 := HKB.out.ext hE8 hnW1
      have f1 : w8.frozen? ⟨g, i * 2, none⟩ = false := by
        obtain ⟨cur, hc⟩ := ownR_cells hKB8.own (k := g) rfl
        exact frz_blk hc _
      have f2 : w8.frozen? ⟨g, i * 2 + 1, none⟩ = false := by
        obtain ⟨cur, hc⟩ := ownR_cells hKB8.own (k := g) rfl
        exact frz_blk hc _
      have HKB8 := Lib.hid hKB8; have HE8 := Lib.hid hE8
      clear q19c q19f hKB8 hE8 hfz z0 z1 z2 hg8
      go_wp2_with (fail)
      gi_wp2
      have hput := HKB8.out.put (lo := av.lo + (m1 : Int)) (hi := av.lo + (m2 : Int) - 1) hk hnn HF.out (by have := HN0.out; omega) hgd (by omega)
        (by rw [← HI.out, HAV.out]; exact turn_lo HK.out hid (by rw [HN.out, HAV.out]) (by have h := HT1.out; rwa [HBV.out, HST.out, HAV.out] at h))
        (by rw [← HI.out, HAV.out]; exact turn_hi HK.out hid (by rw [HN.out, HAV.out]) (by have h := HT2.out; rwa [HBV.out, HST.out, HAV.out] at h))
      rw [← HI.out] at hput
      exact ⟨(keeps_below HE8.out).trans ((KeepsOthers.setCell _ _ _).trans (KeepsOthers.setCell _ _ _)), hput⟩
    case sdone =>
      rintro d2 W2 hd2 hfin hD2
      have hKB : KBack w T f B n0 n1 d W.heap.size g cp8 (.slice a6 ns cp6) T.days.length W2 := by
        rcases hfin with ⟨h0, h⟩ | ⟨k, hk, h⟩
        · rw [h0]; exact h
        · rw [← hk]; exact h
      have r2 := hKB.all; have r3 := hKB.sbox
      have HKB := Lib.hid hKB; have HD2 := Lib.hid hD2
      subst ha1
      clear hfin hKB hD2 hK0 hFx
      have q2c := cell_blk r2
      have q2f := frz_blk r2
      have q3c := cell_blk r3
      have q3f := frz_blk r3
      go_wp2_with (fail)
      refine wp_calm ?_
      haveI hcls : Nonempty (Cls (AtBlk (n0 + 1 + 1) #[.slice a6 ns cp6] 33)) := ⟨⟨W2, r3⟩⟩
      refine region_evH (AtBlk (n0 + 1 + 1) #[.slice a6 ns cp6] 33) [1] [0] [] [2, 3] (AtBlk.ext r3) (by kernel_rfl) (by kernel_rfl) (by intro c a d v w h; cases d <;> exact h) ?_
      simp only [picks, List.drop_succ_cons, List.drop_zero]
      repeat (refine wpQS_step (fun K hK => ?_); go_simp; (refine hK _ ?_; clear hK K))
      refine wpQS_nil ?_
      repeat ((with_reducible refine wpQ2_step (fun K hK => ?_)); go_simp; first | ((with_reducible refine hK _ ?_); clear hK K) | (apply Exists.intro; refine ⟨fun x => ?_, hK _ ?_⟩; (fail); clear hK K))
      refine wpQ2_nil ?_
      refine EventsH.none_ fun w9 hg9 => ?_
      simp only [picks, List.drop_succ_cons, List.drop_zero]
      clear q2c q2f q3c q3f
      have s2 := Ext2.blk hg9 r2; have s3 := Ext2.blk hg9 r3
      have hn3 : n0 + 1 + 1 < W2.heap.size := blk_lt r3
      clear r2 r3
      have q2c := cell_blk s2
      have q2f := frz_blk s2
      have q3c := cell_blk s3
      have q3f := frz_blk s3
      refine wpListH_cons ?_
      go_wp2_with (fail)
      have t3 := blk_set_ne (b' := n0 + 1) (o := 0) (v := .slice (some ⟨g, 0, none⟩) (T.days.length + 1) cp8) s3 (by omega)
      refine ⟨t3, wpListH_cons ?_⟩
      go_wp2_with (fail)
      refine ⟨Eq.trans (blk_set t3 _ _) rfl, wpListH_nil ?_⟩
      have t2 : ((w9.setCell ⟨n0 + 1, 0, none⟩ (.slice (some ⟨g, 0, none⟩) (T.days.length + 1) cp8)).setCell ⟨n0 + 1 + 1, 0, none⟩ (.slice a6 ns cp6)).heap[n0 + 1]? = some (.cells #[.slice (some ⟨g, 0, none⟩) (T.days.length + 1) cp8] 32 (0, 0)) := blk_set_ne (Eq.trans (blk_set s2 _ _) rfl) (by omega)
      have t3 : ((w9.setCell ⟨n0 + 1, 0, none⟩ (.slice (some ⟨g, 0, none⟩) (T.days.length + 1) cp8)).setCell ⟨n0 + 1 + 1, 0, none⟩ (.slice a6 ns cp6)).heap[n0 + 1 + 1]? = some (.cells #[.slice a6 ns cp6] 33 (0, 0)) := Eq.trans (blk_set t3 _ _) rfl
      have hnW2 : n0 ≤ W2.heap.size := by omega
      have hK9 := HKB.out.ext hg9 hnW2
      have tB : Below n0 w ((w9.setCell ⟨n0 + 1, 0, none⟩ (.slice (some ⟨g, 0, none⟩) (T.days.length + 1) cp8)).setCell ⟨n0 + 1 + 1, 0, none⟩ (.slice a6 ns cp6)) := below_set (below_set hK9.b (by omega)) (by omega)
      have tO := own_set (g := n0 + 1 + 1) (o := 0) (u := .slice a6 ns cp6) (own_set (g := n0 + 1) (o := 0) (u := .slice (some ⟨g, 0, none⟩) (T.days.length + 1) cp8) hK9.own (by omega)) (by omega)
      have tS := own_set (g := n0 + 1 + 1) (o := 0) (u := .slice a6 ns cp6) (own_set (g := n0 + 1) (o := 0) (u := .slice (some ⟨g, 0, none⟩) (T.days.length + 1) cp8) hK9.struck (by omega)) (by omega)
      have td := blk_set_ne (b' := n0 + 1 + 1) (o := 0) (v := .slice a6 ns cp6) (blk_set_ne (b' := n0 + 1) (o := 0) (v := .slice (some ⟨g, 0, none⟩) (T.days.length + 1) cp8) hK9.dfr (by omega)) (by omega)
      have td2 := blk_set_ne (b' := n0 + 1 + 1) (o := 0) (v := .slice a6 ns cp6) (blk_set_ne (b' := n0 + 1) (o := 0) (v := .slice (some ⟨g, 0, none⟩) (T.days.length + 1) cp8) (Ext2.blk hg9 HD2.out) (by omega)) (by omega)
      clear q2c q2f q3c q3f s2 s3 hK9
      generalize (w9.setCell ⟨n0 + 1, 0, none⟩ (.slice (some ⟨g, 0, none⟩) (T.days.length + 1) cp8)).setCell ⟨n0 + 1 + 1, 0, none⟩ (.slice a6 ns cp6) = wz at *
      have TD := Lib.hid td; have TD2 := Lib.hid td2; have TB := Lib.hid tB; have TO := Lib.hid tO; have TS := Lib.hid tS
      clear td td2 tB tO tS
      go_wp2_with (fail)
      have hdd : d ≠ d2 := by omega
      have hgd2 : g ≠ d2 := by omega
      refine ⟨by simp, .inl ⟨_, _, rfl, run_takeDeferred TD2.out, ?_⟩⟩
      refine ⟨by simp, .inl ⟨_, _, rfl, run_takeDeferred (blk_put TD.out hdd), ?_⟩⟩
      have u2 := blk_put (d := d) (o := .deferred none) (blk_put (d := d2) (o := .deferred none) t2 (by omega)) (by omega)
      have u3 := blk_put (d := d) (o := .deferred none) (blk_put (d := d2) (o := .deferred none) t3 (by omega)) (by omega)
      have uB := below_put (d := d) (o := .deferred none) (below_put (d := d2) (o := .deferred none) TB.out (by omega)) (by omega)
      have uO := own_put (d := d) (o := .deferred none) (own_put (d := d2) (o := .deferred none) TO.out (fun e => hgd2 (Option.some.inj e))) (fun e => hgd (Option.some.inj e))
      have hs6 : ∀ x, (Value.slice a6 ns cp6).ownBlock = some x → x ≠ d ∧ x ≠ d2 := fun x hx => by
        obtain ⟨cur, hc⟩ := ownR_cells TS.out hx
        refine ⟨fun e => ?_, fun e => ?_⟩
        · rw [e, TD.out] at hc; cases hc
        · rw [e, TD2.out] at hc; cases hc
      have uS := own_put (d := d) (o := .deferred none) (own_put (d := d2) (o := .deferred none) TS.out (fun e => (hs6 _ e).2 rfl)) (fun e => (hs6 _ e).1 rfl)
      refine leaves_nil (v := .tuple #[.slice (some ⟨g, 0, none⟩) (T.days.length + 1) cp8, .slice a6 ns cp6]) ?_ ⟨⟨_, _, rfl, ?_, ?_⟩, ?_⟩
      · have z2c := cell_blk u2
        have z2f := frz_blk u2
        have z3c := cell_blk u3
        have z3f := frz_blk u3
        simp [results, Try.results51, go_sem, z2c, z3c]
      · have h := uO.congr (c' := spC (lv T)) (fun i j hi hj => by
          have hj' : j < 2 := hj
          rcases (by omega : j = 0 ∨ j = 1) with rfl | rfl <;> simp only [spC, lvF_all])
        exact h.base (by have := HN0.out; omega)
      · exact uS.base (by have := HN0.out; omega)
      · exact uB.mono (by have := HN0.out; omega)
  case body =>
    rintro l k a' W hl ⟨r0, hr0⟩ hk ⟨b8, hb8, hi8, hF1, hV1, rfl⟩
    go_light
    have hkd := hfw k hk
    subst ha0
    simp only [List.setIfInBounds_toArray, List.set_cons_succ, List.set_cons_zero]
    gi_wp2
    gi_loopw [] (fun wr => KRel w T s B n0 n1 go b8 k W wr) (fun wr => ordLen wr n1)
    case atStart => exact ⟨0, Nat.zero_le _, hF1, by rw [Nat.add_zero]; exact hV1, hi8, KeepsOthers.refl _⟩
    case round =>
      obtain ⟨q, hq, hFr, hVr, h8, hKr⟩ := hrel
      clear hF hV hF1 hV1 hi8
      have hwr : w.heap.size ≤ wr.heap.size := hFr.b.size
      have hfst := HK.out.first
      have hw0 : IntKind.i64.wrap (T.first + (k : Int)) = T.first + (k : Int) := IntWalk.i64_in _ (by omega)
      rcases Nat.lt_or_ge q (dayTests T k).length with hql | hql
      · obtain ⟨c, hc⟩ : ∃ c, c = pos T k + q := ⟨_, rfl⟩
        go_light
        have hcn : c < T.tests.length := by have := pos_q (days_of HK.out) hkd (q := q + 1) (by omega); omega
        obtain ⟨j, hj⟩ : ∃ j, j = (dayTests T k)[q] := ⟨_, rfl⟩
        have hoj : (orderT T).getD c 0 = j := by rw [hc, hj]; exact ord_at (days_of HK.out) hkd hql
        have hjm := mo_of (T := T) (i := k) (j := j) (by rw [hj]; exact List.getElem_mem _)
        have hjd : dayD' T j = T.first + k := (cls_mem.1 (show j ∈ cls (dayD' T) (T.first + k) T.tests.length by rw [hj]; exact List.getElem_mem _)).2
        have hst := stq_succ T hql
        rw [← hj] at hst
        have hok := stq_ok HK.out hkd (q := q) (by omega)
        rw [← hc] at hVr hok
        obtain ⟨st, hst0⟩ : ∃ st, st = stq T k q := ⟨_, rfl⟩
        rw [← hst0] at hVr hst hok
        obtain ⟨r7, ⟨oa', oc', r5, hoo⟩, ⟨v4, r6, hO4, hnil, hne4⟩, ⟨v6, r3, hO6⟩, ⟨v8, r2, hO8⟩⟩ := id hVr
        obtain ⟨rfl, hoc, hocm⟩ := hoo hcn
        have ho := (hFr.o (by omega)).one (i := c) hcn
        rw [Nat.zero_add] at ho
        simp only [natC, hoj] at ho
        obtain ⟨tb, toff, hta, htr⟩ := HT.out.row (by omega) (by omega)
        obtain ⟨t0, t1, t2⟩ := (htr.below (HN0.out ▸ hFr.b)).three (i := j) hjm.2
        have htst := (HK.out.tests j hjm.2).1
        simp only [testC] at t0 t1 t2
        have hkp : kp T j = keep T.rule (testD T.tests j) := rfl
        unfold dayD' at hjd
        obtain ⟨⟨xd, xg, xe⟩, hx⟩ : ∃ x, x = testD T.tests j := ⟨_, rfl⟩
        rw [← hx] at t0 t1 t2 htst hkp hjd
        simp only at t0 t1 t2 hjd
        subst hjd
        obtain ⟨kpj, hkpj⟩ : ∃ kpj, kpj = kp T j := ⟨_, rfl⟩
        have htc1 := HT.out.le
        have htc2 := HT.out.max
        have HKEEP : Hid (∀ W', Ext2 wr W' → Calls Try.prog 80 #[.pointer (some ⟨B, 0, none⟩), .agg #[.int .i64 (Test.mk (T.first + (k : Int)) xg xe).day, .int .i64 (Test.mk (T.first + (k : Int)) xg xe).grade, .int .i64 (Test.mk (T.first + (k : Int)) xg xe).err]] W' fun e w' => e = .returned (.agg #[.int .i64 kpj.lo, .int .i64 kpj.hi]) ∧ Below W'.heap.size W' w') := Lib.hid fun W' hW' => by
          rw [hkpj, hkp]
          exact keep_any (hW'.blk (below_blk (HN0.out ▸ hFr.b) HB.out hBl)) htst HK.out.rule
        have HST := Lib.hid hst; have HOK := Lib.hid hok; have HST0 := Lib.hid hst0; have HC := Lib.hid hc; have HJ := Lib.hid hj; have HKPJ := Lib.hid hkpj
        have HVR := Lib.hid hVr; have HFR := Lib.hid hFr
        obtain ⟨mm, hmm⟩ : ∃ mm, mm = T.tests.length - c := ⟨_, rfl⟩
        rw [← hmm] at r5 hoc
        have hmm1 : mm + c = T.tests.length := by omega
        have HMM := Lib.hid hmm1
        have z0 : (0 : Int) < (mm : Int) := by omega
        have z00 : 0 < mm := by omega
        have HR5 := Lib.hid (ordLen_eq r5)
        clear hmm hmm1
        have z1 : (0 : Int) ≤ (j : Int) := by omega
        have z2 : (j : Int) < (T.tests.length : Int) := by omega
        have r4 := hFr.t; have r1 := hFr.x
        rw [hta] at r4
        have HTA := Lib.hid hta
        clear hta
        clear hst hok hst0 hc hj hkpj hVr hFr hkp hx htst hoj hjm hoo
        have q4c := cell_blk r4
        have q4f := frz_blk r4
        have q5c := cell_blk r5
        have q5f := frz_blk r5
        have q8c := cell_blk h8
        have q8f := frz_blk h8
        gi_wp2
        refine round_region_ev [] [0, 1, 2, 3, 4, 5, 6, 7, 8, 9, 10, 11, 12, 13, 14, 15, 16, 17] [] [] (by kernel_rfl) (by rintro ⟨a_, w_, h_⟩; exact h_) (by kernel_rfl) (by kernel_rfl) (by intro c a d v w h; cases d <;> exact h) ?_
        simp only [picks, List.drop_succ_cons, List.drop_zero]
        repeat (refine wpQ0_step (fun K hK => ?_); go_simp; (refine hK _ ?_; clear hK K))
        refine wpQ0_nil ?_
        repeat (refine wpQ2_step (fun K hK => ?_); go_simp; first | (refine hK _ ?_; clear hK K) | (apply Exists.intro; refine ⟨fun x => ?_, hK _ ?_⟩; (fail); clear hK K))
        refine wpQ2_nil ?_
        refine Events.none_ fun w3 hg3 => ?_
        simp only [picks, List.drop_succ_cons, List.drop_zero]
        clear q4c q4f q5c q5f q8c q8f
        have p4 := hg3.blk r4; have p5 := hg3.blk r5; have p1 := hg3.blk r1; have p7 := hg3.blk r7
        have o3 := (Below.cell hg3 (cell_lt ho)).trans ho
        have t03 := (Below.cell hg3 (cell_lt t0)).trans t0
        have t13 := (Below.cell hg3 (cell_lt t1)).trans t1
        have t23 := (Below.cell hg3 (cell_lt t2)).trans t2
        clear t0 t1 t2
        have q1c := cell_blk p1
        have q1f := frz_blk p1
        have q4c := cell_blk p4
        have q4f := frz_blk p4
        have q5c := cell_blk p5
        have q5f := frz_blk p5
        go_wp2_with (fail)
        gi_wp2
        have HKEEP3 : Hid (∀ W', Ext2 w3 W' → Calls Try.prog 80 #[.pointer (some ⟨B, 0, none⟩), .agg #[.int .i64 (Test.mk (T.first + (k : Int)) xg xe).day, .int .i64 (Test.mk (T.first + (k : Int)) xg xe).grade, .int .i64 (Test.mk (T.first + (k : Int)) xg xe).err]] W' fun e w' => e = .returned (.agg #[.int .i64 kpj.lo, .int .i64 kpj.hi]) ∧ Below W'.heap.size W' w') := Lib.hid fun W' hW' => HKEEP.out W' (hg3.trans (Below.mono hW' hg3.size))
        refine round_region_ev [] [0, 1, 2, 3, 4, 5, 6, 7, 8] [(9, 9, some 10)] [] (by kernel_rfl) (by rintro ⟨a_, w_, h_⟩; exact h_) (by kernel_rfl) (by kernel_rfl) (by intro c a d v w h; cases d <;> exact h) ?_
        simp only [picks, List.drop_succ_cons, List.drop_zero]
        repeat (refine wpQ0_step (fun K hK => ?_); go_simp; (refine hK _ ?_; clear hK K))
        refine wpQ0_nil ?_
        repeat (refine wpQ2_step (fun K hK => ?_); go_simp; first | (refine hK _ ?_; clear hK K) | (apply Exists.intro; refine ⟨fun x => ?_, hK _ ?_⟩; (first | (with_reducible exact HKEEP3.out x.1 x.2)); clear hK K))
        refine wpQ2_nil ?_
        refine Events.fill1 (fun b => .pointer (some ⟨b, 0, none⟩)) (Obj.cells #[.int .i64 0, .int .i64 0] 28) (Obj.cells #[.int .i64 kpj.lo, .int .i64 kpj.hi] 28) ⟨_, rfl, rfl, rfl, fun W => by kernel_rfl⟩ ⟨_, rfl, rfl, rfl, fun b W hb => ?_⟩ fun b9 w4 hb9 hg4 nb9 => ?_
        · have hbc := cell_blk hb; have hbf := frz_blk hb; go_simp; exact turn_two hb _ _
        simp only [picks, List.drop_succ_cons, List.drop_zero]
        clear q1c q1f q4c q4f q5c q5f
        have hE4 : Ext2 wr w4 := hg3.trans (Below.mono hg4 hg3.size)
        have p7 := hg4.blk p7
        obtain ⟨sp, hsp⟩ : ∃ sp, sp = both st.now kpj := ⟨_, rfl⟩
        obtain ⟨isb, hisb⟩ : ∃ isb, isb = !bad sp := ⟨_, rfl⟩
        have HMEET : Hid (∀ W', Calls Try.prog 81 #[.agg #[.int .i64 st.now.lo, .int .i64 st.now.hi], .agg #[.int .i64 kpj.lo, .int .i64 kpj.hi]] W' fun e w' => e = .returned (.tuple #[.agg #[.int .i64 sp.lo, .int .i64 sp.hi], .bool isb]) ∧ Below W'.heap.size W' w') := Lib.hid fun W' => by
          have h := meet_any st.now.lo st.now.hi kpj.lo kpj.hi W'
          have e1 : isb = decide (max st.now.lo kpj.lo ≤ min st.now.hi kpj.hi) := by rw [hisb, hsp]; exact bad_both _ _
          rw [e1, hsp]; exact h
        have HSP := Lib.hid hsp; have HISB := Lib.hid hisb
        clear hsp hisb
        have hz9 := blk_lt nb9
        have q7c := cell_blk p7
        have q7f := frz_blk p7
        have q9c := cell_blk nb9
        have q9f := frz_blk nb9
        go_wp2_with (fail)
        gi_wp2
        (refine ⟨trivial, rfl, CallsIn.mono (CallsIn.inRound _ (callsIn_wide.2 (HMEET.out _))) ?_⟩)
        rintro e w5 ⟨rfl, hg5⟩
        have hE5 : Ext2 wr w5 := hE4.trans (Below.mono hg5 hE4.size)
        have d9 := (show Ext2 w4 w5 from hg5).blk nb9
        clear q7c q7f q9c q9f nb9 p1 p4 p5 p7 o3 t03 t13 t23
        have hz9' := blk_lt d9
        cases isb
        case true =>
          have hnb : bad sp = false := by have := HISB.out; simpa using this.symm
          obtain ⟨⟨a4, cp4⟩, rfl, -⟩ := hO4.sl
          dsimp only at hO4 r6 hne4 hnil
          obtain ⟨bs, hbs1, hbs2, hOb, hbs3⟩ : ∃ bs, n1 + 7 ≤ bs ∧ bs ≤ wr.heap.size ∧ OwnR wr bs 3 1 (.slice a4 st.good.length cp4) st.good.length (natC st.good) ∧ (1 ≤ st.good.length ∨ wr.heap.size ≤ bs) := by
            have h7 : n1 + 7 ≤ wr.heap.size := by have := blk_lt HFR.out.m.j; omega
            rcases Nat.eq_zero_or_pos st.good.length with h | h
            · have hg : st.good = [] := List.eq_nil_of_length_eq_zero h
              have hv := hnil hg
              refine ⟨wr.heap.size, h7, Nat.le_refl _, ?_, .inr (Nat.le_refl _)⟩
              rw [hv, h]; exact own_nil _ _ _ _ _
            · exact ⟨n1 + 7, Nat.le_refl _, h7, hO4, .inl h⟩
          have HOB := Lib.hid hOb; have HNE := Lib.hid hne4; have HR6 := Lib.hid r6; have H8 := Lib.hid h8
          have hgl : st.good.length ≤ 20 := by have := HOK.out.glen; omega
          clear hOb hne4 hnil hO4 hO6 hO8 r2 r3 r4 r7 r1 hnb
          gi_wp2
          refine wpIn_name ?_
          intro w6 hw6
          have hE56 : Ext2 w5 w6 := by rw [hw6]; exact below_alloc' _ _
          have n10 : w6.heap[w5.heap.size]? = some (Obj.cells #[.int .i64 sp.lo, .int .i64 sp.hi] 28) := by rw [hw6]; exact blk_new _ _
          have hE6 : Ext2 wr w6 := hE5.trans (Below.mono hE56 hE5.size)
          have hz56 : wr.heap.size ≤ w5.heap.size := hE5.size
          clear hw6 hE56 hE5 hE4 d9 hg5 hg4 hg3
          have p5 := hE6.blk r5; have p6 := hE6.blk r6
          have o6 := (Below.cell hE6 (cell_lt ho)).trans ho
          clear ho r5 r6 h8
          have q5c := cell_blk p5
          have q5f := frz_blk p5
          have q6c := cell_blk p6
          have q6f := frz_blk p6
          haveI hcls : Nonempty (Cls (AtBlk w5.heap.size #[.int .i64 sp.lo, .int .i64 sp.hi] 28)) := ⟨⟨w6, n10⟩⟩
          refine round_region_evH (AtBlk w5.heap.size #[.int .i64 sp.lo, .int .i64 sp.hi] 28) [0] [1, 2, 3, 4] [(5, 80, none)] [6, 7, 8] (AtBlk.ext n10) (by kernel_rfl) (by rintro ⟨a_, w_, h_⟩; exact h_) (by kernel_rfl) (by kernel_rfl) (by intro c a d v w h; cases d <;> exact h) ?_
          simp only [picks, List.drop_succ_cons, List.drop_zero]
          repeat (refine wpQS_step (fun K hK => ?_); go_simp; (refine hK _ ?_; clear hK K))
          refine wpQS_nil ?_
          repeat (refine wpQ2_step (fun K hK => ?_); go_simp; first | (refine hK _ ?_; clear hK K) | (apply Exists.intro; refine ⟨fun x => ?_, hK _ ?_⟩; (fail); clear hK K))
          refine wpQ2_nil ?_
          refine EventsH.lay1 (fun b => .slice (some ⟨b, 0, none⟩) 1 1) (.cells #[.int .i64 (j : Int)] 3 (0, 0)) ⟨_, rfl, rfl, rfl, fun W => by kernel_rfl⟩ fun bq wx hbq hgx nbq => ?_
          simp only [picks, List.drop_succ_cons, List.drop_zero]
          clear q5c q5f q6c q6f
          have hEx : Ext2 wr wx := hE6.trans (Below.mono hgx hE6.size)
          have hzx : wr.heap.size ≤ wx.heap.size := hEx.size
          have y5 := hgx.blk p5; have y6 := hgx.blk p6; have y10 := hgx.blk n10
          have y7 := hEx.blk HVR.out.now
          refine wpListH_cons ?_
          go_wp2_with (at_builtin; refine app_one [.int .i64 (j : Int)] elInt rfl _ _ rfl bs rfl (HOB.out.below hEx) bq 1 rfl nbq (by simp [Value.oneCell']) (by omega) (by omega) ?_; intro v' w7 hO7 hg7)
          obtain ⟨⟨a', cp'⟩, rfl, -⟩ := hO7.sl
          dsimp only at hO7
          have hOx := HOB.out.below hEx
          have u7 := app_keeps hOx hg7 y7 (by omega)
          have u6 := app_keeps hOx hg7 y6 (by omega)
          have u5 := app_keeps hOx hg7 y5 (by omega)
          have u10 := app_keeps2 HOB.out hg7 y10 (by omega)
          refine ⟨u10, wpListH_cons ?_⟩
          clear y5 y6 y7 y10 p5 p6 n10 nbq
          have x7c := cell_blk u7
          have x7f := frz_blk u7
          go_wp2_with (fail)
          have h7 : n1 + 7 ≤ wr.heap.size := by have := blk_lt HFR.out.m.j; omega
          have u11 := blk_set_ne (b' := n1 + 1 + 1) (o := 1) (v := .int .i64 sp.hi) (blk_set_ne (b' := n1 + 1 + 1) (o := 0) (v := .int .i64 sp.lo) u10 (by omega)) (by omega)
          refine ⟨u11, wpListH_cons ?_⟩
          have x6c := cell_blk u6
          have x6f := frz_blk u6
          go_wp2_with (fail)
          refine ⟨blk_set_ne (b' := n1 + 1) u11 (by omega), wpListH_nil ?_⟩
          have hVT := HVR.out.take (sp := sp) hnn hEx hbs1 HOB.out hbs3 HNE.out H8.out hO7 hg7
          have hszx : n0 ≤ wx.heap.size := by have := HFR.out.b.size; have := HFR.out.n; omega
          have hFT := ((((HFR.out.ext hEx (by have := HFR.out.n; omega)).app hbs1 hOx hg7 hszx).set (g := n1 + 1 + 1) (o := 0) (v := .int .i64 sp.lo) (by omega) (by omega)).set (g := n1 + 1 + 1) (o := 1) (v := .int .i64 sp.hi) (by omega) (by omega)).set (g := n1 + 1) (o := 0) (v := .slice a' (st.good.length + 1) cp') (by omega) (by omega)
          have h8T : (((w7.setCell ⟨n1 + 1 + 1, 0, none⟩ (.int .i64 sp.lo)).setCell ⟨n1 + 1 + 1, 1, none⟩ (.int .i64 sp.hi)).setCell ⟨n1 + 1, 0, none⟩ (.slice a' (st.good.length + 1) cp')).heap[b8]? = some (.cells #[.int .i64 (k : Int)] 3 (0, 0)) :=
            blk_set_ne (b' := n1 + 1) (blk_set_ne (b' := n1 + 1 + 1) (blk_set_ne (b' := n1 + 1 + 1) ((hg7.block b8 (blk_lt (hEx.blk H8.out)) (fun e => HNE.out e.symm)).trans (hEx.blk H8.out)) (by omega)) (by omega)) (by omega)
          have hKT : KeepsOthers W (((w7.setCell ⟨n1 + 1 + 1, 0, none⟩ (.int .i64 sp.lo)).setCell ⟨n1 + 1 + 1, 1, none⟩ (.int .i64 sp.hi)).setCell ⟨n1 + 1, 0, none⟩ (.slice a' (st.good.length + 1) cp')) :=
            hKr.trans ((keeps_below hEx).trans ((KeepsOthers.of_grownBy hg7 (fun g o e ho => by obtain ⟨cur, hc⟩ := ownR_cells hOx e; rw [hc] at ho; cases ho; rfl)).trans ((KeepsOthers.setCell _ _ _).trans ((KeepsOthers.setCell _ _ _).trans (KeepsOthers.setCell _ _ _)))))
          have e5 := blk_set_ne (b' := n1 + 1) (o := 0) (v := .slice a' (st.good.length + 1) cp') (blk_set_ne (b' := n1 + 1 + 1) (o := 1) (v := .int .i64 sp.hi) (blk_set_ne (b' := n1 + 1 + 1) (o := 0) (v := .int .i64 sp.lo) u5 (by omega)) (by omega)) (show n1 + 1 ≠ n1 by omega)
          clear u11 u10 u7 u6 u5 x6c x6f x7c x7f hO7 hg7 hOx hEx hgx hE6 hcls
          generalize ((w7.setCell ⟨n1 + 1 + 1, 0, none⟩ (.int .i64 sp.lo)).setCell ⟨n1 + 1 + 1, 1, none⟩ (.int .i64 sp.hi)).setCell ⟨n1 + 1, 0, none⟩ (.slice a' (st.good.length + 1) cp') = wz at *
          have HVT := Lib.hid hVT; have HFT := Lib.hid hFT; have HKT := Lib.hid hKT
          clear hVT hFT hKT
          have zl : (0 : Int) ≤ 1 := by omega
          have zm : (1 : Int) ≤ (mm : Int) := by omega
          have zc : 1 ≤ oc' := by omega
          have HB8 := Lib.hid hb8; have HQL := Lib.hid hql; have HOC := Lib.hid hoc; have HOCM := Lib.hid hocm
          clear HJ
          clear HKEEP HKEEP3 HMEET p7 htr o6 hq hql hbs1 hbs2 hbs3 hKr hk hkd hl hb8 hcn hgl hz56 hzx hbq h7 hszx hz9 hz9' hb9 hwr hfst hw0 htc1 htc2 z0 z1 z2 hnd hnt hBl hle hfw HO HB hB1 hr0 hocm zl
          have q5c := cell_blk e5
          have q5f := frz_blk e5
          go_wp2_with (fail)
          repeat (first | go_values | gi_guarded | gi_step | gi_upon | gi_in)
          go_roundw
          case rel =>
            have hmm := HMM.out
            have hoc := HOC.out
            have hv := HVT.out.setOrd (c' := c + 1) (a := if oc' = 1 then some ⟨go, c, none⟩ else some ⟨go, c + 1, none⟩) (cap := oc' - 1) hnn (fun h => ⟨by rw [if_neg (by omega)], by omega, by have := HOCM.out; omega⟩)
            rw [show T.tests.length - (c + 1) = mm - 1 by omega] at hv
            refine ⟨q + 1, HQL.out, HFT.out.set (by omega) (.inl (by omega)), ?_, blk_set_ne h8T ?_, HKT.out.trans (KeepsOthers.setCell _ _ _)⟩
            · have e1 : stq T k (q + 1) = ⟨sp, st.good ++ [j], st.struck⟩ := by
                rw [HST.out, tstep, ← HKPJ.out, ← HSP.out, if_neg (by have := HISB.out; simp at this; simp [this])]
              rw [e1, ← Nat.add_assoc, ← HC.out]
              exact hv
            · have := HB8.out; omega
          case measure =>
            rw [ordLen_eq (Eq.trans (blk_set e5 _ _) rfl), HR5.out]; omega
        case false =>
          have hnb : bad sp = true := by have := HISB.out; simpa using this.symm
          obtain ⟨⟨a4, cp4⟩, rfl, -⟩ := hO4.sl
          dsimp only at hO4 r6 hne4 hnil
          have hgl : st.good.length ≤ 20 := by have := HOK.out.glen; omega
          obtain ⟨⟨a6, cp6⟩, rfl, -⟩ := hO6.sl
          dsimp only at hO6 r3
          have HR55 := Lib.hid r5
          have HQL2 := Lib.hid (show q + 1 ≤ (dayTests T k).length from hql)
          have HOB := Lib.hid hO4; have HR6 := Lib.hid r6; have H8 := Lib.hid h8; have HO6 := Lib.hid hO6; have HR3 := Lib.hid r3
          have hz56 : wr.heap.size ≤ w5.heap.size := hE5.size
          have p6 := hE5.blk r6
          have h7 : n1 + 7 ≤ wr.heap.size := by have := blk_lt HFR.out.m.j; omega
          have HE5 := Lib.hid hE5
          have y1 : n1 + 1 < w5.heap.size := by omega
          have y2 : n1 + 1 < w5.heap.size + 1 := by omega
          have y3 : ¬ n1 + 1 = w5.heap.size := by omega
          have y4 : ¬ n1 + 1 = w5.heap.size + 1 := by omega
          clear hne4 hnil hO4 hO6 hO8 r2 r3 r4 r7 r1 r5 r6 h8 hnb hE5 hE4 hg5 hg4 hg3
          have q6c := cell_blk p6
          have q6f := frz_blk p6
          gi_wp2
          (refine ⟨trivial, rfl, CallsIn.mono (CallsIn.inRound _ (callsIn_wide.2 (backI_any _ _ _ _))) ?_⟩)
          rintro e w6 ⟨rfl, hw6⟩
          have hE56 : Ext2 w5 w6 := by rw [hw6]; exact Ext2.cr _ _ _ (Ext2.cr _ _ _ (below_alloc' _ _) (below_alloc' _ _)) (below_alloc' _ _)
          have n12 : w6.heap[w5.heap.size + 1]? = some (.cells #[.int .i64 (-1)] 3 (0, 0)) := by rw [hw6]; repeat' (first | (with_reducible assumption) | (with_reducible refine blk_set_ne ?_ ?_) | (with_reducible exact blk_new _ _) | (with_reducible refine blk_new' _ _ (by first | (with_reducible rfl) | (simp; done) | (simp <;> omega))) | (with_reducible refine blk_alloc ?_ _) | (with_reducible refine blk_drew ?_) | (with_reducible refine blk_drewN ?_ _) | (with_reducible refine Ext2.blk (by assumption) ?_) | omega | (simp <;> omega) | exact blk_set (by assumption) _ _)
          have nbb : w6.heap[w5.heap.size + 1 + 1]? = some (.cells #[.slice a4 st.good.length cp4] 44 (0, 0)) := by rw [hw6]; repeat' (first | (with_reducible assumption) | (with_reducible refine blk_set_ne ?_ ?_) | (with_reducible exact blk_new _ _) | (with_reducible refine blk_new' _ _ (by first | (with_reducible rfl) | (simp; done) | (simp <;> omega))) | (with_reducible refine blk_alloc ?_ _) | (with_reducible refine blk_drew ?_) | (with_reducible refine blk_drewN ?_ _) | (with_reducible refine Ext2.blk (by assumption) ?_) | omega | (simp <;> omega) | exact blk_set (by assumption) _ _)
          have hE6 : Ext2 wr w6 := HE5.out.trans (Below.mono hE56 HE5.out.size)
          have e9 := hE56.blk d9
          have hl6 : w6.heap[l]? = some (.loop r0) := hE6.blk (hKr.same l _ hr0 rfl)
          have hz6 : w5.heap.size + 1 + 1 < w6.heap.size := blk_lt nbb
          clear hw6 hE56 d9 q6c q6f p6 y1 y2 y3 y4
          simp only [World.size_alloc]
          repeat (first | go_values | gi_guarded | gi_step | gi_upon | gi_in)
          refine wpIn_aname ?_
          intro a1 ha1
          have hrow : ∀ W', Ext2 wr W' → RowS W' ⟨a4, cp4⟩ 1 st.good.length (natC st.good) := fun W' hW' => by
            obtain ⟨s', he, hs'⟩ := (HOB.out.below hW').sl
            obtain ⟨rfl, rfl⟩ : a4 = s'.a ∧ cp4 = s'.cap := by simpa using he
            exact hs'
          obtain ⟨ix, hix⟩ : ∃ ix : Nat → Nat, ∀ t, ix t = st.good.length - 1 - t := ⟨fun t => st.good.length - 1 - t, fun _ => rfl⟩
          obtain ⟨el, hel⟩ : ∃ el : Nat → Nat, ∀ t, el t = st.good.getD (ix t) 0 := ⟨fun t => st.good.getD (ix t) 0, fun _ => rfl⟩
          have hit := backIIter (bb := w5.heap.size + 1 + 1) (n := st.good.length) (s := ⟨a4, cp4⟩) (L := st.good) (by omega)
          have henc : (fun k => #[Value.int .i64 ((st.good.length - 1 - k : Nat) : Int), Value.int .i64 ((st.good.getD (st.good.length - 1 - k) 0 : Nat) : Int)]) = fun k => #[Value.int .i64 (ix k : Int), Value.int .i64 (el k : Int)] := by
            funext t; rw [hel, hix]
          rw [henc] at hit
          have HIX := Lib.hid hix; have HEL := Lib.hid hel; have HIT := Lib.hid hit
          clear hix hel henc hit
          refine rf_in_brk (r0 := r0) hl6 (gf := 106) (lb := #[.pointer (some ⟨w5.heap.size + 1 + 1, 0, none⟩)]) (by rw [ha1]; rfl) (enters_of Try.func106 (by kernel_rfl) rfl) HIT.out (fun _ => rfl)
            (fun t W' => SInv wr b9 (w5.heap.size + 1) (w5.heap.size + 1 + 1) kpj a4 st.good.length cp4 (-1) W' ∧ ∀ m, st.good.length - t ≤ m → m < st.good.length → badAt T k kpj (st.good.getD m 0) = false)
            (fun t W' => SInv wr b9 (w5.heap.size + 1) (w5.heap.size + 1 + 1) kpj a4 st.good.length cp4 (-1) W' ∧ ∀ m, st.good.length - (t + 1) ≤ m → m < st.good.length → badAt T k kpj (st.good.getD m 0) = false)
            (fun t W' => SInv wr b9 (w5.heap.size + 1) (w5.heap.size + 1 + 1) kpj a4 st.good.length cp4 (el t : Int) W' ∧ badAt T k kpj (el t) = true ∧ ∀ m, ix t < m → m < st.good.length → badAt T k kpj (st.good.getD m 0) = false)
            (fun t a' W' => (SInv wr b9 (w5.heap.size + 1) (w5.heap.size + 1 + 1) kpj a4 st.good.length cp4 (-1) W' ∧ ∀ m, st.good.length - t ≤ m → m < st.good.length → badAt T k kpj (st.good.getD m 0) = false) ∧ a' = { tmps := ((a1.tmps.setIfInBounds 84 (.int .i64 (ix t : Int))).setIfInBounds 85 (.int .i64 (el t : Int))).setIfInBounds 14 (.int .i64 (el t : Int)), defers := [] })
            ?oi ?om ?ox ?oj ?p0 ?i0 ?mp ?stp ?asg ?bo ?fin
          case oi => exact fun t W1 W2 row hs hg hr => ⟨hs.1.kept hg hr hE6.size, hs.2⟩
          case om => exact fun t W1 W2 row hs hg hr => ⟨hs.1.kept hg hr hE6.size, hs.2⟩
          case ox => exact fun t W1 W2 row hs hg hr => ⟨hs.1.kept hg hr hE6.size, hs.2⟩
          case oj => exact fun a' t W1 W2 row hs hg hr => ⟨⟨hs.1.1.kept hg hr hE6.size, hs.1.2⟩, hs.2⟩
          case p0 => exact fun W' hW' => ⟨(show Ext2 w6 W' from hW').blk nbb, hrow W' (hE6.trans (Below.mono hW' hE6.size))⟩
          case i0 => exact ⟨⟨hE6, e9, n12, nbb⟩, fun m h1 h2 => by omega⟩
          case mp => exact fun t W' _ hm => ⟨hm.1.box, hrow W' hm.1.x⟩
          case stp => exact fun t W1 W2 _ hm e => by subst e; exact ⟨KeepsOthers.refl _, hm⟩
          case asg =>
            rintro l2 t W' ht hI
            subst ha1
            have HI := Lib.hid hI; clear hI
            gi_wp2
            exact ⟨KeepsOthers.refl _, HI.out, by simp only [List.setIfInBounds_toArray, List.set_cons_succ, List.set_cons_zero]⟩
          case bo =>
            rintro l2 t a' W' hl2 hr2 ht ⟨⟨hS, hall⟩, rfl⟩
            subst ha1
            simp only [List.setIfInBounds_toArray, List.set_cons_succ, List.set_cons_zero]
            obtain ⟨jj, hjj⟩ : ∃ jj, jj = el t := ⟨_, rfl⟩
            have hmem : jj ∈ st.good := by
              rw [hjj, HEL.out, HIX.out, List.getD_eq_getElem?_getD, List.getElem?_eq_getElem (by omega)]; exact List.getElem_mem _
            obtain ⟨hj1, hj2⟩ := HOK.out.good jj hmem
            obtain ⟨s0, s1, s2⟩ := (htr.below ((HN0.out ▸ HFR.out.b).trans (Below.mono hS.x hwr))).three (i := jj) hj1
            have hts := HK.out.tests jj hj1
            have hm0 := mo_days (days_of HK.out) hj1
            simp only [testC] at s0 s1 s2
            have hkj0 : kp T jj = keep T.rule (testD T.tests jj) := rfl
            have hah0 : aheadT T jj k = on T.rule (forces T) (kp T jj) (mo T jj) k := rfl
            unfold dayD' at hm0
            obtain ⟨⟨yd, yg, ye⟩, hy⟩ : ∃ x, x = testD T.tests jj := ⟨_, rfl⟩
            rw [← hy] at s0 s1 s2 hts hkj0 hm0
            simp only at s0 s1 s2 hm0
            obtain ⟨m0, hmo⟩ : ∃ m0, m0 = mo T jj := ⟨_, rfl⟩
            rw [← hmo] at hm0 hj2 hah0
            obtain rfl : yd = T.first + (m0 : Int) := by omega
            obtain ⟨kj, hkj⟩ : ∃ kj, kj = kp T jj := ⟨_, rfl⟩
            obtain ⟨ah, hah⟩ : ∃ ah, ah = aheadT T jj k := ⟨_, rfl⟩
            have hkjs := kp_sp HK.out hj1
            rw [← hkj] at hkj0 hah0 hkjs
            rw [← hah] at hah0
            have hBW : W'.heap[B]? = some (reelO T s f T.days.length) := hS.x.blk (below_blk (HN0.out ▸ HFR.out.b) HB.out hBl)
            have HKj : Hid (∀ W2, Ext2 W' W2 → Calls Try.prog 80 #[.pointer (some ⟨B, 0, none⟩), .agg #[.int .i64 (Test.mk (T.first + (m0 : Int)) yg ye).day, .int .i64 (Test.mk (T.first + (m0 : Int)) yg ye).grade, .int .i64 (Test.mk (T.first + (m0 : Int)) yg ye).err]] W2 fun e w' => e = .returned (.agg #[.int .i64 kj.lo, .int .i64 kj.hi]) ∧ Below W2.heap.size W2 w') := Lib.hid fun W2 hW2 => by
              rw [hkj0]; exact keep_any (hW2.blk hBW) hts.1 HK.out.rule
            have HAj : Hid (∀ W2, Ext2 W' W2 → Calls Try.prog 83 #[.pointer (some ⟨B, 0, none⟩), .agg #[.int .i64 kj.lo, .int .i64 kj.hi], .int .i64 (m0 : Int), .int .i64 (k : Int)] W2 fun e w' => e = .returned (.agg #[.int .i64 ah.lo, .int .i64 ah.hi]) ∧ Below W2.heap.size W2 w') := Lib.hid fun W2 hW2 => by
              rw [hah0]; exact after_any HK.out hkjs.1 hj2 hkd (hW2.blk hBW) (HF.out.below (((HN0.out ▸ HFR.out.b).trans (Below.mono hS.x hwr)).trans (Below.mono hW2 (Nat.le_trans hwr hS.x.size))))
            obtain ⟨sp2, hsp2⟩ : ∃ sp2, sp2 = both ah kpj := ⟨_, rfl⟩
            obtain ⟨is2, his2⟩ : ∃ is2, is2 = !bad sp2 := ⟨_, rfl⟩
            have HMj : Hid (∀ W2, Calls Try.prog 81 #[.agg #[.int .i64 ah.lo, .int .i64 ah.hi], .agg #[.int .i64 kpj.lo, .int .i64 kpj.hi]] W2 fun e w' => e = .returned (.tuple #[.agg #[.int .i64 sp2.lo, .int .i64 sp2.hi], .bool is2]) ∧ Below W2.heap.size W2 w') := Lib.hid fun W2 => by
              rw [his2, hsp2, bad_both]; exact meet_any _ _ _ _ _
            have HBAD : Hid (badAt T k kpj jj = !is2) := Lib.hid (by rw [his2, hsp2, hah]; simp [badAt])
            have v1 := hS.x.blk HFR.out.x; have v4 := hS.x.blk HFR.out.t; have v8 := hS.x.blk H8.out; have v9 := hS.want; have v12 := hS.by_
            have hta2 := HTA.out
            rw [hta2] at v4
            have g0 : (0 : Int) ≤ (jj : Int) := by omega
            have g1 : (jj : Int) < (T.tests.length : Int) := by omega
            have g2 : IntKind.i64.wrap (m0 : Int) = (m0 : Int) := IntWalk.i64_in _ (by omega)
            have g3 : IntKind.i64.wrap (T.first + (m0 : Int) - T.first) = (m0 : Int) := by rw [show T.first + (m0 : Int) - T.first = (m0 : Int) by omega]; exact g2
            have HS := Lib.hid hS; have HALL := Lib.hid hall; have HJJ := Lib.hid hjj
            clear hjj hS hall hta2 hmem hj1 hj2 hts hm0 hkj0 hah0 hy hmo hkj hah hkjs hBW hsp2 his2 hql HJ hq
            have q1c := cell_blk v1
            have q1f := frz_blk v1
            have q4c := cell_blk v4
            have q4f := frz_blk v4
            have q8c := cell_blk v8
            have q8f := frz_blk v8
            have q9c := cell_blk v9
            have q9f := frz_blk v9
            rw [← HJJ.out]
            gi_step
            gi_step
            gi_step
            refine round_region_ev [] [0, 1, 2, 3, 4, 5, 6, 7, 8, 9, 10, 11, 12, 13, 14, 15, 16, 17, 18, 19, 20, 21, 22, 23] [(24, 15, some 25)] [26] (by kernel_rfl) (by rintro ⟨a_, w_, h_⟩; exact h_) (by kernel_rfl) (by kernel_rfl) (by intro c a d v w h; cases d <;> exact h) ?_
            simp only [picks, List.drop_succ_cons, List.drop_zero]
            repeat (refine wpQ0_step (fun K hK => ?_); go_simp; (refine hK _ ?_; clear hK K))
            refine wpQ0_nil ?_
            repeat (refine wpQ2_step (fun K hK => ?_); go_simp; first | (refine hK _ ?_; clear hK K) | (apply Exists.intro; refine ⟨fun x => ?_, hK _ ?_⟩; (first | (with_reducible exact HKj.out x.1 x.2) | (with_reducible exact HAj.out x.1 x.2) | (with_reducible exact HMj.out x.1)); clear hK K))
            refine wpQ2_nil ?_
            refine Events.fill1 (fun b => .pointer (some ⟨b, 0, none⟩)) (Obj.cells #[.int .i64 0, .int .i64 0] 28) (Obj.cells #[.int .i64 sp2.lo, .int .i64 sp2.hi] 28) ⟨_, rfl, rfl, rfl, fun W => by kernel_rfl⟩ ⟨_, rfl, rfl, rfl, fun b W hb => ?_⟩ fun b15 w7 hb15 hg7 nb15 => ?_
            · have hbc := cell_blk hb; have hbf := frz_blk hb; go_simp; exact turn_two hb _ _
            simp only [picks, List.drop_succ_cons, List.drop_zero]
            have hS7 : SInv wr b9 (w5.heap.size + 1) (w5.heap.size + 1 + 1) kpj a4 st.good.length cp4 (-1) w7 := ⟨HS.out.x.trans (Below.mono hg7 HS.out.x.size), hg7.blk HS.out.want, hg7.blk HS.out.by_, hg7.blk HS.out.box⟩
            have HK7 := Lib.hid (keeps_below hg7)
            have k12 := hS7.by_
            have HS7 := Lib.hid hS7
            clear q1c q1f q4c q4f q8c q8f q9c q9f v1 v4 v8 v9 v12 s0 s1 s2 hg7 hS7
            have q12c := cell_blk k12
            have q12f := frz_blk k12
            go_wp2_with (fail)
            cases is2
            case true =>
              repeat (first | go_values | gi_guarded | gi_step | gi_upon | gi_in)
              refine ⟨HK7.out, HS7.out, fun m h1 h2 => ?_⟩
              rcases Nat.lt_or_ge m (st.good.length - t) with h | h
              · have e1 : m = ix t := by rw [HIX.out]; omega
                rw [e1, ← HEL.out, ← HJJ.out]; exact HBAD.out
              · exact HALL.out m h h2
            case false =>
              repeat (first | go_values | gi_guarded | gi_step | gi_upon | gi_in)
              have hb9' : b9 < w5.heap.size := hz9'
              refine ⟨HK7.out.trans (KeepsOthers.setCell _ _ _), rfl, ⟨show Below wr.heap.size wr _ from below_set HS7.out.x (by omega), blk_set_ne HS7.out.want (by omega), ?_, blk_set_ne HS7.out.box (by omega)⟩, ?_, fun m h1 h2 => HALL.out m (by rw [HIX.out] at h1; omega) h2⟩
              · rw [← HJJ.out]; exact Eq.trans (blk_set HS7.out.by_ _ _) rfl
              · rw [← HJJ.out]; exact HBAD.out
          case fin =>
            intro W2 hW2
            obtain ⟨by_, hS2, hby⟩ : ∃ by_, SInv wr b9 (w5.heap.size + 1) (w5.heap.size + 1 + 1) kpj a4 st.good.length cp4 by_ W2 ∧ by_ = byOf T st.good k kpj := by
              rcases hW2 with ⟨h0, hs, ha⟩ | ⟨t, ht, hs, ha⟩ | ⟨t, ht, hs, hb, ha⟩
              · exact ⟨_, hs, (byOf_none fun m hm => by omega).symm⟩
              · exact ⟨_, hs, (byOf_none fun m hm => ha m (by omega) hm).symm⟩
              · have h1 : ix t < st.good.length := by rw [HIX.out]; omega
                refine ⟨_, hs, ?_⟩
                rw [byOf_hit h1 (by rw [← HEL.out]; exact hb) ha, HEL.out]
            subst ha1
            have hE2 := hS2.x
            have v5 := hE2.blk HR55.out; have v3 := hE2.blk HR3.out; have v12 := hS2.by_
            have ov := (Below.cell hE2 (cell_lt ho)).trans ho
            have HE2 := Lib.hid hE2; have HBY := Lib.hid hby
            clear hS2 hby hW2 hE2 ho hql HJ hq HIT HIX HEL
            have q5c := cell_blk v5
            have q5f := frz_blk v5
            have q3c := cell_blk v3
            have q3f := frz_blk v3
            have q12c := cell_blk v12
            have q12f := frz_blk v12
            repeat (first | go_values | gi_guarded | gi_step | gi_upon | gi_in)
            refine round_region_ev [] [0, 1, 2, 3, 4, 5] [(6, 119, none)] [7, 8] (by kernel_rfl) (by rintro ⟨a_, w_, h_⟩; exact h_) (by kernel_rfl) (by kernel_rfl) (by intro c a d v w h; cases d <;> exact h) ?_
            simp only [picks, List.drop_succ_cons, List.drop_zero]
            repeat (refine wpQ0_step (fun K hK => ?_); go_simp; (refine hK _ ?_; clear hK K))
            refine wpQ0_nil ?_
            repeat (refine wpQ2_step (fun K hK => ?_); go_simp; first | (refine hK _ ?_; clear hK K) | (apply Exists.intro; refine ⟨fun x => ?_, hK _ ?_⟩; (fail); clear hK K))
            refine wpQ2_nil ?_
            refine Events.lay1 (fun b => .slice (some ⟨b, 0, none⟩) 1 1) (.cells #[.int .i64 (j : Int), .int .i64 by_] 65 (0, 0)) ⟨_, rfl, rfl, rfl, fun W => by kernel_rfl⟩ fun bq wx hbq hgx nbq => ?_
            simp only [picks, List.drop_succ_cons, List.drop_zero]
            clear q5c q5f q3c q3f q12c q12f
            have hEx : Ext2 wr wx := HE2.out.trans (Below.mono hgx HE2.out.size)
            have y3 := hgx.blk v3
            have hzx := hEx.size
            have hsl := HOK.out.slen
            go_wp2_with (at_builtin; refine app_one [.int .i64 (j : Int), .int .i64 by_] elStrike rfl _ _ rfl (n1 + 7) rfl (HO6.out.below hEx) bq 1 rfl nbq (by simp [Value.oneCell']) (by omega) (by omega) ?_; intro v' w7 hO7 hg7; obtain ⟨⟨a', cp'⟩, rfl, -⟩ := hO7.sl; dsimp only at hO7; have u3 := app_keeps (HO6.out.below hEx) hg7 y3 (by omega); have u3c := cell_blk u3; have u3f := frz_blk u3)
            have hOx := HO6.out.below hEx
            have y5 := hgx.blk v5
            have u5 := app_keeps hOx hg7 y5 (by omega)
            have hszx : n0 ≤ wx.heap.size := by have := HFR.out.b.size; have := HFR.out.n; omega
            have hVT := HVR.out.strike (y := ⟨(j : Int), by_⟩) hnn hEx HO6.out hO7 hg7
            have hFT := ((HFR.out.ext hEx (by have := HFR.out.n; omega)).app (Nat.le_refl _) hOx hg7 hszx).set (g := n0 + 1 + 1) (o := 0) (v := .slice a' (st.struck.length + 1) cp') (.inr (.inl rfl)) (.inl (by omega))
            have h8T : (w7.setCell ⟨n0 + 1 + 1, 0, none⟩ (.slice a' (st.struck.length + 1) cp')).heap[b8]? = some (.cells #[.int .i64 (k : Int)] 3 (0, 0)) :=
              blk_set_ne (b' := n0 + 1 + 1) ((hg7.block b8 (blk_lt (hEx.blk H8.out)) (fun e => own_type_ne hOx (hEx.blk H8.out) (by decide) e.symm)).trans (hEx.blk H8.out)) (by omega)
            have hKT : KeepsOthers W (w7.setCell ⟨n0 + 1 + 1, 0, none⟩ (.slice a' (st.struck.length + 1) cp')) :=
              hKr.trans ((keeps_below hEx).trans ((KeepsOthers.of_grownBy hg7 (fun g o e ho => by obtain ⟨cur, hc⟩ := ownR_cells hOx e; rw [hc] at ho; cases ho; rfl)).trans (KeepsOthers.setCell _ _ _)))
            have e5 := blk_set_ne (b' := n0 + 1 + 1) (o := 0) (v := .slice a' (st.struck.length + 1) cp') u5 (show n0 + 1 + 1 ≠ n1 by omega)
            clear u5 u3 u3c u3f y3 y5 v3 v5 v12 hO7 hg7 hOx hgx nbq
            generalize w7.setCell ⟨n0 + 1 + 1, 0, none⟩ (.slice a' (st.struck.length + 1) cp') = wz at *
            have HVT := Lib.hid hVT; have HFT := Lib.hid hFT; have HKT := Lib.hid hKT
            have zm : (1 : Int) ≤ (mm : Int) := by omega
            have HB8 := Lib.hid hb8; have HOC := Lib.hid hoc; have HOCM := Lib.hid hocm
            clear hVT hFT hKT HKEEP HKEEP3 HMEET htr hb8 hz9 hz9' hb9 hl6 nbb n12 e9 hz6 hrow
            have q5c := cell_blk e5
            have q5f := frz_blk e5
            repeat (first | go_values | gi_guarded | gi_step | gi_upon | gi_in)
            go_roundw
            case rel =>
              have hmm := HMM.out
              have hoc := HOC.out
              have hv := HVT.out.setOrd (c' := c + 1) (a := if oc' = 1 then some ⟨go, c, none⟩ else some ⟨go, c + 1, none⟩) (cap := oc' - 1) hnn (fun h => ⟨by rw [if_neg (by omega)], by omega, by have := HOCM.out; omega⟩)
              rw [show T.tests.length - (c + 1) = mm - 1 by omega] at hv
              refine ⟨q + 1, HQL2.out, HFT.out.set (by omega) (.inl (by omega)), ?_, blk_set_ne h8T (by have := HB8.out; omega), HKT.out.trans (KeepsOthers.setCell _ _ _)⟩
              have e1 : stq T k (q + 1) = { st with struck := st.struck ++ [⟨(j : Int), by_⟩] } := by
                rw [HST.out, tstep, ← HKPJ.out, ← HSP.out, if_pos (by have := HISB.out; simpa using this.symm), ← HBY.out]
              rw [e1, ← Nat.add_assoc, ← HC.out]
              exact hv
            case measure =>
              rw [ordLen_eq (Eq.trans (blk_set e5 _ _) rfl), HR5.out]; omega
      · obtain rfl : q = (dayTests T k).length := by omega
        obtain ⟨c, hc⟩ : ∃ c, c = pos T (k + 1) := ⟨_, rfl⟩
        have hcl : c ≤ T.tests.length := by rw [hc]; exact pos_le (days_of HK.out) (by omega)
        have hord : c < T.tests.length → T.first + (k : Int) < (testD T.tests ((orderT T).getD c 0)).day := fun h => ord_later (days_of HK.out) hkd (by omega) h
        rw [stq_end, ← pos_succ, ← hc] at hVr
        obtain ⟨st, hst0⟩ : ∃ st, st = dusk T k := ⟨_, rfl⟩
        rw [← hst0] at hVr
        obtain ⟨_, ⟨oa', oc', r5, hoo⟩, _⟩ := id hVr
        have HVR := Lib.hid hVr; have HFR := Lib.hid hFr; have HST0 := Lib.hid hst0; have HC := Lib.hid hc
        have r4 := hFr.t
        rcases Nat.lt_or_ge c T.tests.length with hcn | hcn
        · obtain ⟨rfl, hoc, hocm⟩ := hoo hcn
          obtain ⟨j, hj⟩ : ∃ j, j = (orderT T).getD c 0 := ⟨_, rfl⟩
          have hjm : j < T.tests.length := by rw [hj]; exact order_lt hcn
          have ho := (hFr.o (by omega)).one (i := c) hcn
          rw [Nat.zero_add] at ho
          simp only [natC, ← hj] at ho
          obtain ⟨tb, toff, hta, htr⟩ := HT.out.row (by omega) (by omega)
          obtain ⟨t0, -, -⟩ := (htr.below (HN0.out ▸ hFr.b)).three (i := j) hjm
          simp only [testC] at t0
          have hlater := hord hcn
          rw [← hj] at hlater
          obtain ⟨xd, hxd⟩ : ∃ xd, xd = (testD T.tests j).day := ⟨_, rfl⟩
          rw [← hxd] at t0 hlater
          have hne : ¬ xd = T.first + (k : Int) := by omega
          have htc1 := HT.out.le
          have htc2 := HT.out.max
          obtain ⟨mm, hmm⟩ : ∃ mm, mm = T.tests.length - c := ⟨_, rfl⟩
          rw [← hmm] at r5
          have z0 : (0 : Int) < (mm : Int) := by omega
          have z00 : 0 < mm := by omega
          have z1 : (0 : Int) ≤ (j : Int) := by omega
          have z2 : (j : Int) < (T.tests.length : Int) := by omega
          have hcap : 0 < oc' := by omega
          rw [hta] at r4
          clear hta hmm hj hxd hoo hlater hord hst0 hc htr hVr hFr hjm
          have q4c := cell_blk r4
          have q4f := frz_blk r4
          have q5c := cell_blk r5
          have q5f := frz_blk r5
          have q8c := cell_blk h8
          have q8f := frz_blk h8
          gi_wp2
          refine round_region_ev [] [0, 1, 2, 3, 4, 5, 6, 7, 8, 9, 10, 11, 12, 13, 14, 15, 16, 17] [] [] (by kernel_rfl) (by rintro ⟨a_, w_, h_⟩; exact h_) (by kernel_rfl) (by kernel_rfl) (by intro c a d v w h; cases d <;> exact h) ?_
          simp only [picks, List.drop_succ_cons, List.drop_zero]
          repeat (refine wpQ0_step (fun K hK => ?_); go_simp; (refine hK _ ?_; clear hK K))
          refine wpQ0_nil ?_
          repeat (refine wpQ2_step (fun K hK => ?_); go_simp; first | (refine hK _ ?_; clear hK K) | (apply Exists.intro; refine ⟨fun x => ?_, hK _ ?_⟩; (fail); clear hK K))
          refine wpQ2_nil ?_
          refine Events.none_ fun w3 hg3 => ?_
          simp only [picks, List.drop_succ_cons, List.drop_zero]
          clear q4c q4f q5c q5f q8c q8f r4 r5 h8 ho t0
          have hE3 : Ext2 wr w3 := hg3
          obtain ⟨r7, _, _, _, ⟨v8, r2, hO8⟩⟩ := id HVR.out
          obtain ⟨⟨a8, cp8⟩, rfl, -⟩ := hO8.sl
          dsimp only at hO8 r2
          have hfk : st.now = fwd T k := by rw [HST0.out]; rfl
          have x2 := hE3.blk r2; have x7 := hE3.blk r7
          have HO8 := Lib.hid hO8; have HFK := Lib.hid hfk
          have h7 : n1 + 7 ≤ wr.heap.size := by have := blk_lt HFR.out.m.j; omega
          have hz3 := hE3.size
          clear hO8 hfk r7 r2 hg3
          have q2c := cell_blk x2
          have q2f := frz_blk x2
          have q7c := cell_blk x7
          have q7f := frz_blk x7
          go_wp2_with (fail)
          repeat (first | (refine round_region_list (by kernel_rfl) (by rintro ⟨a_, w_, h_⟩; exact h_) ?_) | go_values | gi_guarded | gi_step)
          go_wp2_with (at_builtin; refine app_one [.int .i64 st.now.lo, .int .i64 st.now.hi] elSpan rfl _ _ rfl (n1 + 7) rfl ((HO8.out.below hE3).below (below_alloc' _ _)) _ 1 rfl (blk_new' _ _ (by simp)) (by simp [Value.oneCell']) (by omega) (by simp; omega) ?_; intro v' w7 hO7 hg7; obtain ⟨⟨a', cp'⟩, rfl, -⟩ := hO7.sl; dsimp only at hO7; have u2 := app_keeps ((HO8.out.below hE3).below (below_alloc' _ _)) hg7 (blk_alloc x2 _) (by omega); have u2c := cell_blk u2; have u2f := frz_blk u2)
          have hE4 : Ext2 wr (w3.alloc (.cells #[.int .i64 st.now.lo, .int .i64 st.now.hi] 28 (0, 0))) := Ext2.cr _ _ _ hE3 (below_alloc' _ _)
          have hVT := HVR.out.row hnn hE4 HO8.out HFK.out hO7 hg7
          have hFT := ((HFR.out.ext hE4 (by have := HFR.out.n; omega)).app (Nat.le_refl _) (HO8.out.below hE4) hg7 (by have := hE4.size; have := HFR.out.n; omega)).set (g := n0 + 1) (o := 0) (v := .slice a' (k + 1) cp') (.inl rfl) (.inl (by omega))
          have hKT : KeepsOthers W (w7.setCell ⟨n0 + 1, 0, none⟩ (.slice a' (k + 1) cp')) := hKr.trans ((keeps_below hE4).trans ((KeepsOthers.of_grownBy hg7 (fun g o e ho => by obtain ⟨cur, hc⟩ := ownR_cells (HO8.out.below hE4) e; rw [hc] at ho; cases ho; rfl)).trans (KeepsOthers.setCell _ _ _)))
          have HVT := Lib.hid hVT; have HFT := Lib.hid hFT; have HKT := Lib.hid hKT
          clear hVT hFT hKT hO7 hg7 u2 u2c u2f q2c q2f q7c q7f
          refine ⟨HKT.out, HFT.out, ?_⟩
          have hv := HVT.out.fresh (x := 0) (.inr (by omega))
          rw [HST0.out, HC.out] at hv
          exact hv
        · have hmm : T.tests.length - c = 0 := by omega
          rw [hmm] at r5
          clear hoo hord hst0 hc hVr hFr hmm
          have q4c := cell_blk r4
          have q4f := frz_blk r4
          have q5c := cell_blk r5
          have q5f := frz_blk r5
          have q8c := cell_blk h8
          have q8f := frz_blk h8
          gi_wp2
          refine round_region_ev [] [0, 1, 2, 3, 4, 5, 6, 7, 8, 9, 10, 11, 12, 13, 14, 15, 16, 17] [] [] (by kernel_rfl) (by rintro ⟨a_, w_, h_⟩; exact h_) (by kernel_rfl) (by kernel_rfl) (by intro c a d v w h; cases d <;> exact h) ?_
          simp only [picks, List.drop_succ_cons, List.drop_zero]
          repeat (refine wpQ0_step (fun K hK => ?_); go_simp; (refine hK _ ?_; clear hK K))
          refine wpQ0_nil ?_
          repeat ((with_reducible refine wpQ2_step (fun K hK => ?_)); go_simp; first | ((with_reducible refine hK _ ?_); clear hK K) | (apply Exists.intro; refine ⟨fun x => ?_, hK _ ?_⟩; (fail); clear hK K))
          refine wpQ2_nil ?_
          refine Events.none_ fun w3 hg3 => ?_
          simp only [picks, List.drop_succ_cons, List.drop_zero]
          clear q4c q4f q5c q5f q8c q8f r4 r5 h8
          have hE3 : Ext2 wr w3 := hg3
          obtain ⟨r7, _, _, _, ⟨v8, r2, hO8⟩⟩ := id HVR.out
          obtain ⟨⟨a8, cp8⟩, rfl, -⟩ := hO8.sl
          dsimp only at hO8 r2
          have hfk : st.now = fwd T k := by rw [HST0.out]; rfl
          have x2 := hE3.blk r2; have x7 := hE3.blk r7
          have HO8 := Lib.hid hO8; have HFK := Lib.hid hfk
          have h7 : n1 + 7 ≤ wr.heap.size := by have := blk_lt HFR.out.m.j; omega
          have hz3 := hE3.size
          clear hO8 hfk r7 r2 hg3
          have q2c := cell_blk x2
          have q2f := frz_blk x2
          have q7c := cell_blk x7
          have q7f := frz_blk x7
          go_wp2_with (fail)
          repeat (first | (refine round_region_list (by kernel_rfl) (by rintro ⟨a_, w_, h_⟩; exact h_) ?_) | go_values | gi_guarded | gi_step)
          go_wp2_with (at_builtin; refine app_one [.int .i64 st.now.lo, .int .i64 st.now.hi] elSpan rfl _ _ rfl (n1 + 7) rfl ((HO8.out.below hE3).below (below_alloc' _ _)) _ 1 rfl (blk_new' _ _ (by simp)) (by simp [Value.oneCell']) (by omega) (by simp; omega) ?_; intro v' w7 hO7 hg7; obtain ⟨⟨a', cp'⟩, rfl, -⟩ := hO7.sl; dsimp only at hO7; have u2 := app_keeps ((HO8.out.below hE3).below (below_alloc' _ _)) hg7 (blk_alloc x2 _) (by omega); have u2c := cell_blk u2; have u2f := frz_blk u2)
          have hE4 : Ext2 wr (w3.alloc (.cells #[.int .i64 st.now.lo, .int .i64 st.now.hi] 28 (0, 0))) := Ext2.cr _ _ _ hE3 (below_alloc' _ _)
          have hVT := HVR.out.row hnn hE4 HO8.out HFK.out hO7 hg7
          have hFT := ((HFR.out.ext hE4 (by have := HFR.out.n; omega)).app (Nat.le_refl _) (HO8.out.below hE4) hg7 (by have := hE4.size; have := HFR.out.n; omega)).set (g := n0 + 1) (o := 0) (v := .slice a' (k + 1) cp') (.inl rfl) (.inl (by omega))
          have hKT : KeepsOthers W (w7.setCell ⟨n0 + 1, 0, none⟩ (.slice a' (k + 1) cp')) := hKr.trans ((keeps_below hE4).trans ((KeepsOthers.of_grownBy hg7 (fun g o e ho => by obtain ⟨cur, hc⟩ := ownR_cells (HO8.out.below hE4) e; rw [hc] at ho; cases ho; rfl)).trans (KeepsOthers.setCell _ _ _)))
          have HVT := Lib.hid hVT; have HFT := Lib.hid hFT; have HKT := Lib.hid hKT
          clear hVT hFT hKT hO7 hg7 u2 u2c u2f q2c q2f q7c q7f
          refine ⟨HKT.out, HFT.out, ?_⟩
          have hv := HVT.out.fresh (x := 0) (.inr (by omega))
          rw [HST0.out, HC.out] at hv
          exact hv
end Go.Proofs.Ytfjbgcaogffiaaa
