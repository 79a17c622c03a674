/-
  temp: the temperature of a can at the beginning of an hour.
-/
import Derived.Test.YtkidicfpfknfoaaDoorVHoursM
import Derived.Test.YtkidicfpfknfoaaDoorVLeave
namespace Go.Proofs.YtkidicfpfknfoaaDoor
open Go.RowKit D
set_option linter.unusedVariables false
set_option linter.unusedSimpArgs false
attribute [local go_sem high] run_minI run_maxI
attribute [local go_sem] upon2 cls_cell cls_frozen forall_const exists_eq_left'
attribute [local go_sem] FirstUpon Oper.semAt_some
/-- Between two rounds of temp. -/
structure TmpSt (S : Site) (M : List Mv) (c h n5 n6 : Nat) (w w2 : World) (W : World) (k : Nat) : Prop where
  bel : Below w.heap.size w W
  size : w2.heap.size ≤ W.heap.size
  le : k ≤ h
  hour : W.heap[n5]? = some (.cells #[.int .i64 ((h : Int) - (k : Int))] 3 (0, 0))
  at_ : ∃ t : Span, W.heap[n6]? = some (Obj.cells #[.int .i64 t.lo, .int .i64 t.hi] 25)
theorem TmpSt.sd {S : Site} {M : List Mv} {c h n5 n6 : Nat} {w w2 W W' : World} {k B : Nat} {ts : List TypeId} (hS : TmpSt S M c h n5 n6 w w2 W k) (hs : Sd B ts W W') (hB : w.heap.size ≤ B) (l5 : n5 < B) (l6 : n6 < B) : TmpSt S M c h n5 n6 w w2 W' k := by
  obtain ⟨t, ht⟩ := hS.at_
  exact ⟨hS.bel.trans (hs.bel.mono hB), Nat.le_trans hS.size hs.bel.size, hS.le, (hs.bel.block _ l5).trans hS.hour, t, (hs.bel.block _ l6).trans ht⟩
theorem four_blk (w : World) (o1 o2 o3 o4 : Obj) : ((((w.alloc o1).alloc o2).alloc o3).alloc o4).heap[w.heap.size]? = some o1 ∧ ((((w.alloc o1).alloc o2).alloc o3).alloc o4).heap[w.heap.size + 1]? = some o2 ∧ ((((w.alloc o1).alloc o2).alloc o3).alloc o4).heap[w.heap.size + 2]? = some o3 ∧ ((((w.alloc o1).alloc o2).alloc o3).alloc o4).heap[w.heap.size + 3]? = some o4 ∧ ((((w.alloc o1).alloc o2).alloc o3).alloc o4).heap.size = w.heap.size + 4 ∧ Ext2 w ((((w.alloc o1).alloc o2).alloc o3).alloc o4) := by
  have s1 := World.size_alloc w o1; have s2 := World.size_alloc (w.alloc o1) o2; have s3 := World.size_alloc ((w.alloc o1).alloc o2) o3; have s4 := World.size_alloc (((w.alloc o1).alloc o2).alloc o3) o4
  have n2 := World.alloc_heap_new (w.alloc o1) o2
  have n3 := World.alloc_heap_new ((w.alloc o1).alloc o2) o3
  have n4 := World.alloc_heap_new (((w.alloc o1).alloc o2).alloc o3) o4
  rw [s1] at n2; rw [s2, s1] at n3; rw [s3, s2, s1] at n4
  exact ⟨blk_alloc (blk_alloc (blk_alloc (blk_new w _) _) _) _, blk_alloc (blk_alloc n2 _) _, blk_alloc n3 _, n4, by omega, ext_trans (ext_trans (ext_trans (below_alloc' _ _) (below_alloc' _ _)) (below_alloc' _ _)) (below_alloc' _ _)⟩
def tmpT (n5 n6 : Nat) (g : Nat) (_ : TypeId) : Prop := g = n5 ∨ g = n6
set_option maxRecDepth 100000 in
set_option maxHeartbeats 8000000 in
theorem vtemp_any {S : Site} {s : SSl} {b : Nat} {M : List Mv} {k : Sl} {c h : Nat} {w : World} (hV : VltAt w S s b M k) (hC : Chk S) (hM : ∀ m ∈ M, mvE S m = 0) (hso : SortH M) (hc : c < S.cans.length) (hml : M.length ≤ 60) (hh : h ≤ 2400) :
    Calls Tryd.prog 68 #[.pointer (some ⟨b, 0, none⟩), .int .i64 (c : Int), .int .i64 (h : Int)] w fun e w' => e = .returned (.agg #[.int .i64 (ownT S M c h).lo, .int .i64 (ownT S M c h).hi]) ∧ Below w.heap.size w w' := by
  have HV := Lib.hid hV; have HC := Lib.hid hC; have HM := Lib.hid hM; have HSO := Lib.hid hso
  clear hV hC hM hso
  refine calls_of_wp_marks Tryd.func68 rfl ?_
  simp only [Tryd.ntmps68, List.size_toArray, List.length_cons, List.length_nil, Nat.reduceAdd, Nat.reduceSub, Array.replicate_succ, Array.replicate_zero, List.push_toArray, List.append_toArray, List.nil_append, List.cons_append]
  go_wp2_with (fail)
  refine (hours_any _ _ _).mono ?_
  rintro e w1 ⟨rfl, hw1⟩
  obtain ⟨n5, hn5⟩ : ∃ n, n = w.heap.size := ⟨_, rfl⟩
  obtain ⟨n6, hn6⟩ : ∃ n, n = n5 + 1 := ⟨_, rfl⟩
  obtain ⟨b1, hb1⟩ : ∃ n, n = n6 + 1 := ⟨_, rfl⟩
  obtain ⟨b2, hb2⟩ : ∃ n, n = b1 + 1 := ⟨_, rfl⟩
  have hE1 : Ext2 w w1 := by rw [hw1]; exact (four_blk w _ _ _ _).2.2.2.2.2
  have x5 : w1.heap[n5]? = some (.cells #[.int .i64 (h : Int)] 3 (0, 0)) := by
    rw [hw1, hn5]; exact (four_blk w _ _ _ _).1
  have x6 : w1.heap[n6]? = some (Obj.cells #[.int .i64 (⟨0, 0⟩ : Span).lo, .int .i64 (⟨0, 0⟩ : Span).hi] 25) := by
    rw [hw1, hn6, hn5]; exact (four_blk w _ _ _ _).2.1
  have y1 : w1.heap[b1]? = some (.cells #[.pointer (some ⟨b, 0, none⟩)] 128 (0, 0)) := by
    rw [hw1, hb1, hn6, hn5]; exact (four_blk w _ _ _ _).2.2.1
  have y2 : w1.heap[b2]? = some (.cells #[.int .i64 (c : Int)] 3 (0, 0)) := by
    rw [hw1, hb2, hb1, hn6, hn5]; exact (four_blk w _ _ _ _).2.2.2.1
  have hsz : w1.heap.size = n5 + 4 := by rw [hw1, hn5]; simp
  simp only [World.size_alloc]
  rw [← hn5, ← hn6, ← hb1, ← hb2]
  have hm : HrAt S s b M k b1 b2 c w1 := ⟨y1, y2, HV.out.below hE1⟩
  have HH := Lib.hid hm
  have HE1 := Lib.hid hE1
  have lw : w.heap.size ≤ n5 := by omega
  have l56 : n5 < n6 := by omega
  have l6b : n6 < b1 := by omega
  have lb12 : b1 < b2 := by omega
  have lb2 : b2 < w1.heap.size := by omega
  clear hw1 y1 y2 hm hE1 hsz hb2 hb1 hn6 hn5
  go_wp2_with (fail)
  refine wp_aname ?_
  intro a0 ha0
  refine st_out (B9 := w1.heap.size) (gf := 85) (lb := #[.pointer (some ⟨b1, 0, none⟩), .pointer (some ⟨b2, 0, none⟩)]) (by rw [ha0]; rfl) (enters_of Tryd.func85 (by kernel_rfl) rfl) (hoursIter (s := s) (b := b) (b1 := b1) (b2 := b2) (kk := k) (B := w.heap.size) HC.out HM.out HSO.out hc hml (by omega)) (ts := tmpT n5 n6)
    (fun W1 W2 h1 h2 => h1.bw HV.out h2 (by unfold tmpT; omega) (by unfold tmpT; omega)) (fun g hg t _ => by unfold tmpT; omega) (fun _ => rfl)
    (fun j W => TmpSt S M c h n5 n6 w w1 W j)
    (fun j a' W => ∃ b9, W.heap[b9]? = some (Obj.cells #[.int .i64 (ownT S M c j).lo, .int .i64 (ownT S M c j).hi] 25) ∧ b9 ≠ n5 ∧ b9 ≠ n6 ∧ w.heap.size ≤ b9 ∧ TmpSt S M c h n5 n6 w w1 W j ∧ a' = { tmps := ((a0.tmps.setIfInBounds 11 (.agg #[.int .i64 (ownT S M c j).lo, .int .i64 (ownT S M c j).hi])).setIfInBounds 12 (.int .i64 (atV S M c (j : Int)))).setIfInBounds 7 (.pointer (some ⟨b9, 0, none⟩)), defers := [] })
    (fun cd j W => cd = .exit 0 ∧ Below w.heap.size w W ∧ w1.heap.size ≤ W.heap.size ∧ W.heap[n6]? = some (Obj.cells #[.int .i64 (ownT S M c h).lo, .int .i64 (ownT S M c h).hi] 25)) ?hI ?hJ ?hX ?hBB ?hp0 ?h0 ?h9 ?assign ?body ?done ?stop
  case hI => exact fun j W W' hs hd => hs.sd hd (by omega) (by omega) (by omega)
  case hJ =>
    rintro j a' W W' ⟨b9, h1, h2, h3, h4, h5, h6⟩ hs
    exact ⟨b9, hs.keep _ _ _ _ h1 (by decide), h2, h3, h4, h5.sd hs (by omega) (by omega) (by omega), h6⟩
  case hX =>
    rintro cd j W W' ⟨h1, h2, h3, h4⟩ hs
    exact ⟨h1, h2.trans (hs.bel.mono (by omega)), Nat.le_trans h3 hs.bel.size, (hs.bel.block _ (by omega)).trans h4⟩
  case hBB => omega
  case hp0 => exact fun W hW => HH.out.below hW
  case h0 => exact ⟨HE1.out, Nat.le_refl _, Nat.zero_le _, by simpa using x5, ⟨0, 0⟩, x6⟩
  case h9 => exact Nat.le_refl _
  case assign =>
    rintro l j W hj hi
    subst ha0
    gi_wp2
    have h6 := hi.size
    exact ⟨Bw.ext (below_alloc' _ _) (by omega), W.heap.size, blk_new _ _, by omega, by omega, by omega, hi.sd (Sd.alloc (B := W.heap.size) (ts := []) _ (Nat.le_refl _)) (by omega) (by omega) (by omega), by simp only [List.setIfInBounds_toArray, List.set_cons_succ, List.set_cons_zero]⟩
  case body =>
    rintro l j a' W hl hr hj ⟨b9, x9, n95, n96, h9, hS, rfl⟩
    subst ha0
    obtain ⟨hB, hz, hjh, x5, t, x6⟩ := hS
    simp only [List.setIfInBounds_toArray, List.set_cons_succ, List.set_cons_zero]
    have q9c := cell_blk x9
    have q9f := frz_blk x9
    have q5c := cell_blk x5
    have q5f := frz_blk x5
    have q6c := cell_blk x6
    have q6f := frz_blk x6
    have w3' : IntKind.i64.wrap ((h : Int) - (j : Int) - 1) = (h : Int) - (j : Int) - 1 := IntWalk.i64_in _ (by omega)
    by_cases hjj : j = h
    · subst hjj
      have hd : ((j : Int) - (j : Int) == 0) = true := by simp
      gi_wp2
      have x6' : ((W.setCell ⟨n6, 0, none⟩ (.int .i64 (ownT S M c j).lo)).setCell ⟨n6, 1, none⟩ (.int .i64 (ownT S M c j).hi)).heap[n6]? = some (Obj.cells #[.int .i64 (ownT S M c j).lo, .int .i64 (ownT S M c j).hi] 25) := Eq.trans (blk_set (blk_set x6 _ _) _ _) rfl
      refine ⟨⟨by simp, fun g o hg ho _ => blk_set_ne (blk_set_ne ho (by omega)) (by omega)⟩, rfl, below_set (below_set hB (by omega)) (by omega), by simpa using hz, x6'⟩
    · have hd : ((h : Int) - (j : Int) == 0) = false := by simp; omega
      gi_wp2
      have hb1 : Bw w.heap.size (tmpT n5 n6) W ((W.setCell ⟨n6, 0, none⟩ (.int .i64 (ownT S M c j).lo)).setCell ⟨n6, 1, none⟩ (.int .i64 (ownT S M c j).hi)) := (Bw.set x6 (Or.inr rfl) (by omega) _).trans (Bw.set (blk_set x6 _ _) (Or.inr rfl) (by omega) _)
      have x5' := blk_set_ne (b' := n6) (o := 1) (v := .int .i64 (ownT S M c j).hi) (blk_set_ne (b' := n6) (o := 0) (v := .int .i64 (ownT S M c j).lo) x5 (by omega)) (by omega)
      have x6' : ((W.setCell ⟨n6, 0, none⟩ (.int .i64 (ownT S M c j).lo)).setCell ⟨n6, 1, none⟩ (.int .i64 (ownT S M c j).hi)).heap[n6]? = some (Obj.cells #[.int .i64 (ownT S M c j).lo, .int .i64 (ownT S M c j).hi] 25) := Eq.trans (blk_set (blk_set x6 _ _) _ _) rfl
      have hb2 := hb1.trans (Bw.set (o := 0) x5' (Or.inl rfl) lw (.int .i64 ((h : Int) - (j : Int) - 1)))
      refine ⟨hb2, hB.trans hb2.bel, Nat.le_trans hz hb2.bel.size, by omega, ?_, ownT S M c j, blk_set_ne x6' (by omega)⟩
      refine Eq.trans (blk_set x5' _ _) ?_
      have : (h : Int) - (j : Int) - 1 = (h : Int) - ((j + 1 : Nat) : Int) := by omega
      rw [this]; rfl
  case done =>
    rintro d W hd hS hD
    exact absurd hS.le (by omega)
  case stop =>
    rintro d cd j W hd hj ⟨rfl, hB, hz, x6⟩ hD
    subst ha0
    have q6c := cell_blk x6
    have q6f := frz_blk x6
    go_wp2_with (fail)
    have hb2 := below_set (o := 1) (v := .int .i64 (ownT S M c h).hi) (below_set (o := 0) (v := .int .i64 (ownT S M c h).lo) hB (show w.heap.size ≤ n6 by omega)) (show w.heap.size ≤ n6 by omega)
    have x6' : ((W.setCell ⟨n6, 0, none⟩ (.int .i64 (ownT S M c h).lo)).setCell ⟨n6, 1, none⟩ (.int .i64 (ownT S M c h).hi)).heap[n6]? = some (Obj.cells #[.int .i64 (ownT S M c h).lo, .int .i64 (ownT S M c h).hi] 25) := Eq.trans (blk_set (blk_set x6 _ _) _ _) rfl
    have hD' := blk_set_ne (b' := n6) (o := 1) (v := .int .i64 (ownT S M c h).hi) (blk_set_ne (b' := n6) (o := 0) (v := .int .i64 (ownT S M c h).lo) hD (by omega)) (by omega)
    generalize (W.setCell ⟨n6, 0, none⟩ (.int .i64 (ownT S M c h).lo)).setCell ⟨n6, 1, none⟩ (.int .i64 (ownT S M c h).hi) = wz at *
    refine leaveM_take (by simp) hD' ?_
    have z6 := blk_put (d := d) (o := .deferred none) x6' (by omega)
    have zc := cell_blk z6
    refine ⟨_, ?_, rfl, below_put hb2 (by omega)⟩
    simp [results, Tryd.results68, go_sem, zc]
end Go.Proofs.YtkidicfpfknfoaaDoor
