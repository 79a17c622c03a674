/-
  common, total.add, group.some.
-/
import Derived.Test.YtapeakbngligaaaGreatDoorBView
import Derived.Test.YtapeakbngligaaaGreatDoorBCut
import Derived.Test.YtapeakbngligaaaGreatDoorBPlA
namespace Go.Proofs.YtapeakbngligaaaGreatDoor
open Go.RowKit D
set_option linter.unusedVariables false
set_option linter.unusedSimpArgs false
attribute [local go_sem high] run_minI run_maxI
attribute [local go_sem] upon2 cls_cell cls_frozen forall_const exists_eq_left'
attribute [local go_sem] FirstUpon atBlk_cell
set_option maxRecDepth 100000 in
set_option maxHeartbeats 2000000 in
theorem common_any (a b : Span) (w : World) : Calls Tryz.prog 41 #[.agg #[.int .i64 a.lo, .int .i64 a.hi], .agg #[.int .i64 b.lo, .int .i64 b.hi]] w fun e w' => e = .returned (.tuple #[.agg #[.int .i64 (comS a b).lo, .int .i64 (comS a b).hi], .bool (decide ((comS a b).lo ≤ (comS a b).hi))]) ∧ Below w.heap.size w w' := by
  obtain ⟨L, hL⟩ : ∃ L, L = max a.lo b.lo := ⟨_, rfl⟩
  obtain ⟨H, hH⟩ : ∃ H, H = min a.hi b.hi := ⟨_, rfl⟩
  have e : comS a b = ⟨L, H⟩ := by rw [hL, hH]; rfl
  rw [e]
  dsimp only
  clear e
  go_enter Tryz.func41, Tryz.ntmps41
  go_upto_region 1 with (fail)
  refine wp_name ?_
  intro w3 hw3
  obtain ⟨n2, hn2⟩ : ∃ n, n = w.heap.size := ⟨_, rfl⟩
  obtain ⟨n3, hn3⟩ : ∃ n, n = n2 + 1 := ⟨_, rfl⟩
  obtain ⟨n4, hn4⟩ : ∃ n, n = n3 + 1 := ⟨_, rfl⟩
  have x2 : w3.heap[n2]? = some (Obj.cells #[.int .i64 a.lo, .int .i64 a.hi] 23) := by rw [hw3, hn2]; exact blk_alloc (blk_alloc (blk_new _ _) _) _
  have x3 : w3.heap[n3]? = some (Obj.cells #[.int .i64 b.lo, .int .i64 b.hi] 23) := by rw [hw3, hn3, hn2]; exact blk_alloc (blk_new' _ _ (by simp)) _
  have x4 : w3.heap[n4]? = some (Obj.cells #[.int .i64 (0), .int .i64 (0)] 23) := by rw [hw3, hn4, hn3, hn2]; exact blk_new' _ _ (by simp)
  have hE3 : Ext2 w w3 := by rw [hw3]; exact ext_trans (ext_trans (below_alloc' _ _) (below_alloc' _ _)) (below_alloc' _ _)
  have hl4 : w.heap.size ≤ n4 := by omega
  have l34 : n4 < w3.heap.size := blk_lt x4
  rw [← hn2, ← hn3, ← hn4]
  have HE3 := Lib.hid hE3
  clear hw3 hn2 hn3 hn4 hE3
  have q2c := cell_blk x2
  have q2f := frz_blk x2
  have q3c := cell_blk x3
  have q3f := frz_blk x3
  go_upto_region 2 with (fail)
  rw [← hL, ← hH]
  clear q2c q2f q3c q3f hL hH
  refine wp_name ?_
  intro w5 hw5
  obtain ⟨n6, hn6⟩ : ∃ n, n = w3.heap.size := ⟨_, rfl⟩
  have x6 : w5.heap[n6]? = some (Obj.cells #[.int .i64 (L), .int .i64 (H)] 23) := by rw [hw5, hn6]; exact blk_new _ _
  have hE5 : Ext2 w3 w5 := by rw [hw5]; exact below_alloc' _ _
  have x4 := hE5.blk x4
  have HE5 := Lib.hid (ext_trans HE3.out hE5)
  have l46 : n4 < n6 := by omega
  rw [← hn6]
  clear hw5 hn6 hE5 HE3 x2 x3 l34
  have HX4 := Lib.hid x4; have HX6 := Lib.hid x6
  clear x4
  have q6c := cell_blk x6
  have q6f := frz_blk x6
  haveI hcls : Nonempty (Cls (AtBlk n6 #[.int .i64 L, .int .i64 H] 23)) := ⟨⟨w5, x6⟩⟩
  refine region_evH (AtBlk n6 #[.int .i64 L, .int .i64 H] 23) [1, 2, 3, 4, 5] [0] [] [6, 7] (AtBlk.ext x6) (by kernel_rfl) (by kernel_rfl) (by intro c a d v w h; cases d <;> exact h) ?_
  simp only [picks, List.drop_succ_cons, List.drop_zero]
  repeat (refine wpQS_step (fun K hK => ?_); go_simp; (refine hK _ ?_; clear hK K))
  refine wpQS_nil ?_
  repeat ((with_reducible refine wpQ2_step (fun K hK => ?_)); go_simp; first | ((with_reducible refine hK _ ?_); clear hK K) | (apply Exists.intro; refine ⟨fun x => ?_, hK _ ?_⟩; (fail); clear hK K))
  refine wpQ2_nil ?_
  refine EventsH.none_ fun w6 hE6 => ?_
  simp only [picks, List.drop_succ_cons, List.drop_zero]
  have x4 := hE6.blk HX4.out; have x6 := hE6.blk HX6.out
  have HE6 := Lib.hid (ext_trans HE5.out hE6)
  clear q6c q6f hE6
  have q4c := cell_blk x4
  have q4f := frz_blk x4
  refine wpListH_cons ?_
  go_wp2_with (fail)
  have x6' := blk_set_ne (b' := n4) (o := 1) (v := .int .i64 H) (blk_set_ne (b' := n4) (o := 0) (v := .int .i64 L) x6 (by omega)) (by omega)
  refine ⟨x6', wpListH_cons ?_⟩
  go_wp2_with (fail)
  refine ⟨x6', wpListH_nil ?_⟩
  go_wp2_with (fail)
  have r1 : ((w6.setCell ⟨n4, 0, none⟩ (.int .i64 L)).setCell ⟨n4, 1, none⟩ (.int .i64 H)).heap[n4]? = some (Obj.cells #[.int .i64 (L), .int .i64 (H)] 23) := Eq.trans (blk_set (blk_set x4 _ _) _ _) rfl
  refine bodyPost_ret (v := .tuple #[.agg #[.int .i64 L, .int .i64 H], .bool (decide (L ≤ H))]) ?_ rfl ⟨rfl, below_set (below_set HE6.out hl4) hl4⟩
  have zc := cell_blk r1
  have zf := frz_blk r1
  simp [results, Tryz.results41, go_sem, zc]
set_option maxRecDepth 100000 in
set_option maxHeartbeats 2000000 in
theorem add_any {lo hi : Int} {s : Span} {bt : Nat} {w : World} (hb : w.heap[bt]? = some (.cells #[.int .i64 lo, .int .i64 hi] 126 (0, 0))) (h1 : -1000000000000000 ≤ lo + s.lo ∧ lo + s.lo ≤ 1000000000000000) (h2 : -1000000000000000 ≤ hi + s.hi ∧ hi + s.hi ≤ 1000000000000000) :
    Calls Tryz.prog 51 #[.pointer (some ⟨bt, 0, none⟩), .agg #[.int .i64 s.lo, .int .i64 s.hi]] w fun e w' => e = .returned (.tuple #[]) ∧ w'.heap[bt]? = some (.cells #[.int .i64 (lo + s.lo), .int .i64 (hi + s.hi)] 126 (0, 0)) ∧ Bx bt w w' := by
  have w1' : IntKind.i64.wrap (lo + s.lo) = lo + s.lo := IntWalk.i64_in _ (by omega)
  have w2' : IntKind.i64.wrap (hi + s.hi) = hi + s.hi := IntWalk.i64_in _ (by omega)
  have hlt := blk_lt hb
  have HB := Lib.hid hb
  obtain ⟨P, hP⟩ : ∃ P, P = lo + s.lo := ⟨_, rfl⟩
  obtain ⟨Q, hQ⟩ : ∃ Q, Q = hi + s.hi := ⟨_, rfl⟩
  rw [← hP] at w1' ⊢; rw [← hQ] at w2' ⊢
  have v1' : wrap64 (lo + s.lo) = P := by rw [hP]; exact IntWalk.wrap64_in _ (by omega)
  have v2' : wrap64 (hi + s.hi) = Q := by rw [hQ]; exact IntWalk.wrap64_in _ (by omega)
  clear hb h1 h2 hP hQ
  go_enter Tryz.func51, Tryz.ntmps51
  go_upto_region 1 with (fail)
  refine wp_name ?_
  intro w3 hw3
  obtain ⟨n3, hn3⟩ : ∃ n, n = w.heap.size := ⟨_, rfl⟩
  have x3 : w3.heap[n3]? = some (Obj.cells #[.int .i64 s.lo, .int .i64 s.hi] 23) := by rw [hw3, hn3]; exact blk_new _ _
  have hE3 : Ext2 w w3 := by rw [hw3]; exact below_alloc' _ _
  have xb := hE3.blk HB.out
  have HE3 := Lib.hid hE3; have XB := Lib.hid xb
  have lb3 : bt < n3 := by omega
  rw [← hn3]
  have hS : AtBlk n3 #[.int .i64 s.lo, .int .i64 s.hi] 23 w3 := x3
  haveI hcls : Nonempty (Cls (AtBlk n3 #[.int .i64 s.lo, .int .i64 s.hi] 23)) := ⟨⟨w3, hS⟩⟩
  clear hw3 hn3 hE3 xb x3
  refine region_treeU (AtBlk n3 #[.int .i64 s.lo, .int .i64 s.hi] 23) (.flt [0, 1, 2, 3, 4, 6, 7, 9, 10, 11, 13, 14] (.two 5 (.flt [8] (.one 12 (.flt [15, 16, 17] (.one 18 (.flt [19, 20] (.one 21 .leaf)))))) 12 (.flt [15] (.one 5 (.flt [8, 16, 17] (.one 18 (.flt [19, 20] (.one 21 .leaf)))))))) (AtBlk.ext hS) (by kernel_rfl) (by kernel_rfl) (by intro c a d v w h; cases d <;> exact h) ?_
  intro u0 hE
  have xb := Ext2.blk hE XB.out
  have hSu := AtBlk.ext hS _ hE
  have HE0 := Lib.hid (ext_trans HE3.out hE)
  clear hE
  refine wpU_flt ?_
  simp only [picks, List.drop_succ_cons, List.drop_zero]
  repeat ((with_reducible refine wpQS_step (fun K hK => ?_)); go_simp; ((with_reducible refine hK _ ?_); clear hK K))
  (with_reducible refine wpQS_nil ?_)
  have qbc := cell_blk xb
  have qbf := frz_blk xb
  refine wpU_two ?_ ?_
  · simp only [picks, List.drop_succ_cons, List.drop_zero]
    go_wp2_with (fail)
    refine ⟨hSu, ?_⟩
    refine wpU_flt ?_
    simp only [picks, List.drop_succ_cons, List.drop_zero]
    repeat ((with_reducible refine wpQS_step (fun K hK => ?_)); go_simp; ((with_reducible refine hK _ ?_); clear hK K))
    (with_reducible refine wpQS_nil ?_)
    refine wpU_one ?_
    simp only [picks, List.drop_succ_cons, List.drop_zero]
    go_wp2_with (fail)
    refine ⟨hSu, ?_⟩
    refine wpU_flt ?_
    simp only [picks, List.drop_succ_cons, List.drop_zero]
    repeat ((with_reducible refine wpQS_step (fun K hK => ?_)); go_simp; ((with_reducible refine hK _ ?_); clear hK K))
    (with_reducible refine wpQS_nil ?_)
    refine wpU_one ?_
    simp only [picks, List.drop_succ_cons, List.drop_zero]
    go_wp2_with (fail)
    refine andU_name (fun u1 hu1 => ?_)
    have xb1 : u1.heap[bt]? = some (.cells #[.int .i64 P, .int .i64 hi] 126 (0, 0)) := by
      rw [hu1, v1']; exact Eq.trans (blk_set xb 0 _) rfl
    have hS1 : AtBlk n3 #[.int .i64 s.lo, .int .i64 s.hi] 23 u1 := by rw [hu1]; exact blk_set_ne hSu (by omega)
    have hB1 : Bx bt w u1 := by rw [hu1]; exact (Bx.ext HE0.out).trans (Bx.set _)
    have HB1 := Lib.hid hB1
    clear hu1 qbc qbf xb hSu hB1
    refine ⟨hS1, ?_⟩
    have qbc := cell_blk xb1
    have qbf := frz_blk xb1
    refine wpU_flt ?_
    simp only [picks, List.drop_succ_cons, List.drop_zero]
    repeat ((with_reducible refine wpQS_step (fun K hK => ?_)); go_simp; ((with_reducible refine hK _ ?_); clear hK K))
    (with_reducible refine wpQS_nil ?_)
    refine wpU_one ?_
    simp only [picks, List.drop_succ_cons, List.drop_zero]
    go_wp2_with (fail)
    rw [v2']
    have xb2 : (u1.setCell ⟨bt, 1, none⟩ (.int .i64 Q)).heap[bt]? = some (.cells #[.int .i64 P, .int .i64 Q] 126 (0, 0)) := Eq.trans (blk_set xb1 1 _) rfl
    refine ⟨blk_set_ne hS1 (by omega), wpU_leaf ?_⟩
    go_wp2_with (fail)
    go_end0
    exact ⟨rfl, xb2, HB1.out.trans (Bx.set _)⟩
  · simp only [picks, List.drop_succ_cons, List.drop_zero]
    go_wp2_with (fail)
    refine ⟨hSu, ?_⟩
    refine wpU_flt ?_
    simp only [picks, List.drop_succ_cons, List.drop_zero]
    repeat ((with_reducible refine wpQS_step (fun K hK => ?_)); go_simp; ((with_reducible refine hK _ ?_); clear hK K))
    (with_reducible refine wpQS_nil ?_)
    refine wpU_one ?_
    simp only [picks, List.drop_succ_cons, List.drop_zero]
    go_wp2_with (fail)
    refine ⟨hSu, ?_⟩
    refine wpU_flt ?_
    simp only [picks, List.drop_succ_cons, List.drop_zero]
    repeat ((with_reducible refine wpQS_step (fun K hK => ?_)); go_simp; ((with_reducible refine hK _ ?_); clear hK K))
    (with_reducible refine wpQS_nil ?_)
    refine wpU_one ?_
    simp only [picks, List.drop_succ_cons, List.drop_zero]
    go_wp2_with (fail)
    refine andU_name (fun u1 hu1 => ?_)
    have xb1 : u1.heap[bt]? = some (.cells #[.int .i64 P, .int .i64 hi] 126 (0, 0)) := by
      rw [hu1, v1']; exact Eq.trans (blk_set xb 0 _) rfl
    have hS1 : AtBlk n3 #[.int .i64 s.lo, .int .i64 s.hi] 23 u1 := by rw [hu1]; exact blk_set_ne hSu (by omega)
    have hB1 : Bx bt w u1 := by rw [hu1]; exact (Bx.ext HE0.out).trans (Bx.set _)
    have HB1 := Lib.hid hB1
    clear hu1 qbc qbf xb hSu hB1
    refine ⟨hS1, ?_⟩
    have qbc := cell_blk xb1
    have qbf := frz_blk xb1
    refine wpU_flt ?_
    simp only [picks, List.drop_succ_cons, List.drop_zero]
    repeat ((with_reducible refine wpQS_step (fun K hK => ?_)); go_simp; ((with_reducible refine hK _ ?_); clear hK K))
    (with_reducible refine wpQS_nil ?_)
    refine wpU_one ?_
    simp only [picks, List.drop_succ_cons, List.drop_zero]
    go_wp2_with (fail)
    rw [v2']
    have xb2 : (u1.setCell ⟨bt, 1, none⟩ (.int .i64 Q)).heap[bt]? = some (.cells #[.int .i64 P, .int .i64 Q] 126 (0, 0)) := Eq.trans (blk_set xb1 1 _) rfl
    refine ⟨blk_set_ne hS1 (by omega), wpU_leaf ?_⟩
    go_wp2_with (fail)
    go_end0
    exact ⟨rfl, xb2, HB1.out.trans (Bx.set _)⟩
theorem gp_mem {l : List Gap} {i : Nat} (h : i < l.length) : gpD l i ∈ l := by
  unfold gpD; rw [List.getD_eq_getElem?_getD, List.getElem?_eq_getElem h]; exact List.getElem_mem h
def GrpIs (g : Grp) : Prop := (-200000000 ≤ g.is.lo ∧ g.is.lo ≤ 200000000) ∧ (-200000000 ≤ g.is.hi ∧ g.is.hi ≤ 200000000)
set_option maxRecDepth 100000 in
set_option maxHeartbeats 8000000 in
theorem some_any {g : Grp} {s : Sl} {fn : Nat} {lb : Array Value} {p : Gap → Bool} {w : World} (hs : GapsS w s g.gaps) (hi : ∀ x ∈ g.gaps, GapIn x) (hl : g.gaps.length ≤ 200001) (hg : GrpIs g)
    (eg : ∀ args w, (callFunc fn args).run Tryz.prog w = .ok (.enter fn args) w)
    (hp : ∀ (i : Nat) (W : World), i < g.gaps.length → Ext2 w W → Calls Tryz.prog fn (#[.agg #[.int .i64 (gpD g.gaps i).frame, .int .i64 (gpD g.gaps i).kind, .int .i64 (gpD g.gaps i).lo, .int .i64 (gpD g.gaps i).hi]] ++ lb) W fun e w' => e = .returned (.bool (p (gpD g.gaps i))) ∧ Below W.heap.size W w') :
    Calls Tryz.prog 26 #[.agg #[.slice s.a g.gaps.length s.cap, .int .i64 g.is.lo, .int .i64 g.is.hi], .func (.func fn) #[] lb] w fun e w' => e = .returned (.tuple #[.agg #[.int .i64 (partG g p).lo, .int .i64 (partG g p).hi], .bool (decide ((partG g p).lo ≤ (partG g p).hi))]) ∧ Below w.heap.size w w' := by
  have HP := Lib.hid hp; have HS := Lib.hid hs; have HI := Lib.hid hi
  have hc := hs.le; have hm := hs.max
  obtain ⟨sa, sc⟩ := s
  dsimp only at hc hm
  obtain ⟨l, is⟩ := g
  obtain ⟨il, ih⟩ := is
  unfold GrpIs at hg
  dsimp only at hc hl hg HP HS HI ⊢
  obtain ⟨n, hn⟩ : ∃ n, n = l.length := ⟨_, rfl⟩
  rw [← hn] at hc hl ⊢
  have HN := Lib.hid hn
  have hPin : ∀ (q : Gap → Bool) (k : Nat), (0 ≤ (endsS ((l.take k).filter q)).lo ∧ (endsS ((l.take k).filter q)).lo ≤ 80000400000) ∧ (0 ≤ (endsS ((l.take k).filter q)).hi ∧ (endsS ((l.take k).filter q)).hi ≤ 80000400000) := fun q k => by
    refine ends_in' (fun x hx => HI.out x (List.mem_of_mem_take (List.mem_filter.1 hx).1)) ?_
    have h1 := List.length_filter_le q (l.take k)
    have h2 : (l.take k).length ≤ l.length := by rw [List.length_take]; omega
    have := HN.out; omega
  have HPIN := Lib.hid hPin
  obtain ⟨V, hV⟩ : ∃ V, V = partG ⟨l, ⟨il, ih⟩⟩ p := ⟨_, rfl⟩
  rw [← hV]
  have HV := Lib.hid hV
  clear hp hs hi hn hPin hV
  go_enter Tryz.func26, Tryz.ntmps26
  go_upto_region 3 with (fail)
  refine wp_name ?_
  intro w3 hw3
  obtain ⟨n2, hn2⟩ : ∃ n, n = w.heap.size := ⟨_, rfl⟩
  obtain ⟨n4, hn4⟩ : ∃ n, n = n2 + 1 := ⟨_, rfl⟩
  obtain ⟨n6, hn6⟩ : ∃ n, n = n4 + 1 := ⟨_, rfl⟩
  obtain ⟨n7, hn7⟩ : ∃ n, n = n6 + 1 := ⟨_, rfl⟩
  have hf := four_blk w (.cells #[.slice sa n sc, .int .i64 il, .int .i64 ih] 91 (0, 0)) (Obj.cells #[.int .i64 (0), .int .i64 (0)] 23) (.cells #[.int .i64 0, .int .i64 0] 126 (0, 0)) (.cells #[.int .i64 0, .int .i64 0] 126 (0, 0))
  have x2 : w3.heap[n2]? = some (.cells #[.slice sa n sc, .int .i64 il, .int .i64 ih] 91 (0, 0)) := by rw [hw3, hn2]; exact hf.1
  have x4 : w3.heap[n4]? = some (Obj.cells #[.int .i64 (0), .int .i64 (0)] 23) := by rw [hw3, hn4, hn2]; exact hf.2.1
  have x6 : w3.heap[n6]? = some (.cells #[.int .i64 0, .int .i64 0] 126 (0, 0)) := by rw [hw3, hn6, hn4, hn2]; exact hf.2.2.1
  have x7 : w3.heap[n7]? = some (.cells #[.int .i64 0, .int .i64 0] 126 (0, 0)) := by rw [hw3, hn7, hn6, hn4, hn2]; exact hf.2.2.2.1
  have hE3 : Ext2 w w3 := by rw [hw3]; exact hf.2.2.2.2.2
  have lw : w.heap.size ≤ n2 := by omega
  have l24 : n2 < n4 := by omega
  have l46 : n4 < n6 := by omega
  have l67 : n6 < n7 := by omega
  rw [← hn2, ← hn4, ← hn6, ← hn7]
  have HE3 := Lib.hid hE3; have X2 := Lib.hid x2; have X4 := Lib.hid x4; have X6 := Lib.hid x6; have X7 := Lib.hid x7
  clear hf hw3 hn2 hn4 hn6 hn7 hE3 x4 x6 x7
  have q2c := cell_blk x2
  have q2f := frz_blk x2
  clear x2
  go_wp2_with (fail)
  clear q2c q2f
  go_loopw [17] (fun i wr => ∃ k : Nat, i = .int .i64 k ∧ k ≤ n ∧ Ext2 w wr ∧ wr.heap[n2]? = some (.cells #[.slice sa n sc, .int .i64 il, .int .i64 ih] 91 (0, 0)) ∧ wr.heap[n4]? = some (Obj.cells #[.int .i64 (0), .int .i64 (0)] 23) ∧ wr.heap[n6]? = some (.cells #[.int .i64 (endsS ((l.take k).filter p)).lo, .int .i64 (endsS ((l.take k).filter p)).hi] 126 (0, 0)) ∧ wr.heap[n7]? = some (.cells #[.int .i64 (endsS ((l.take k).filter fun x => !p x)).lo, .int .i64 (endsS ((l.take k).filter fun x => !p x)).hi] 126 (0, 0))) (fun i _ => n - (intOf i).toNat)
  case atStart => exact ⟨0, rfl, by omega, HE3.out, X2.out, X4.out, X6.out, X7.out⟩
  case round =>
    clear HE3 X2 X4 X6 X7
    obtain ⟨k, rfl, hk, hE, x2, x4, x6, x7⟩ := hrel
    have HE := Lib.hid hE; have X2 := Lib.hid x2; have X4 := Lib.hid x4; have X6 := Lib.hid x6; have X7 := Lib.hid x7
    clear x4 x6 x7
    by_cases hlt : k < n
    · go_light
      have hkl : k < l.length := by rw [← HN.out]; exact hlt
      obtain ⟨b, off, hsa, c0, c1, c2, c3⟩ := gp_cells (HS.out.below hE) hkl
      dsimp only at hsa
      subst hsa
      have hf1 := filter_take (p := p) (d := default) hkl
      have hf2 := filter_take (p := fun x => !p x) (d := default) hkl
      have hpk := HP.out k
      have hgi := HI.out _ (gp_mem hkl)
      have b1 := HPIN.out p k; have b2 := HPIN.out (fun x => !p x) k
      obtain ⟨x, hx⟩ : ∃ x, x = gpD l k := ⟨_, rfl⟩
      rw [show l.getD k default = x from hx.symm] at hf1 hf2
      rw [← hx] at c0 c1 c2 c3 hpk hgi
      have HF1 := Lib.hid hf1; have HF2 := Lib.hid hf2
      obtain ⟨A, hA⟩ : ∃ A, A = endsS ((l.take k).filter p) := ⟨_, rfl⟩
      obtain ⟨C, hC⟩ : ∃ C, C = endsS ((l.take k).filter fun x => !p x) := ⟨_, rfl⟩
      rw [← hA] at b1 X6; rw [← hC] at b2 X7
      have HA := Lib.hid hA; have HC := Lib.hid hC
      have HPK := Lib.hid fun W => hpk W (by rw [← HN.out]; exact hlt)
      have h0 : (0 : Int) ≤ (k : Int) := by omega
      have h1 : (k : Int) < (n : Int) := by omega
      have w2' : IntKind.i64.wrap ((k : Int) + 1) = (k : Int) + 1 := IntWalk.i64_in _ (by omega)
      unfold GapIn at hgi
      clear hf1 hf2 hpk hx hA hC hkl hE x2
      go_upto_region 6 with (fail)
      clear c0 c1 c2 c3
      refine wp_name ?_
      intro w5 hw5
      obtain ⟨n11, hn11⟩ : ∃ n, n = wr.heap.size := ⟨_, rfl⟩
      have x11 : w5.heap[n11]? = some (Obj.cells #[.int .i64 x.frame, .int .i64 x.kind, .int .i64 x.lo, .int .i64 x.hi] 49) := by rw [hw5, hn11]; exact blk_new _ _
      have hE5 : Ext2 wr w5 := by rw [hw5]; exact below_alloc' _ _
      have l711 : n7 < n11 := by rw [hn11]; exact blk_lt X7.out
      have X2' := Lib.hid (hE5.blk X2.out); have X4' := Lib.hid (hE5.blk X4.out); have X6' := Lib.hid (hE5.blk X6.out); have X7' := Lib.hid (hE5.blk X7.out)
      have HE5 := Lib.hid (ext_trans HE.out hE5)
      rw [← hn11]
      clear hw5 hn11 hE5 HE X2 X4 X6 X7
      have q11c := cell_blk x11
      have q11f := frz_blk x11
      have X11 := Lib.hid x11
      clear x11
      go_wp2_with (fail)
      refine (HPK.out w5 HE5.out).mono ?_
      rintro e w6 ⟨rfl, hE6⟩
      have x11 := Ext2.blk hE6 X11.out
      have X2 := Lib.hid (Ext2.blk hE6 X2'.out); have X4 := Lib.hid (Ext2.blk hE6 X4'.out); have x6 := Ext2.blk hE6 X6'.out; have x7 := Ext2.blk hE6 X7'.out
      have HE6 := Lib.hid (ext_trans HE5.out hE6)
      have X6 := Lib.hid x6; have X7 := Lib.hid x7
      clear q11c q11f hE6 X11 X2' X4' X6' X7' HE5
      have q11c := cell_blk x11
      have q11f := frz_blk x11
      clear x11
      cases hv : p x with
      | true =>
        have HAD := Lib.hid (add_any (s := ⟨x.lo, x.hi⟩) x6 (by dsimp only; omega) (by dsimp only; omega))
        dsimp only at HAD
        have e1 : endsS ((l.take (k + 1)).filter p) = ⟨A.lo + x.lo, A.hi + x.hi⟩ := by rw [HF1.out, hv, if_pos rfl, ends_snoc, ← HA.out]
        have e2 : endsS ((l.take (k + 1)).filter fun x => !p x) = C := by rw [HF2.out, hv, if_neg (by simp), ← HC.out]
        have EE1 := Lib.hid e1; have EE2 := Lib.hid e2
        clear e1 e2 x6 x7 hv
        go_wp2_with (fail)
        refine HAD.out.mono ?_
        rintro e w7 ⟨rfl, x6, hB7⟩
        have HB7 := Lib.hid hB7; have X66 := Lib.hid x6
        clear x6 hB7 q11c q11f
        go_wp2_with (fail)
        go_roundw
        case rel =>
          have hk7 : ∀ (i : Nat) (o : Obj), i ≠ n6 → w6.heap[i]? = some o → w7.heap[i]? = some o := fun i o hi h => (HB7.out.block i (blk_lt h) hi).trans h
          refine ⟨k + 1, by go_num, by omega, HE6.out.trans (HB7.out.below (by omega) HE6.out.size), hk7 _ _ (by omega) X2.out, hk7 _ _ (by omega) X4.out, ?_, ?_⟩
          · rw [EE1.out]; exact X66.out
          · rw [EE2.out]; exact hk7 _ _ (by omega) X7.out
        case measure => simp [intOf]; omega
      | false =>
        have HAD := Lib.hid (add_any (s := ⟨x.lo, x.hi⟩) x7 (by dsimp only; omega) (by dsimp only; omega))
        dsimp only at HAD
        have e1 : endsS ((l.take (k + 1)).filter p) = A := by rw [HF1.out, hv, if_neg (by simp), ← HA.out]
        have e2 : endsS ((l.take (k + 1)).filter fun x => !p x) = ⟨C.lo + x.lo, C.hi + x.hi⟩ := by rw [HF2.out, hv, if_pos (show (!false) = true from rfl), ends_snoc, ← HC.out]
        have EE1 := Lib.hid e1; have EE2 := Lib.hid e2
        clear e1 e2 x6 x7 hv
        go_wp2_with (fail)
        refine HAD.out.mono ?_
        rintro e w7 ⟨rfl, x7, hB7⟩
        have HB7 := Lib.hid hB7; have X77 := Lib.hid x7
        clear x7 hB7 q11c q11f
        go_wp2_with (fail)
        go_roundw
        case rel =>
          have hk7 : ∀ (i : Nat) (o : Obj), i ≠ n7 → w6.heap[i]? = some o → w7.heap[i]? = some o := fun i o hi h => (HB7.out.block i (blk_lt h) hi).trans h
          refine ⟨k + 1, by go_num, by omega, HE6.out.trans (HB7.out.below (by omega) HE6.out.size), hk7 _ _ (by omega) X2.out, hk7 _ _ (by omega) X4.out, ?_, ?_⟩
          · rw [EE1.out]; exact hk7 _ _ (by omega) X6.out
          · rw [EE2.out]; exact X77.out
        case measure => simp [intOf]; omega
    · obtain rfl : n = k := by omega
      have b1 := HPIN.out p n; have b2 := HPIN.out (fun x => !p x) n
      rw [show l.take n = l from List.take_of_length_le (by rw [HN.out]; exact Nat.le_refl _)] at b1 b2 X6 X7
      have hpg : partG ⟨l, ⟨il, ih⟩⟩ p = comS (endsS (l.filter p)) ⟨il - (endsS (l.filter fun x => !p x)).hi, ih - (endsS (l.filter fun x => !p x)).lo⟩ := rfl
      have hVV := HV.out.trans hpg
      obtain ⟨A, hA⟩ : ∃ A, A = endsS (l.filter p) := ⟨_, rfl⟩
      obtain ⟨C, hC⟩ : ∃ C, C = endsS (l.filter fun x => !p x) := ⟨_, rfl⟩
      rw [← hA] at b1 X6; rw [← hC] at b2 X7
      rw [← hA, ← hC] at hVV
      have v1' : IntKind.i64.wrap (il - C.hi) = il - C.hi := IntWalk.i64_in _ (by omega)
      have v2' : IntKind.i64.wrap (ih - C.lo) = ih - C.lo := IntWalk.i64_in _ (by omega)
      obtain ⟨U, hU⟩ : ∃ U, U = comS A ⟨il - C.hi, ih - C.lo⟩ := ⟨_, rfl⟩
      have HCM := Lib.hid fun W => common_any A ⟨il - C.hi, ih - C.lo⟩ W
      rw [← hU] at HCM hVV
      have HVU := Lib.hid hVV
      have x6 := X6.out; have x7 := X7.out
      clear hpg hA hC hU b1 b2 hE hk hVV
      dsimp only at HCM
      have q2c := cell_blk x2
      have q2f := frz_blk x2
      have q6c := cell_blk x6
      have q6f := frz_blk x6
      have q7c := cell_blk x7
      have q7f := frz_blk x7
      clear x6 x7 x2
      go_wp2_with (fail)
      refine (HCM.out _).mono ?_
      rintro e w6 ⟨rfl, hE6⟩
      have x4 := Ext2.blk hE6 X4.out
      have HE6 := Lib.hid (ext_trans HE.out hE6)
      clear q2c q2f q6c q6f q7c q7f hE6
      have q4c := cell_blk x4
      have q4f := frz_blk x4
      go_wp2_with (fail)
      have r1 : ((w6.setCell ⟨n4, 0, none⟩ (.int .i64 U.lo)).setCell ⟨n4, 1, none⟩ (.int .i64 U.hi)).heap[n4]? = some (Obj.cells #[.int .i64 (U.lo), .int .i64 (U.hi)] 23) := Eq.trans (blk_set (blk_set x4 _ _) _ _) rfl
      refine bodyPost_ret (v := .tuple #[.agg #[.int .i64 U.lo, .int .i64 U.hi], .bool (decide (U.lo ≤ U.hi))]) ?_ rfl ⟨by rw [HVU.out], below_set (below_set HE6.out (by omega)) (by omega)⟩
      have zc := cell_blk r1
      have zf := frz_blk r1
      simp [results, Tryz.results26, go_sem, zc]
end Go.Proofs.YtapeakbngligaaaGreatDoor
