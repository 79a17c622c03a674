/-
  ref.ends, part.
-/
import Derived.Test.YtojomdojblgegaaGreatDoorBRTl
import Derived.Test.YtojomdojblgegaaGreatDoorBPlB
namespace Go.Proofs.YtojomdojblgegaaGreatDoor
open Go.RowKit D
set_option linter.unusedVariables false
set_option linter.unusedSimpArgs false
attribute [local go_sem high] run_minI run_maxI
attribute [local go_sem] upon2 cls_cell cls_frozen forall_const exists_eq_left'
attribute [local go_sem] FirstUpon atBlk_cell
def ixC (l : List Nat) (i _ : Nat) : Value := .int .i64 ((l.getD i 0 : Nat) : Int)
abbrev IxS (w : World) (s : Sl) (l : List Nat) : Prop := RowS w s 1 l.length (ixC l)
theorem ix_cell {w : World} {s : Sl} {l : List Nat} (h : IxS w s l) {i : Nat} (hi : i < l.length) : ∃ b off, s.a = some ⟨b, off, none⟩ ∧ w.cell? ⟨b, off + i, none⟩ = some (.int .i64 ((l.getD i 0 : Nat) : Int)) := by
  obtain ⟨b, off, ha, h0⟩ := h.cell i 0 hi (by omega)
  rw [Nat.mul_one, Nat.add_zero] at h0
  exact ⟨b, off, ha, h0⟩
theorem ix_mem {l : List Nat} {i : Nat} (hi : i < l.length) : l.getD i 0 ∈ l := by
  rw [List.getD_eq_getElem?_getD, List.getElem?_eq_getElem hi]; exact List.getElem_mem hi
theorem ends_take {gs : List Gap} {ix : List Nat} {k : Nat} (hk : k < ix.length) : endsS ((ix.take (k + 1)).map (gpD gs)) = ⟨(endsS ((ix.take k).map (gpD gs))).lo + (gpD gs (ix.getD k 0)).lo, (endsS ((ix.take k).map (gpD gs))).hi + (gpD gs (ix.getD k 0)).hi⟩ := by
  rw [List.take_succ_eq_append_getElem hk, List.map_append, List.map_cons, List.map_nil, ends_snoc]
  have : ix.getD k 0 = ix[k] := by rw [List.getD_eq_getElem?_getD, List.getElem?_eq_getElem hk]; rfl
  rw [this]
theorem gap_in {gs : List Gap} (hin : ∀ x ∈ gs, GapIn x) {i : Nat} (hi : i < gs.length) : GapIn (gpD gs i) := by
  refine hin _ ?_
  rw [gpD_get hi]; exact List.getElem_mem hi
set_option maxRecDepth 100000 in
set_option maxHeartbeats 8000000 in
theorem endsR_any {gs : List Gap} {s : Sl} {ix : List Nat} {t : Sl} {w : World} (hg : GapsS w s gs) (ht : IxS w t ix) (hi : ∀ i ∈ ix, i < gs.length) (hin : ∀ x ∈ gs, GapIn x) (hl : ix.length ≤ 200001) : Calls Tryz.prog 87 #[.slice s.a gs.length s.cap, .slice t.a ix.length t.cap] w fun e w' => e = .returned (.agg #[.int .i64 (endsS (ix.map (gpD gs))).lo, .int .i64 (endsS (ix.map (gpD gs))).hi]) ∧ Below w.heap.size w w' := by
  have HG := Lib.hid hg; have HT := Lib.hid ht; have HI := Lib.hid hi
  have hle := hg.le; have hmx := hg.max; have hle2 := ht.le; have hmx2 := ht.max
  have hbd : ∀ k, (0 ≤ (endsS ((ix.take k).map (gpD gs))).lo ∧ (endsS ((ix.take k).map (gpD gs))).lo ≤ 80000400000) ∧ (0 ≤ (endsS ((ix.take k).map (gpD gs))).hi ∧ (endsS ((ix.take k).map (gpD gs))).hi ≤ 80000400000) := fun k => by
    refine ends_in' (fun x hx => ?_) (by rw [List.length_map, List.length_take]; omega)
    obtain ⟨i, hi', rfl⟩ := List.mem_map.1 hx
    exact gap_in hin (hi i (List.mem_of_mem_take hi'))
  have HBD := Lib.hid hbd
  have HIN := Lib.hid fun (i : Nat) (h : i < gs.length) => gap_in hin h
  obtain ⟨V, hV⟩ : ∃ V, V = endsS (ix.map (gpD gs)) := ⟨_, rfl⟩
  rw [← hV]
  have HV : Hid (V = endsS ((ix.take ix.length).map (gpD gs))) := Lib.hid (by rw [hV, List.take_length])
  obtain ⟨sa, sc⟩ := s
  obtain ⟨ta, tc⟩ := t
  obtain ⟨gn, hgn⟩ : ∃ n, n = gs.length := ⟨_, rfl⟩
  obtain ⟨m, hm⟩ : ∃ n, n = ix.length := ⟨_, rfl⟩
  rw [← hgn] at hle HI HIN ⊢; rw [← hm] at hle2 hl HV ⊢
  have HGN := Lib.hid hgn; have HM := Lib.hid hm
  dsimp only at hle hmx hle2 hmx2
  clear hg ht hi hin hbd hV hgn hm
  go_enter Tryz.func87, Tryz.ntmps87
  go_upto_region 2 with (fail)
  refine wp_name ?_
  intro w3 hw3
  obtain ⟨n4, hn4⟩ : ∃ n, n = w.heap.size := ⟨_, rfl⟩
  obtain ⟨n5, hn5⟩ : ∃ n, n = n4 + 1 := ⟨_, rfl⟩
  have x4 : w3.heap[n4]? = some (Obj.cells #[.int .i64 (0), .int .i64 (0)] 31) := by rw [hw3, hn4]; exact blk_alloc (blk_new _ _) _
  have x5 : w3.heap[n5]? = some (Obj.cells #[.int .i64 (0), .int .i64 (0)] 31) := by rw [hw3, hn5, hn4]; exact blk_new' _ _ (by simp)
  have hE3 : Ext2 w w3 := by rw [hw3]; exact ext_trans (below_alloc' _ _) (below_alloc' _ _)
  have lw : w.heap.size ≤ n4 := by omega
  have lw5 : w.heap.size ≤ n5 := by omega
  have l45 : n4 < n5 := by omega
  rw [← hn4]
  try rw [← hn5]
  have HE3 := Lib.hid hE3; have X4 := Lib.hid x4; have X5 := Lib.hid x5
  clear hw3 hn4 hn5 hE3 x4 x5
  go_wp2_with (fail)
  go_loopw [6] (fun i wr => ∃ k : Nat, i = .int .i64 k ∧ k ≤ m ∧ Ext2 w wr ∧ wr.heap[n4]? = some (Obj.cells #[.int .i64 (0), .int .i64 (0)] 31) ∧ wr.heap[n5]? = some (.cells #[.int .i64 (endsS ((ix.take k).map (gpD gs))).lo, .int .i64 (endsS ((ix.take k).map (gpD gs))).hi] 31 (0, 0))) (fun i _ => m - (intOf i).toNat)
  case atStart => exact ⟨0, rfl, by omega, HE3.out, X4.out, X5.out⟩
  case round =>
    clear HE3 X4 X5
    obtain ⟨k, rfl, hk, hE, x4, x5⟩ := hrel
    have hb := HBD.out k
    by_cases hlt : k < m
    · go_light
      have hkl : k < ix.length := by rw [← HM.out]; exact hlt
      have het := ends_take (gs := gs) hkl
      obtain ⟨E, hEd⟩ : ∃ E, E = endsS ((ix.take k).map (gpD gs)) := ⟨_, rfl⟩
      rw [← hEd] at hb x5 het
      obtain ⟨b2, off2, hta, d0⟩ := ix_cell (HT.out.below hE) (i := k) hkl
      have hql := HI.out _ (ix_mem hkl)
      obtain ⟨q, hq⟩ : ∃ q, q = ix.getD k 0 := ⟨_, rfl⟩
      rw [← hq] at d0 hql het
      have hx := HIN.out q hql
      obtain ⟨b, off, hsa, c0, c1, c2, c3⟩ := gp_cells (HG.out.below hE) (i := q) (by rw [← HGN.out]; exact hql)
      obtain ⟨x, hxd⟩ : ∃ x, x = gpD gs q := ⟨_, rfl⟩
      rw [← hxd] at c0 c1 c2 c3 hx het
      dsimp only at hta hsa
      subst hta
      subst hsa
      unfold GapIn at hx
      have HE := Lib.hid hE; have X4 := Lib.hid x4; have HET := Lib.hid het
      have h0 : (0 : Int) ≤ (k : Int) := by omega
      have h1 : (k : Int) < (m : Int) := by omega
      have h2 : decide ((0 : Int) ≤ (k : Int)) = true := decide_eq_true h0
      have h3 : decide ((k : Int) < (m : Int)) = true := decide_eq_true h1
      have h4 : (0 : Int) ≤ (q : Int) := by omega
      have h5 : (q : Int) < (gn : Int) := by omega
      have h6 : decide ((0 : Int) ≤ (q : Int)) = true := decide_eq_true h4
      have h7 : decide ((q : Int) < (gn : Int)) = true := decide_eq_true h5
      have w2' : IntKind.i64.wrap ((k : Int) + 1) = (k : Int) + 1 := IntWalk.i64_in _ (by omega)
      have w3' : IntKind.i64.wrap (E.lo + x.lo) = E.lo + x.lo := IntWalk.i64_in _ (by omega)
      have w4' : IntKind.i64.wrap (E.hi + x.hi) = E.hi + x.hi := IntWalk.i64_in _ (by omega)
      clear hE x4 het hq hxd hEd hql hkl hx hb c0 c1
      have q5c := cell_blk x5
      have q5f := frz_blk x5
      go_upto_region 5 with (fail)
      refine region_ev [] [0, 1, 2, 3, 4, 5, 6, 7, 8, 9, 10, 11, 12, 13, 14, 15, 16, 17, 18, 19, 20, 21, 22, 23, 24] [] [25] (by kernel_rfl) (by kernel_rfl) (by intro c a d v w h; cases d <;> exact h) ?_
      simp only [picks, List.drop_succ_cons, List.drop_zero]
      repeat (refine wpQ0_step (fun K hK => ?_); go_simp; (refine hK _ ?_; clear hK K))
      refine wpQ0_nil ?_
      repeat ((with_reducible refine wpQ2_step (fun K hK => ?_)); go_simp; first | ((with_reducible refine hK _ ?_); clear hK K) | (apply Exists.intro; refine ⟨fun x => ?_, hK _ ?_⟩; (fail); clear hK K) | (refine ite_undef (fun h => (by have h_ : (none : Option Bool) = some _ := h; cases h_)) ?_; (with_reducible refine hK _ ?_); clear hK K))
      (with_reducible refine wpQ2_nil ?_)
      refine Events.none_ fun w7 hg7 => ?_
      simp only [picks, List.drop_succ_cons, List.drop_zero]
      have x4 := Ext2.blk hg7 X4.out; have x5 := Ext2.blk hg7 x5
      have HE7 := Lib.hid (ext_trans HE.out hg7)
      have X47 := Lib.hid x4; have X57 := Lib.hid x5
      clear q5c q5f c2 c3 d0 hg7 x4
      have q5c := cell_blk x5
      have q5f := frz_blk x5
      clear x5
      go_wp2_with (fail)
      go_roundw
      case rel => exact ⟨k + 1, by go_num, by omega, below_set (below_set HE7.out lw5) lw5, blk_set_ne (blk_set_ne X47.out (by omega)) (by omega), by rw [HET.out]; exact Eq.trans (blk_set (blk_set X57.out _ _) _ _) rfl⟩
      case measure => simp [intOf]; omega
    · obtain rfl : m = k := by omega
      rw [← HV.out] at x5
      have h1 : ¬ (m : Int) < (m : Int) := by omega
      have HE := Lib.hid hE; have X4 := Lib.hid x4
      clear hE hb
      have q4c := cell_blk x4
      have q4f := frz_blk x4
      have q5c := cell_blk x5
      have q5f := frz_blk x5
      clear x4 x5
      go_wp2_with (fail)
      have r1 : ((wr.setCell ⟨n4, 0, none⟩ (.int .i64 V.lo)).setCell ⟨n4, 1, none⟩ (.int .i64 V.hi)).heap[n4]? = some (Obj.cells #[.int .i64 V.lo, .int .i64 V.hi] 31) := Eq.trans (blk_set (blk_set X4.out _ _) _ _) rfl
      refine bodyPost_ret (v := .agg #[.int .i64 V.lo, .int .i64 V.hi]) ?_ rfl ⟨rfl, below_set (below_set HE.out lw) lw⟩
      have zc := cell_blk r1
      have zf := frz_blk r1
      simp [results, Tryz.results87, go_sem, zc]
def ptR (gs : List Gap) (is : Span) (a b : List Nat) : Span := comS (endsS (a.map (gpD gs))) ⟨is.lo - (endsS (b.map (gpD gs))).hi, is.hi - (endsS (b.map (gpD gs))).lo⟩
theorem ends_bd {gs : List Gap} {ix : List Nat} (hi : ∀ i ∈ ix, i < gs.length) (hin : ∀ x ∈ gs, GapIn x) (hl : ix.length ≤ 200001) : (0 ≤ (endsS (ix.map (gpD gs))).lo ∧ (endsS (ix.map (gpD gs))).lo ≤ 80000400000) ∧ (0 ≤ (endsS (ix.map (gpD gs))).hi ∧ (endsS (ix.map (gpD gs))).hi ≤ 80000400000) := by
  refine ends_in' (fun x hx => ?_) (by rw [List.length_map]; exact hl)
  obtain ⟨i, hi', rfl⟩ := List.mem_map.1 hx
  exact gap_in hin (hi i hi')
set_option maxRecDepth 100000 in
set_option maxHeartbeats 8000000 in
theorem partR_any {gs : List Gap} {s : Sl} {a b : List Nat} {ta tb : Sl} {va : Option Addr} {vn vc : Nat} {is : Span} {w : World} (hg : GapsS w s gs) (ha : IxS w ta a) (hb : IxS w tb b) (hia : ∀ i ∈ a, i < gs.length) (hib : ∀ i ∈ b, i < gs.length) (hin : ∀ x ∈ gs, GapIn x) (hla : a.length ≤ 200001) (hlb : b.length ≤ 200001) (his : -1000000000000000 ≤ is.lo ∧ is.lo ≤ 1000000000000000 ∧ -1000000000000000 ≤ is.hi ∧ is.hi ≤ 1000000000000000) :
    Calls Tryz.prog 50 #[.slice s.a gs.length s.cap, .agg #[.slice va vn vc, .int .i64 is.lo, .int .i64 is.hi], .slice ta.a a.length ta.cap, .slice tb.a b.length tb.cap] w fun e w' => e = .returned (.agg #[.int .i64 (ptR gs is a b).lo, .int .i64 (ptR gs is a b).hi]) ∧ Below w.heap.size w w' := by
  have HA := Lib.hid fun (W : World) (hW : Ext2 w W) => endsR_any (RowS.below hg hW) (RowS.below ha hW) hia hin hla
  have HB := Lib.hid fun (W : World) (hW : Ext2 w W) => endsR_any (RowS.below hg hW) (RowS.below hb hW) hib hin hlb
  have hba := ends_bd hia hin hla; have hbb := ends_bd hib hin hlb
  obtain ⟨V, hV⟩ : ∃ V, V = ptR gs is a b := ⟨_, rfl⟩
  rw [← hV]
  unfold ptR at hV
  obtain ⟨p, hp⟩ : ∃ p, p = endsS (a.map (gpD gs)) := ⟨_, rfl⟩
  obtain ⟨q, hq⟩ : ∃ q, q = endsS (b.map (gpD gs)) := ⟨_, rfl⟩
  rw [← hp] at HA hba hV; rw [← hq] at HB hbb hV
  obtain ⟨L, hL⟩ : ∃ L, L = is.lo - q.hi := ⟨_, rfl⟩
  obtain ⟨H, hH⟩ : ∃ H, H = is.hi - q.lo := ⟨_, rfl⟩
  have w1' : IntKind.i64.wrap (is.lo - q.hi) = is.lo - q.hi := IntWalk.i64_in _ (by omega)
  have w2' : IntKind.i64.wrap (is.hi - q.lo) = is.hi - q.lo := IntWalk.i64_in _ (by omega)
  rw [← hL] at hV; rw [← hH] at hV
  have HC : Hid (∀ W, Calls Tryz.prog 86 #[.agg #[.int .i64 p.lo, .int .i64 p.hi], .agg #[.int .i64 L, .int .i64 H]] W fun e w' => e = .returned (.agg #[.int .i64 V.lo, .int .i64 V.hi]) ∧ Below W.heap.size W w') := Lib.hid fun W => by rw [hV]; exact commonR_any _ ⟨L, H⟩ W
  have HLO := Lib.hid hL; have HHI := Lib.hid hH
  obtain ⟨sa, sc⟩ := s
  obtain ⟨aa, ac⟩ := ta
  obtain ⟨ba, bc⟩ := tb
  obtain ⟨gn, hgn⟩ : ∃ n, n = gs.length := ⟨_, rfl⟩
  obtain ⟨an, han⟩ : ∃ n, n = a.length := ⟨_, rfl⟩
  obtain ⟨bn, hbn⟩ : ∃ n, n = b.length := ⟨_, rfl⟩
  rw [← hgn] at HA HB ⊢; rw [← han] at HA ⊢; rw [← hbn] at HB ⊢
  dsimp only at HA HB
  have W1 : Hid (IntKind.i64.wrap (is.lo - q.hi) = L) := Lib.hid (by rw [w1']; exact hL.symm)
  have W2 : Hid (IntKind.i64.wrap (is.hi - q.lo) = H) := Lib.hid (by rw [w2']; exact hH.symm)
  clear hg ha hb hia hib hin hla hlb his hba hbb hV hp hq hL hH hgn han hbn w1' w2'
  go_enter Tryz.func50, Tryz.ntmps50
  go_upto_region 1 with (fail)
  refine wp_name ?_
  intro w3 hw3
  obtain ⟨n5, hn5⟩ : ∃ n, n = w.heap.size := ⟨_, rfl⟩
  obtain ⟨n8, hn8⟩ : ∃ n, n = n5 + 1 := ⟨_, rfl⟩
  have x5 : w3.heap[n5]? = some (.cells #[.slice va vn vc, .int .i64 is.lo, .int .i64 is.hi] 114 (0, 0)) := by rw [hw3, hn5]; exact blk_alloc (blk_new _ _) _
  have x8 : w3.heap[n8]? = some (Obj.cells #[.int .i64 (0), .int .i64 (0)] 31) := by rw [hw3, hn8, hn5]; exact blk_new' _ _ (by simp)
  have hE3 : Ext2 w w3 := by rw [hw3]; exact ext_trans (below_alloc' _ _) (below_alloc' _ _)
  have lw : w.heap.size ≤ n8 := by omega
  rw [← hn5]
  try rw [← hn8]
  have HE3 := Lib.hid hE3; have X5 := Lib.hid x5; have X8 := Lib.hid x8; have LW := Lib.hid lw
  clear hw3 hn5 hn8 hE3 x5 x8 lw
  go_wp2_with (fail)
  (with_reducible refine (HA.out _ HE3.out).mono ?_)
  rintro e w4 ⟨rfl, hE4⟩
  have HE4 := Lib.hid (ext_trans HE3.out hE4); have X54 := Lib.hid (Ext2.blk hE4 X5.out); have X84 := Lib.hid (Ext2.blk hE4 X8.out)
  clear hE4 X5 X8
  go_wp2_with (fail)
  (with_reducible refine (HB.out _ HE4.out).mono ?_)
  rintro e w5 ⟨rfl, hE5⟩
  have HE5 := Lib.hid (ext_trans HE4.out hE5); have X55 := Lib.hid (Ext2.blk hE5 X54.out); have X85 := Lib.hid (Ext2.blk hE5 X84.out)
  clear hE5 X54 X84
  go_upto_region 2 with (fail)
  refine wp_name ?_
  intro w6 hw6
  obtain ⟨n9, hn9⟩ : ∃ n, n = w5.heap.size := ⟨_, rfl⟩
  obtain ⟨n10, hn10⟩ : ∃ n, n = n9 + 1 := ⟨_, rfl⟩
  have x9 : w6.heap[n9]? = some (Obj.cells #[.int .i64 p.lo, .int .i64 p.hi] 31) := by rw [hw6, hn9]; exact blk_alloc (blk_new _ _) _
  have x10 : w6.heap[n10]? = some (Obj.cells #[.int .i64 q.lo, .int .i64 q.hi] 31) := by rw [hw6, hn10, hn9]; exact blk_new' _ _ (by simp)
  have hE6 : Ext2 w5 w6 := by rw [hw6]; exact ext_trans (below_alloc' _ _) (below_alloc' _ _)
  rw [← hn9]
  try rw [← hn10]
  have x5 := Ext2.blk hE6 X55.out; have x8 := Ext2.blk hE6 X85.out
  have HE6 := Lib.hid (ext_trans HE5.out hE6)
  have X86 := Lib.hid x8
  clear hw6 hn9 hn10 hE6 X55 X85 x8
  have q5c := cell_blk x5
  have q5f := frz_blk x5
  have q9c := cell_blk x9
  have q9f := frz_blk x9
  have q10c := cell_blk x10
  have q10f := frz_blk x10
  have w1' := W1.out; have w2' := W2.out
  clear x5 x9 x10
  go_wp2_with (fail)
  (with_reducible refine (HC.out _).mono ?_)
  rintro e w7 ⟨rfl, hE7⟩
  have HE7 := Lib.hid (ext_trans HE6.out hE7)
  have x8 := Ext2.blk hE7 X86.out
  have X87 := Lib.hid x8
  clear q5c q5f q9c q9f q10c q10f hE7
  have q8c := cell_blk x8
  have q8f := frz_blk x8
  clear x8
  go_wp2_with (fail)
  have r1 : ((w7.setCell ⟨n8, 0, none⟩ (.int .i64 V.lo)).setCell ⟨n8, 1, none⟩ (.int .i64 V.hi)).heap[n8]? = some (Obj.cells #[.int .i64 V.lo, .int .i64 V.hi] 31) := Eq.trans (blk_set (blk_set X87.out _ _) _ _) rfl
  refine bodyPost_ret (v := .agg #[.int .i64 V.lo, .int .i64 V.hi]) ?_ rfl ⟨rfl, below_set (below_set HE7.out LW.out) LW.out⟩
  have zc := cell_blk r1
  have zf := frz_blk r1
  simp [results, Tryz.results50, go_sem, zc]
end Go.Proofs.YtojomdojblgegaaGreatDoor
