/-
  law.BenchNarrow, walked.
-/
import Derived.Test.YtapeakbngligaaaGreatDoorBAwk
import Derived.Test.YtapeakbngligaaaGreatDoorBPlN
import Derived.Test.YtapeakbngligaaaGreatDoorBArgX
import Derived.Test.YtapeakbngligaaaGreatDoorBLwHo
import Derived.Test.YtapeakbngligaaaGreatDoorBRA
import Derived.Test.YtapeakbngligaaaGreatDoorBReg
import Derived.Deep.Cut
import Derived.Deep.CutRange
import Derived.Deep.DeepCutAuto
namespace Go.Proofs.YtapeakbngligaaaGreatDoor
open Go.RowKit D
set_option linter.unusedVariables false
set_option linter.unusedSimpArgs false
attribute [local go_sem high] run_minI run_maxI
attribute [local go_sem] upon2 cls_cell cls_frozen forall_const exists_eq_left'
attribute [local go_sem] FirstUpon atBlk_cell
theorem any_take {l : List Note} (p : Note → Bool) {k : Nat} (h : k < l.length) : (l.take (k + 1)).any p = ((l.take k).any p || p (ntD l k)) := by
  have e : ntD l k = l[k] := by unfold ntD; rw [List.getD_eq_getElem?_getD, List.getElem?_eq_getElem h]; rfl
  rw [List.take_add_one, List.getElem?_eq_getElem h, List.any_append, e]; simp
theorem any_takeS {l : List Strike} (p : Strike → Bool) {k : Nat} (h : k < l.length) : (l.take (k + 1)).any p = ((l.take k).any p || p (skD l k)) := by
  have e : skD l k = l[k] := by unfold skD; rw [List.getD_eq_getElem?_getD, List.getElem?_eq_getElem h]; rfl
  rw [List.take_add_one, List.getElem?_eq_getElem h, List.any_append, e]; simp
theorem zoe_list : zoe.toList = [122, 111, 101] := by rw [ByteArray.toList_eq]; rfl
theorem zoe_eq (x : ByteArray) : (x.toList == [122, 111, 101]) = decide (x = zoe) := by
  rw [← zoe_list, beq_list]
  by_cases h : x = zoe
  · rw [decide_eq_true h]; exact sameS_iff.2 h
  · rw [decide_eq_false h]
    cases hb : sameS x zoe with
    | false => rfl
    | true => exact absurd (sameS_iff.1 hb) h
theorem gt_zoe {x : ByteArray} (h : x ≠ zoe) : Op.bytesLess x.toList [122, 111, 101] = !ltB zoe x := by
  rw [← zoe_list, bytesLess_ltB]
  cases h1 : ltB zoe x with
  | true => exact ltB_asymm h1
  | false =>
    cases h2 : ltB x zoe with
    | true => rfl
    | false => exact absurd (ltB_total h2 h1) h
theorem task_info (c : Array Value) (h : c.size = 13) : (Tryz.prog.info? 31).map (·.size) = some c.size := by rw [h]; kernel_rfl
theorem blk_grown {w w' : World} {row : Option Nat} (hg : w.grownBy w' row) {b : Nat} {o : Obj} (hb : w.heap[b]? = some o) (hne : some b ≠ row) : w'.heap[b]? = some o := by
  rw [hg.block b (blk_lt hb) hne]; exact hb
/-- What every world of region 29 bears. -/
structure NaS (w5 : World) (n6 n10 : Nat) (T : Task) (t : TSl) (y : Gap) (W : World) : Prop where
  e : Ext2 w5 W
  g : W.heap[n10]? = some (Obj.cells #[.int .i64 y.frame, .int .i64 y.kind, .int .i64 y.lo, .int .i64 y.hi] 49)
  o : ∃ nv, W.heap[n6]? = some (Obj.cells #[.string T.reel.name, .int .i64 T.reel.gauge, .int .i64 T.reel.base, .int .i64 T.reel.frames, .int .i64 T.reel.ylo, .int .i64 T.reel.yhi, .int .i64 T.reel.keep, .slice t.r.m.a T.reel.marks.length t.r.m.cap, .slice t.r.s.a T.reel.syms.length t.r.s.cap, .slice t.r.l.a T.reel.lens.length t.r.l.cap, .int .i64 T.whole.lo, .int .i64 T.whole.hi, nv] 31)
theorem NaS.ext {w5 : World} {n6 n10 : Nat} {T : Task} {t : TSl} {y : Gap} {W W' : World} (h : NaS w5 n6 n10 T t y W) (hE : Ext2 W W') : NaS w5 n6 n10 T t y W' := ⟨ext_trans h.e hE, hE.blk h.g, by obtain ⟨nv, h⟩ := h.o; exact ⟨nv, hE.blk h⟩⟩
theorem NaS.app {w5 : World} {n6 n10 : Nat} {T : Task} {t : TSl} {y : Gap} {W W' : World} {row : Option Nat} (h : NaS w5 n6 n10 T t y W) (hn : n6 < n10 ∧ w5.heap.size ≤ n6) (hg : W.grownBy W' row) (hr : ∀ k, row = some k → n10 + 1 ≤ k) : NaS w5 n6 n10 T t y W' := ⟨ext_grown h.e hg (fun k hk => by have := hr k hk; omega), blk_grown hg h.g (fun hk => by have := hr _ hk.symm; omega), by obtain ⟨nv, h⟩ := h.o; exact ⟨nv, blk_grown hg h (fun hk => by have := hr _ hk.symm; omega)⟩⟩
set_option maxRecDepth 100000 in
set_option maxHeartbeats 8000000 in
theorem lawNarrow_any {T : Task} {t : TSl} {p q : Int} {X : Fur} {w : World} (hT : TaskAt w T t) (hpq : (0 ≤ p ∧ p ≤ 255) ∧ 0 ≤ q ∧ q ≤ 255) (hX : FurOk X) (hm : MaxAt w) : Calls Tryz.prog 4 #[.agg #[.string T.reel.name, .int .i64 T.reel.gauge, .int .i64 T.reel.base, .int .i64 T.reel.frames, .int .i64 T.reel.ylo, .int .i64 T.reel.yhi, .int .i64 T.reel.keep, .slice t.r.m.a T.reel.marks.length t.r.m.cap, .slice t.r.s.a T.reel.syms.length t.r.s.cap, .slice t.r.l.a T.reel.lens.length t.r.l.cap, .int .i64 T.whole.lo, .int .i64 T.whole.hi, .slice t.n.a T.notes.length t.n.cap], .agg #[.int .u8 p, .int .u8 q], .agg #[.int .u8 X.which, .int .u16 X.lo, .int .u16 X.wide]] w fun e w' => e = .returned (.bool true) ∧ Below w.heap.size w w' := by
  have H1 := Lib.hid fun (W : World) (hW : Ext2 w W) => gapsA_any (hT.below hW) (hm.below hW)
  have H2 := Lib.hid fun (u v : Int) (W : World) (hW : Ext2 w W) => gapsA_any (T := { T with whole := ⟨u, v⟩ }) (t := t) ⟨(hT.below hW).reel, (hT.below hW).nt, hT.sizes⟩ (hm.below hW)
  have H3 := Lib.hid fun (W : World) (hW : Ext2 w W) => checkR_any (hT.below hW)
  have H4 := Lib.hid fun (N : List Note) (s : Sl) (W : World) (hW : Ext2 w W) (hs : NotesS W s N) (hz : ∀ x ∈ N, x.by_.size ≤ maxLen) => gapsA_any (T := { T with notes := N }) (t := { t with n := s }) ⟨(hT.below hW).reel, hs, hz⟩ (hm.below hW)
  have HA := Lib.hid fun (W : World) (hW : Ext2 w W) => awake_any (hm.below hW)
  have HHO := Lib.hid fun (s t : Sl) (l m : List Gap) (W : World) (h1 : GapsS W s l) (h2 : GapsS W t m) (h : holdsP l m) => holdsL_any h1 h2 h
  have HSG := Lib.hid fun (s t : Sl) (l m : List Gap) (W : World) (h1 : GapsS W s l) (h2 : GapsS W t m) => sameGp_any h1 h2
  have HMX := Lib.hid hm; have HT := Lib.hid hT; have HPQ := Lib.hid hpq; have HXO := Lib.hid hX
  obtain ⟨tr, ⟨na, nc⟩⟩ := t
  unfold GpsAOut at H1 H2 H4
  unfold ChkOut at H3
  obtain ⟨⟨G, K, R, E⟩, hp1⟩ : ∃ p, p = gapsAns T := ⟨_, rfl⟩
  rw [← hp1] at H1
  obtain ⟨⟨C1, C2, C⟩, hpc⟩ : ∃ p, p = checkV T := ⟨_, rfl⟩
  rw [← hpc] at H3
  dsimp only at H1 H2 H3 H4 ⊢
  obtain ⟨gn, hgn⟩ : ∃ n, n = G.length := ⟨_, rfl⟩
  obtain ⟨kn, hkn⟩ : ∃ n, n = K.length := ⟨_, rfl⟩
  obtain ⟨rn, hrn⟩ : ∃ n, n = R.length := ⟨_, rfl⟩
  rw [← hgn, ← hkn, ← hrn] at H1
  have HGN := Lib.hid hgn; have HKN := Lib.hid hkn; have HRN := Lib.hid hrn; have HP1 := Lib.hid hp1; have HPC := Lib.hid hpc
  obtain ⟨XW, XL, XI⟩ := X
  clear hT hm hp1 hgn hkn hrn hpc hpq hX
  go_enter Tryz.func4, Tryz.ntmps4
  go_upto_region 1 with (fail)
  refine wp_name ?_
  intro w3 hw3
  obtain ⟨n3, hn3⟩ : ∃ n, n = w.heap.size := ⟨_, rfl⟩
  obtain ⟨n4, hn4⟩ : ∃ n, n = n3 + 1 := ⟨_, rfl⟩
  obtain ⟨n5, hn5⟩ : ∃ n, n = n4 + 1 := ⟨_, rfl⟩
  have x3 : w3.heap[n3]? = some (Obj.cells #[.string T.reel.name, .int .i64 T.reel.gauge, .int .i64 T.reel.base, .int .i64 T.reel.frames, .int .i64 T.reel.ylo, .int .i64 T.reel.yhi, .int .i64 T.reel.keep, .slice (⟨tr, ⟨na, nc⟩⟩ : TSl).r.m.a T.reel.marks.length (⟨tr, ⟨na, nc⟩⟩ : TSl).r.m.cap, .slice (⟨tr, ⟨na, nc⟩⟩ : TSl).r.s.a T.reel.syms.length (⟨tr, ⟨na, nc⟩⟩ : TSl).r.s.cap, .slice (⟨tr, ⟨na, nc⟩⟩ : TSl).r.l.a T.reel.lens.length (⟨tr, ⟨na, nc⟩⟩ : TSl).r.l.cap, .int .i64 T.whole.lo, .int .i64 T.whole.hi, .slice (⟨tr, ⟨na, nc⟩⟩ : TSl).n.a T.notes.length (⟨tr, ⟨na, nc⟩⟩ : TSl).n.cap] 31) := by rw [hw3, hn3]; exact blk_alloc (blk_alloc (blk_new _ _) _) _
  dsimp only at x3
  have x4 : w3.heap[n4]? = some (.cells #[.int .u8 p, .int .u8 q] 53 (0, 0)) := by rw [hw3, hn4, hn3]; exact blk_alloc (blk_new' _ _ (by simp)) _
  have x5 : w3.heap[n5]? = some (.cells #[.int .u8 XW, .int .u16 XL, .int .u16 XI] 55 (0, 0)) := by rw [hw3, hn5, hn4, hn3]; exact blk_new' _ _ (by simp)
  have hE3 : Ext2 w w3 := by rw [hw3]; exact ext_trans (ext_trans (below_alloc' _ _) (below_alloc' _ _)) (below_alloc' _ _)
  rw [← hn3]
  try rw [← hn4]
  try rw [← hn5]
  have HE3 := Lib.hid hE3; have X3 := Lib.hid x3; have X4 := Lib.hid x4; have X5 := Lib.hid x5
  clear hw3 hn3 hn4 hn5 hE3 x4 x5
  have q3c := cell_blk x3
  have q3f := frz_blk x3
  clear x3
  go_wp2_with (fail)
  (with_reducible refine (H1.out _ HE3.out).mono ?_)
  rintro e w4 ⟨hE4, ⟨ga, gc⟩, ⟨ka, kc⟩, ⟨ra, rc⟩, rfl, hG, hK, hR⟩
  have HE4 := Lib.hid (ext_trans HE3.out hE4); have HG4 := Lib.hid hG
  have x3 := Ext2.blk hE4 X3.out; have Y3 := Lib.hid x3; have Y4 := Lib.hid (Ext2.blk hE4 X4.out); have Y5 := Lib.hid (Ext2.blk hE4 X5.out)
  clear q3c q3f hE4 hG hK hR X3 X4 X5
  have q3c := cell_blk x3
  have q3f := frz_blk x3
  clear x3
  go_wp2_with (fail)
  (with_reducible refine (H3.out _ HE4.out).mono ?_)
  rintro e w5 ⟨rfl, hE5⟩
  have HE5 := Lib.hid (ext_trans HE4.out hE5); have HG5 := Lib.hid (RowS.below HG4.out hE5)
  have X3 := Lib.hid (Ext2.blk hE5 Y3.out); have X4 := Lib.hid (Ext2.blk hE5 Y4.out); have X5 := Lib.hid (Ext2.blk hE5 Y5.out)
  clear q3c q3f hE5 H3 HE3 HE4 HG4 Y3 Y4 Y5
  by_cases h0 : E ≠ 0 ∨ C ≠ 0 ∨ gn = 0
  · have HA5 := Lib.hid (HA.out _ HE5.out)
    by_cases h1 : E = 0
    · by_cases h2 : C = 0
      · have h3 : gn = 0 := by omega
        subst h1 h2 h3
        clear h0
        go_wp2_with (fail)
        (with_reducible refine HA5.out.mono ?_)
        rintro e w9 ⟨rfl, hE9⟩
        have HE9 := Lib.hid (ext_trans HE5.out hE9)
        clear hE9
        go_wp2_with (fail)
        go_ret
        exact ⟨rfl, HE9.out⟩
      · have b1 : (C != 0) = true := by simpa using h2
        subst h1
        clear h0
        go_wp2_with (fail)
        (with_reducible refine HA5.out.mono ?_)
        rintro e w9 ⟨rfl, hE9⟩
        have HE9 := Lib.hid (ext_trans HE5.out hE9)
        clear hE9
        go_wp2_with (fail)
        go_ret
        exact ⟨rfl, HE9.out⟩
    · have b1 : (E != 0) = true := by simpa using h1
      clear h0
      go_wp2_with (fail)
      (with_reducible refine HA5.out.mono ?_)
      rintro e w9 ⟨rfl, hE9⟩
      have HE9 := Lib.hid (ext_trans HE5.out hE9)
      clear hE9
      go_wp2_with (fail)
      go_ret
      exact ⟨rfl, HE9.out⟩
  · obtain ⟨rfl, rfl, hgn⟩ : E = 0 ∧ C = 0 ∧ 0 < gn := by omega
    have b1 : ((gn : Int) == 0) = false := by simp; omega
    clear h0
    have x3 := X3.out
    have q3c := cell_blk x3
    have q3f := frz_blk x3
    clear x3
    go_upto_region 6 with (fail)
    refine wp_name ?_
    intro w6 hw6
    obtain ⟨n6, hn6⟩ : ∃ n, n = w5.heap.size := ⟨_, rfl⟩
    have x6 : w6.heap[n6]? = some (Obj.cells #[.string T.reel.name, .int .i64 T.reel.gauge, .int .i64 T.reel.base, .int .i64 T.reel.frames, .int .i64 T.reel.ylo, .int .i64 T.reel.yhi, .int .i64 T.reel.keep, .slice (⟨tr, ⟨na, nc⟩⟩ : TSl).r.m.a T.reel.marks.length (⟨tr, ⟨na, nc⟩⟩ : TSl).r.m.cap, .slice (⟨tr, ⟨na, nc⟩⟩ : TSl).r.s.a T.reel.syms.length (⟨tr, ⟨na, nc⟩⟩ : TSl).r.s.cap, .slice (⟨tr, ⟨na, nc⟩⟩ : TSl).r.l.a T.reel.lens.length (⟨tr, ⟨na, nc⟩⟩ : TSl).r.l.cap, .int .i64 T.whole.lo, .int .i64 T.whole.hi, .slice (⟨tr, ⟨na, nc⟩⟩ : TSl).n.a T.notes.length (⟨tr, ⟨na, nc⟩⟩ : TSl).n.cap] 31) := by rw [hw6, hn6]; exact blk_new _ _
    dsimp only at x6
    have hE6 : Ext2 w5 w6 := by rw [hw6]; exact below_alloc' _ _
    rw [← hn6]
    have HE56 := Lib.hid hE6; have X6 := Lib.hid x6
    have HN6 : Hid (w5.heap.size ≤ n6) := Lib.hid (by omega)
    have XA3 := Lib.hid X3.out; have XA5 := Lib.hid X5.out
    have x3 := Ext2.blk hE6 X3.out; have x4 := Ext2.blk hE6 X4.out
    clear hw6 hn6 hE6 q3c q3f
    have q3c := cell_blk x3
    have q3f := frz_blk x3
    have q4c := cell_blk x4
    have q4f := frz_blk x4
    have q6c := cell_blk x6
    have q6f := frz_blk x6
    clear x3 x4 x6
    have hc : (checkV T).2.2 = 0 := by rw [← HPC.out]
    have hww := narW_in (task_ok hc).whole HPQ.out.1 HPQ.out.2
    have hok := (task_ok hc).whole
    have hpq := HPQ.out
    have f1 : IntKind.i64.wrap (T.whole.hi - T.whole.lo) = T.whole.hi - T.whole.lo := IntWalk.i64_in _ (by omega)
    have f2 : IntKind.i64.wrap p = p := IntWalk.i64_in _ (by omega)
    have f3 : IntKind.i64.wrap q = q := IntWalk.i64_in _ (by omega)
    have f4 : IntKind.i64.wrap ((T.whole.hi - T.whole.lo) * p) = (T.whole.hi - T.whole.lo) * p := IntWalk.i64_in _ ⟨by omega, by omega⟩
    have f5 : IntKind.i64.wrap ((T.whole.hi - T.whole.lo) * q) = (T.whole.hi - T.whole.lo) * q := IntWalk.i64_in _ ⟨by omega, by omega⟩
    obtain ⟨u1, hu1⟩ : ∃ u, u = (T.whole.hi - T.whole.lo) * p / 512 := ⟨_, rfl⟩
    obtain ⟨v1, hv1⟩ : ∃ u, u = (T.whole.hi - T.whole.lo) * q / 512 := ⟨_, rfl⟩
    obtain ⟨U, hU⟩ : ∃ U, U = T.whole.lo + u1 := ⟨_, rfl⟩
    obtain ⟨V, hV⟩ : ∃ U, U = T.whole.hi - v1 := ⟨_, rfl⟩
    have g1 : ((T.whole.hi - T.whole.lo) * p).tdiv 512 = u1 := by rw [hu1]; exact Int.tdiv_eq_ediv_of_nonneg (by omega)
    have g2 : ((T.whole.hi - T.whole.lo) * q).tdiv 512 = v1 := by rw [hv1]; exact Int.tdiv_eq_ediv_of_nonneg (by omega)
    have hn : narT T p q = { T with whole := ⟨U, V⟩ } := by rw [hU, hV, hu1, hv1]; rfl
    have hUV : 0 ≤ u1 ∧ u1 ≤ 400000 ∧ 0 ≤ v1 ∧ v1 ≤ 400000 := by omega
    have f6 : IntKind.i64.wrap u1 = u1 := IntWalk.i64_in _ (by omega)
    have f7 : IntKind.i64.wrap v1 = v1 := IntWalk.i64_in _ (by omega)
    have f8 : IntKind.i64.wrap (T.whole.lo + u1) = U := by rw [hU]; exact IntWalk.i64_in _ (by omega)
    have f9 : IntKind.i64.wrap (T.whole.hi - v1) = V := by rw [hV]; exact IntWalk.i64_in _ (by omega)
    have HN := Lib.hid hn
    clear hc hww hok hpq hu1 hv1 hU hV hn hUV
    go_upto_region 7 with (fail)
    refine wp_name ?_
    intro w7 hw7
    have x6 : w7.heap[n6]? = some (Obj.cells #[.string { T with whole := ⟨U, V⟩ }.reel.name, .int .i64 { T with whole := ⟨U, V⟩ }.reel.gauge, .int .i64 { T with whole := ⟨U, V⟩ }.reel.base, .int .i64 { T with whole := ⟨U, V⟩ }.reel.frames, .int .i64 { T with whole := ⟨U, V⟩ }.reel.ylo, .int .i64 { T with whole := ⟨U, V⟩ }.reel.yhi, .int .i64 { T with whole := ⟨U, V⟩ }.reel.keep, .slice (⟨tr, ⟨na, nc⟩⟩ : TSl).r.m.a { T with whole := ⟨U, V⟩ }.reel.marks.length (⟨tr, ⟨na, nc⟩⟩ : TSl).r.m.cap, .slice (⟨tr, ⟨na, nc⟩⟩ : TSl).r.s.a { T with whole := ⟨U, V⟩ }.reel.syms.length (⟨tr, ⟨na, nc⟩⟩ : TSl).r.s.cap, .slice (⟨tr, ⟨na, nc⟩⟩ : TSl).r.l.a { T with whole := ⟨U, V⟩ }.reel.lens.length (⟨tr, ⟨na, nc⟩⟩ : TSl).r.l.cap, .int .i64 { T with whole := ⟨U, V⟩ }.whole.lo, .int .i64 { T with whole := ⟨U, V⟩ }.whole.hi, .slice (⟨tr, ⟨na, nc⟩⟩ : TSl).n.a { T with whole := ⟨U, V⟩ }.notes.length (⟨tr, ⟨na, nc⟩⟩ : TSl).n.cap] 31) := by rw [hw7]; exact Eq.trans (blk_set (blk_set X6.out _ _) _ _) rfl
    dsimp only at x6
    have hE7 : Ext2 w5 w7 := by rw [hw7]; exact below_set (below_set HE56.out HN6.out) HN6.out
    have HE7 := Lib.hid (ext_trans HE5.out hE7); have HE57 := Lib.hid hE7
    have X67 := Lib.hid x6
    obtain ⟨⟨G2, K2, R2, E2⟩, hp2⟩ : ∃ p, p = gapsAns { T with whole := ⟨U, V⟩ } := ⟨_, rfl⟩
    have H2a := Lib.hid (H2.out U V)
    rw [← hp2] at H2a
    dsimp only at H2a
    have HP2 := Lib.hid hp2
    clear hw7 q3c q3f q4c q4f q6c q6f f1 f2 f3 f4 f5 f6 f7 f8 f9 g1 g2 hE7 H2 hp2 HE56 X6
    have q6c := cell_blk x6
    have q6f := frz_blk x6
    clear x6
    go_wp2_with (fail)
    (with_reducible refine (H2a.out _ HE7.out).mono ?_)
    rintro e w8 ⟨hE8, ⟨g2a, g2c⟩, ⟨k2a, k2c⟩, ⟨r2a, r2c⟩, rfl, hG2, -, -⟩
    have HE8 := Lib.hid (ext_trans HE7.out hE8); have HE58 := Lib.hid (ext_trans HE57.out hE8)
    have HG8 := Lib.hid (RowS.below HG5.out HE58.out)
    have X3 := Lib.hid (Ext2.blk HE58.out X3.out); have X5 := Lib.hid (Ext2.blk HE58.out X5.out); have X6 := Lib.hid (Ext2.blk hE8 X67.out)
    have hlt2 := (nar_part1 (T := T) (x := p) (y := q) (by rw [← HP1.out]) HPQ.out.1 HPQ.out.2)
    rw [HN.out, ← HP2.out, ← HP1.out] at hlt2
    dsimp only at hlt2
    have HHa := Lib.hid fun (h : holdsP G G2) => HHO.out ⟨ga, gc⟩ ⟨g2a, g2c⟩ G G2 w8 HG8.out hG2 h
    obtain ⟨g2n, hg2⟩ : ∃ n, n = G2.length := ⟨_, rfl⟩
    rw [← hg2, ← HGN.out] at HHa
    rw [← hg2]
    clear q6c q6f hE8 hG2 H2a HE57 HE7 HN X67 hg2
    go_upto_region 8 with (fail)
    go_cut [113] from 98 to 113 (fun v wx => v = .bool false ∧ Ext2 w8 wx)
    case first =>
      rcases hlt2 with h9 | ⟨h0, hh⟩
      · subst h9
        go_wp2_with (fail)
        go_meet
        case rel => exact ⟨rfl, Below.refl _ _⟩
      · subst h0
        have HHb := Lib.hid (HHa.out hh)
        clear hh
        go_wp2_with (fail)
        (with_reducible refine HHb.out.mono ?_)
        rintro e w9 ⟨rfl, hE9⟩
        have HE9 := Lib.hid hE9
        clear hE9
        go_wp2_with (fail)
        go_meet
        case rel => exact ⟨rfl, HE9.out⟩
    case rest =>
      obtain ⟨rfl, hE9⟩ := hcut
      obtain ⟨w9, rfl⟩ : ∃ x, x = wc := ⟨_, rfl⟩
      have HE9 := Lib.hid (ext_trans HE8.out hE9)
      have HG9 := Lib.hid (RowS.below HG8.out hE9)
      have X3 := Lib.hid (Ext2.blk hE9 X3.out); have X5 := Lib.hid (Ext2.blk hE9 X5.out); have X6 := Lib.hid (Ext2.blk hE9 X6.out)
      have HC9 := Lib.hid (ext_trans HE58.out hE9)
      clear hE9 HG8 HHa HE58 hlt2
      have hx1 := HXO.out.which; have hx2 := HXO.out.lo; have hx3 := HXO.out.wide
      dsimp only at hx1 hx2 hx3
      obtain ⟨j, hj⟩ : ∃ j : Nat, (j : Int) = XW % (gn : Int) := ⟨(XW % gn).toNat, by have := Int.emod_nonneg XW (b := gn) (by omega); omega⟩
      have hjl : j < gn := by have := Int.emod_lt_of_pos XW (b := gn) (by omega); omega
      have hrem : XW.tmod (gn : Int) = (j : Int) := by rw [Int.tmod_eq_emod_of_nonneg (by omega)]; exact hj.symm
      have hrem2 : XW % (gn : Int) = (j : Int) := hj.symm
      have wX : IntKind.i64.wrap XW = XW := IntWalk.i64_in _ (by omega)
      have hz1 : ¬ (gn : Int) = 0 := by omega
      have hz2 : ¬ gn = 0 := by omega
      have g1 : (0 : Int) ≤ (j : Int) := by omega
      have g2 : (j : Int) < (gn : Int) := by omega
      obtain ⟨gb, goff, hga, d0, d1, d2, d3⟩ := gp_cells HG9.out (i := j) (by rw [← HGN.out]; exact hjl)
      have hgm : gpD G j ∈ G := by unfold gpD; rw [List.getD_eq_getElem?_getD, List.getElem?_eq_getElem (by rw [← HGN.out]; exact hjl)]; exact List.getElem_mem _
      obtain ⟨y, hy⟩ : ∃ y, y = gpD G j := ⟨_, rfl⟩
      rw [← hy] at d0 d1 d2 d3 hgm
      have HGM := Lib.hid hgm; have HX2 := Lib.hid hx2; have HX3 := Lib.hid hx3
      dsimp only at hga
      subst hga
      have x5 := X5.out
      have q5c := cell_blk x5
      have q5f := frz_blk x5
      clear x5 hj hjl hy hgm hx1 hx2 hx3 hgn
      go_upto_region 12 with (fail)
      refine wp_name ?_
      intro w10 hw10
      obtain ⟨n10, hn10⟩ : ∃ n, n = w9.heap.size := ⟨_, rfl⟩
      have x10 : w10.heap[n10]? = some (Obj.cells #[.int .i64 y.frame, .int .i64 y.kind, .int .i64 y.lo, .int .i64 y.hi] 49) := by rw [hw10, hn10]; exact blk_new _ _
      have hE10 : Ext2 w9 w10 := by rw [hw10]; exact below_alloc' _ _
      rw [← hn10]
      have HE10 := Lib.hid (ext_trans HE9.out hE10); have HG10 := Lib.hid (RowS.below HG9.out hE10)
      have Y3 := Lib.hid (Ext2.blk hE10 X3.out); have Y5 := Lib.hid (Ext2.blk hE10 X5.out); have Y6 := Lib.hid (Ext2.blk hE10 X6.out); have Y10 := Lib.hid x10
      have HL60 : Hid (T.notes.length ≤ 60) := Lib.hid (task_ok (T := T) (by rw [← HPC.out])).nn
      have HNT := Lib.hid HT.out.nt
      obtain ⟨nn, hnn⟩ : ∃ n, n = T.notes.length := ⟨_, rfl⟩
      have HNN := Lib.hid hnn
      have HLW := Lib.hid (ext_trans HE9.out hE10)
      have HC10 := Lib.hid (ext_trans HC9.out hE10)
      have HNE : Hid (n6 < n10) := Lib.hid (by rw [hn10]; exact blk_lt X6.out)
      clear hnn hw10 hn10 x10 hE10 q5c q5f d0 d1 d2 d3 hrem hrem2 wX hz1 hz2 g1 g2 X3 X5 X6 HE9 HG9
      go_wp2_with (fail)
      go_loopw [6, 20] (fun _ iv W => ∃ k : Nat, iv = .int .i64 k ∧ k ≤ nn ∧ Ext2 w10 W ∧ ∀ i, i < k → (ntD T.notes i).by_ ≠ zoe ∧ ((ntD T.notes i).from_ = y.frame → ltB zoe (ntD T.notes i).by_ = false)) (fun _ iv _ => nn - (intOf iv).toNat)
      case atStart => exact ⟨0, rfl, by omega, Below.refl _ _, fun i h => absurd h (Nat.not_lt_zero i)⟩
      case round =>
        obtain ⟨k, rfl, hk, hE, hok⟩ := hrel
        have HE := Lib.hid hE; have HOK := Lib.hid hok
        have Y33 := Lib.hid (Ext2.blk hE Y3.out); have Y103 := Lib.hid (Ext2.blk hE Y10.out)
        have x3 := Y33.out
        rw [← HNN.out] at x3
        have q3c := cell_blk x3
        have q3f := frz_blk x3
        clear hE hok x3
        by_cases hlt : k < nn
        ·
          --[
          obtain ⟨b1, off1, hsa, c0, -, -, -, c4, -, -, -⟩ := nt_cells (HNT.out.below (ext_trans HLW.out HE.out)) (i := k) (by rw [← HNN.out]; exact hlt)
          dsimp only at hsa
          subst hsa
          obtain ⟨x, hx⟩ : ∃ x, x = ntD T.notes k := ⟨_, rfl⟩
          rw [← hx] at c0 c4
          have HXX := Lib.hid hx
          have f1 : (0 : Int) ≤ (k : Int) := by omega
          have f2 : (k : Int) < (nn : Int) := by omega
          have e1 : decide ((0 : Int) ≤ (k : Int)) = true := decide_eq_true f1
          have e2 : decide ((k : Int) < (nn : Int)) = true := decide_eq_true f2
          have wk : IntKind.i64.wrap ((k : Int) + 1) = (k : Int) + 1 := IntWalk.i64_in _ (by have := HL60.out; have := HNN.out; omega)
          have HAK := Lib.hid (HA.out _ (ext_trans HLW.out HE.out)); have HEA := Lib.hid (ext_trans HLW.out HE.out)
          have z1 := zoe_eq x.by_
          have x10 := Y103.out
          have q10c := cell_blk x10
          have q10f := frz_blk x10
          clear hx x10
          by_cases hz : x.by_ = zoe
          · have z3 : decide (x.by_ = zoe) = true := decide_eq_true hz
            rw [z3] at z1
            clear hz z3
            go_wp2_with (fail)
            (with_reducible refine HAK.out.mono ?_)
            rintro e w9 ⟨rfl, hE9⟩
            have HE9 := Lib.hid (ext_trans HEA.out hE9)
            clear hE9
            go_wp2_with (fail)
            go_ret
            exact ⟨rfl, HE9.out⟩
          · have z3 : decide (x.by_ = zoe) = false := decide_eq_false hz
            rw [z3] at z1
            have HZ0 := Lib.hid hz
            have z2 := gt_zoe hz
            clear hz z3
            obtain ⟨B, hB⟩ : ∃ B, B = ltB zoe x.by_ := ⟨_, rfl⟩
            rw [← hB] at z2
            have HB := Lib.hid hB
            clear hB
            cases B with
            | false =>
              rw [Bool.not_false] at z2
              have HOK2 : Hid (∀ i, i < k + 1 → (ntD T.notes i).by_ ≠ zoe ∧ ((ntD T.notes i).from_ = y.frame → ltB zoe (ntD T.notes i).by_ = false)) := Lib.hid fun i hi => by
                rcases Nat.lt_or_ge i k with h | h
                · exact HOK.out i h
                · obtain rfl : i = k := by omega
                  rw [← HXX.out]; exact ⟨HZ0.out, fun _ => HB.out.symm⟩
              go_upto_region 17 with (fail)
              refine region_ev [] [0, 1, 2, 3, 4, 5, 6, 7, 8, 9, 10, 11, 12, 13, 14, 15, 16, 17] [] [] (by kernel_rfl) (by kernel_rfl) (by intro c a d v w h; cases d <;> exact h) ?_
              simp only [picks, List.drop_succ_cons, List.drop_zero]
              repeat (refine wpQ0_step (fun K hK => ?_); go_simp; (refine hK _ ?_; clear hK K))
              refine wpQ0_nil ?_
              repeat ((with_reducible refine wpQ2_step (fun K hK => ?_)); go_simp; first | ((with_reducible refine hK _ ?_); clear hK K) | (apply Exists.intro; refine ⟨fun x => ?_, hK _ ?_⟩; (fail); clear hK K) | (refine ite_undef (fun h => (by have h_ : (none : Option Bool) = some _ := h; cases h_)) ?_; (with_reducible refine hK _ ?_); clear hK K))
              (with_reducible refine wpQ2_nil ?_)
              refine Events.none_ fun w11 hg11 => ?_
              simp only [picks, List.drop_succ_cons, List.drop_zero]
              have HE11 := Lib.hid (ext_trans HE.out hg11)
              clear c0 c4 q3c q3f q10c q10f z1 z2 hg11
              (try clear b4)
              go_wp2_with (fail)
              go_roundw
              case rel => exact ⟨k + 1, by go_num, by omega, HE11.out, HOK2.out⟩
              case measure => simp [intOf]; omega
            | true =>
              rw [Bool.not_true] at z2
              by_cases hf : x.from_ = y.frame
              · have b4 : (x.from_ == y.frame) = true := by simpa using hf
                clear hf
                go_upto_region 17 with (fail)
                refine region_ev [] [0, 1, 2, 3, 4, 5, 6, 7, 8, 9, 10, 11, 12, 13, 14, 15, 16, 17] [] [] (by kernel_rfl) (by kernel_rfl) (by intro c a d v w h; cases d <;> exact h) ?_
                simp only [picks, List.drop_succ_cons, List.drop_zero]
                repeat (refine wpQ0_step (fun K hK => ?_); go_simp; (refine hK _ ?_; clear hK K))
                refine wpQ0_nil ?_
                repeat ((with_reducible refine wpQ2_step (fun K hK => ?_)); go_simp; first | ((with_reducible refine hK _ ?_); clear hK K) | (apply Exists.intro; refine ⟨fun x => ?_, hK _ ?_⟩; (fail); clear hK K) | (refine ite_undef (fun h => (by have h_ : (none : Option Bool) = some _ := h; cases h_)) ?_; (with_reducible refine hK _ ?_); clear hK K))
                (with_reducible refine wpQ2_nil ?_)
                refine Events.none_ fun w11 hg11 => ?_
                simp only [picks, List.drop_succ_cons, List.drop_zero]
                clear c0 c4 q3c q3f q10c q10f z1 z2 b4
                have HAK2 := Lib.hid (HA.out _ (ext_trans HEA.out hg11)); have HEA2 := Lib.hid (ext_trans HEA.out hg11)
                go_wp2_with (fail)
                (with_reducible refine HAK2.out.mono ?_)
                rintro e w9 ⟨rfl, hE9⟩
                have HE9 := Lib.hid (ext_trans HEA2.out hE9)
                clear hE9
                go_wp2_with (fail)
                go_ret
                exact ⟨rfl, HE9.out⟩
              · have b4 : (x.from_ == y.frame) = false := by simpa using hf
                have HOK2 : Hid (∀ i, i < k + 1 → (ntD T.notes i).by_ ≠ zoe ∧ ((ntD T.notes i).from_ = y.frame → ltB zoe (ntD T.notes i).by_ = false)) := Lib.hid fun i hi => by
                  rcases Nat.lt_or_ge i k with h | h
                  · exact HOK.out i h
                  · obtain rfl : i = k := by omega
                    rw [← HXX.out]; exact ⟨HZ0.out, fun h => absurd h hf⟩
                clear hf
                go_upto_region 17 with (fail)
                refine region_ev [] [0, 1, 2, 3, 4, 5, 6, 7, 8, 9, 10, 11, 12, 13, 14, 15, 16, 17] [] [] (by kernel_rfl) (by kernel_rfl) (by intro c a d v w h; cases d <;> exact h) ?_
                simp only [picks, List.drop_succ_cons, List.drop_zero]
                repeat (refine wpQ0_step (fun K hK => ?_); go_simp; (refine hK _ ?_; clear hK K))
                refine wpQ0_nil ?_
                repeat ((with_reducible refine wpQ2_step (fun K hK => ?_)); go_simp; first | ((with_reducible refine hK _ ?_); clear hK K) | (apply Exists.intro; refine ⟨fun x => ?_, hK _ ?_⟩; (fail); clear hK K) | (refine ite_undef (fun h => (by have h_ : (none : Option Bool) = some _ := h; cases h_)) ?_; (with_reducible refine hK _ ?_); clear hK K))
                (with_reducible refine wpQ2_nil ?_)
                refine Events.none_ fun w11 hg11 => ?_
                simp only [picks, List.drop_succ_cons, List.drop_zero]
                have HE11 := Lib.hid (ext_trans HE.out hg11)
                clear c0 c4 q3c q3f q10c q10f z1 z2 hg11
                (try clear b4)
                go_wp2_with (fail)
                go_roundw
                case rel => exact ⟨k + 1, by go_num, by omega, HE11.out, HOK2.out⟩
                case measure => simp [intOf]; omega
          --]
        · obtain rfl : nn = k := by omega
          have hnk : ¬ (nn : Int) < (nn : Int) := by omega
          have HEW := Lib.hid (ext_trans HLW.out HE.out)
          have HG11 := Lib.hid (RowS.below HG10.out HE.out)
          have Z5 := Lib.hid (Ext2.blk HE.out Y5.out); have Z6 := Lib.hid (Ext2.blk HE.out Y6.out)
          obtain ⟨M, hM⟩ : ∃ M, M = standV T.notes := ⟨_, rfl⟩
          have HMC : Hid (Calls Tryz.prog 11 #[.slice (some ⟨wr.heap.size, 0, none⟩) 1 1] (wr.alloc (.cells #[.slice na nn nc] 29 (0, 0))) fun e w' => (∃ s' : Sl, e = .returned (.tuple #[.slice s'.a M.length s'.cap, .int .i64 0]) ∧ NotesS w' s' M) ∧ Ext2 wr w') := Lib.hid (by
            have hrow : RowS (wr.alloc (.cells #[.slice na nn nc] 29 (0, 0))) ⟨some ⟨wr.heap.size, 0, none⟩, 1⟩ 1 1 (fun i _ => .slice na ([T.notes].getD i []).length nc) := rows_blk (blk_new _ _) (by omega) (fun i j hi hj => by obtain rfl : i = 0 := (by omega); obtain rfl : j = 0 := (by omega); rw [HNN.out]; rfl)
            have h := merge_any (ls := [T.notes]) (s := ⟨some ⟨wr.heap.size, 0, none⟩, 1⟩) (hs := fun _ => ⟨na, nc⟩) ⟨hrow, fun i hi => by obtain rfl : i = 0 := Nat.lt_one_iff.1 hi; exact HNT.out.below (ext_trans HEW.out (below_alloc' _ _)), fun l hl x hx => by obtain rfl := List.mem_singleton.1 hl; exact HT.out.sizes x hx⟩ (HMX.out.below (ext_trans HEW.out (below_alloc' _ _)))
            unfold MrgOut at h
            rw [merge_self (by rw [← HPC.out])] at h
            rw [hM]
            exact h.mono fun e w' h => ⟨h.1, ext_trans (below_alloc' _ _) h.2⟩)
          obtain ⟨mn, hmn⟩ : ∃ n, n = M.length := ⟨_, rfl⟩
          have hml : mn ≤ 60 := by
            have h1 := standK_len' (l := T.notes) (r := T.notes) (out := [])
            have h2 := HL60.out
            rw [hmn, hM]; unfold standV; simp only [List.length_nil] at *; omega
          rw [← hmn] at HMC
          have HMM := Lib.hid hM; have HMN := Lib.hid hmn; have HML := Lib.hid hml
          clear hM hmn hml
          go_wp2_with (fail)
          (with_reducible refine HMC.out.mono ?_)
          rintro e w12 ⟨⟨⟨ma, mc⟩, rfl, hMS⟩, hE12⟩
          have HC12 := Lib.hid (ext_trans (ext_trans HC10.out HE.out) hE12)
          have HE12 := Lib.hid (ext_trans HEW.out hE12); have HMS := Lib.hid hMS; have HG12 := Lib.hid (RowS.below HG11.out hE12)
          have V3 := Lib.hid (Ext2.blk hE12 Y33.out); have V5 := Lib.hid (Ext2.blk hE12 Z5.out); have V6 := Lib.hid (Ext2.blk hE12 Z6.out); have V10 := Lib.hid (Ext2.blk hE12 Y103.out)
          clear q3c q3f hE12 hMS HMC Y33 Y103 Z5 Z6 Y3 Y5 Y6 Y10 HG10 HG11 HE HEW HE10
          go_wp2_with (fail)
          go_loopw [19, 22] (fun nv iv W => ∃ k : Nat, iv = .int .i64 k ∧ k ≤ mn ∧ Ext2 w12 W ∧ nv = .bool ((M.take k).any fun x => decide (x.kind = 1) && decide (x.from_ = y.frame))) (fun _ iv _ => mn - (intOf iv).toNat)
          case atStart => exact ⟨0, rfl, by omega, Below.refl _ _, rfl⟩
          case round =>
            obtain ⟨k, rfl, hk, hE, rfl⟩ := hrel
            have HE := Lib.hid hE
            have U10 := Lib.hid (Ext2.blk hE V10.out)
            clear hE
            by_cases hlt : k < mn
            ·
              --[
              go_light
              obtain ⟨b1, off1, hsa, -, -, -, c3, c4, -, -, -⟩ := nt_cells (HMS.out.below HE.out) (i := k) (by rw [← HMN.out]; exact hlt)
              dsimp only at hsa
              subst hsa
              have hat := any_take (l := M) (fun x => decide (x.kind = 1) && decide (x.from_ = y.frame)) (k := k) (by rw [← HMN.out]; exact hlt)
              obtain ⟨x, hx⟩ : ∃ x, x = ntD M k := ⟨_, rfl⟩
              rw [← hx] at c3 c4 hat
              obtain ⟨B, hB⟩ : ∃ B, B = (M.take k).any fun x => decide (x.kind = 1) && decide (x.from_ = y.frame) := ⟨_, rfl⟩
              rw [← hB] at hat ⊢
              have f1 : (0 : Int) ≤ (k : Int) := by omega
              have f2 : (k : Int) < (mn : Int) := by omega
              have e1 : decide ((0 : Int) ≤ (k : Int)) = true := decide_eq_true f1
              have e2 : decide ((k : Int) < (mn : Int)) = true := decide_eq_true f2
              have wk : IntKind.i64.wrap ((k : Int) + 1) = (k : Int) + 1 := IntWalk.i64_in _ (by have := HML.out; omega)
              have x10 := U10.out
              have q10c := cell_blk x10
              have q10f := frz_blk x10
              clear hx x10 hB
              cases B with
              | true =>
                rw [Bool.true_or] at hat
                go_upto_region 25 with (fail)
                refine region_ev [] [0, 1, 2, 3, 4, 5, 6, 7, 8, 9, 10, 11, 12, 13, 14, 15, 16, 17, 18, 19] [] [] (by kernel_rfl) (by kernel_rfl) (by intro c a d v w h; cases d <;> exact h) ?_
                simp only [picks, List.drop_succ_cons, List.drop_zero]
                repeat (refine wpQ0_step (fun K hK => ?_); go_simp; (refine hK _ ?_; clear hK K))
                refine wpQ0_nil ?_
                repeat ((with_reducible refine wpQ2_step (fun K hK => ?_)); go_simp; first | ((with_reducible refine hK _ ?_); clear hK K) | (apply Exists.intro; refine ⟨fun x => ?_, hK _ ?_⟩; (fail); clear hK K) | (refine ite_undef (fun h => (by have h_ : (none : Option Bool) = some _ := h; cases h_)) ?_; (with_reducible refine hK _ ?_); clear hK K))
                (with_reducible refine wpQ2_nil ?_)
                refine Events.none_ fun w13 hg13 => ?_
                simp only [picks, List.drop_succ_cons, List.drop_zero]
                have HE13 := Lib.hid (ext_trans HE.out hg13)
                clear c3 c4 q10c q10f hg13
                (try clear b3); (try clear b4)
                go_wp2_with (fail)
                go_roundw
                case rel => exact ⟨k + 1, by go_num, by omega, HE13.out, by (rw [hat]) <;> rfl⟩
                case measure => simp [intOf]; omega
              | false =>
                rw [Bool.false_or] at hat
                by_cases k1 : x.kind = 1
                · have b3 : (x.kind == 1) = true := by simpa using k1
                  by_cases k4 : x.from_ = y.frame
                  · have b4 : (x.from_ == y.frame) = true := by simpa using k4
                    rw [decide_eq_true k1, decide_eq_true k4] at hat
                    clear k1 k4
                    go_upto_region 25 with (fail)
                    refine region_ev [] [0, 1, 2, 3, 4, 5, 6, 7, 8, 9, 10, 11, 12, 13, 14, 15, 16, 17, 18, 19] [] [] (by kernel_rfl) (by kernel_rfl) (by intro c a d v w h; cases d <;> exact h) ?_
                    simp only [picks, List.drop_succ_cons, List.drop_zero]
                    repeat (refine wpQ0_step (fun K hK => ?_); go_simp; (refine hK _ ?_; clear hK K))
                    refine wpQ0_nil ?_
                    repeat ((with_reducible refine wpQ2_step (fun K hK => ?_)); go_simp; first | ((with_reducible refine hK _ ?_); clear hK K) | (apply Exists.intro; refine ⟨fun x => ?_, hK _ ?_⟩; (fail); clear hK K) | (refine ite_undef (fun h => (by have h_ : (none : Option Bool) = some _ := h; cases h_)) ?_; (with_reducible refine hK _ ?_); clear hK K))
                    (with_reducible refine wpQ2_nil ?_)
                    refine Events.none_ fun w13 hg13 => ?_
                    simp only [picks, List.drop_succ_cons, List.drop_zero]
                    have HE13 := Lib.hid (ext_trans HE.out hg13)
                    clear c3 c4 q10c q10f hg13
                    (try clear b3); (try clear b4)
                    go_wp2_with (fail)
                    go_roundw
                    case rel => exact ⟨k + 1, by go_num, by omega, HE13.out, by (rw [hat]) <;> rfl⟩
                    case measure => simp [intOf]; omega
                  · have b4 : (x.from_ == y.frame) = false := by simpa using k4
                    rw [decide_eq_false k4, Bool.and_false] at hat
                    clear k1 k4
                    go_upto_region 25 with (fail)
                    refine region_ev [] [0, 1, 2, 3, 4, 5, 6, 7, 8, 9, 10, 11, 12, 13, 14, 15, 16, 17, 18, 19] [] [] (by kernel_rfl) (by kernel_rfl) (by intro c a d v w h; cases d <;> exact h) ?_
                    simp only [picks, List.drop_succ_cons, List.drop_zero]
                    repeat (refine wpQ0_step (fun K hK => ?_); go_simp; (refine hK _ ?_; clear hK K))
                    refine wpQ0_nil ?_
                    repeat ((with_reducible refine wpQ2_step (fun K hK => ?_)); go_simp; first | ((with_reducible refine hK _ ?_); clear hK K) | (apply Exists.intro; refine ⟨fun x => ?_, hK _ ?_⟩; (fail); clear hK K) | (refine ite_undef (fun h => (by have h_ : (none : Option Bool) = some _ := h; cases h_)) ?_; (with_reducible refine hK _ ?_); clear hK K))
                    (with_reducible refine wpQ2_nil ?_)
                    refine Events.none_ fun w13 hg13 => ?_
                    simp only [picks, List.drop_succ_cons, List.drop_zero]
                    have HE13 := Lib.hid (ext_trans HE.out hg13)
                    clear c3 c4 q10c q10f hg13
                    (try clear b3); (try clear b4)
                    go_wp2_with (fail)
                    go_roundw
                    case rel => exact ⟨k + 1, by go_num, by omega, HE13.out, by (rw [hat]) <;> rfl⟩
                    case measure => simp [intOf]; omega
                · have b3 : (x.kind == 1) = false := by simpa using k1
                  rw [decide_eq_false k1, Bool.false_and] at hat
                  clear k1
                  go_upto_region 25 with (fail)
                  refine region_ev [] [0, 1, 2, 3, 4, 5, 6, 7, 8, 9, 10, 11, 12, 13, 14, 15, 16, 17, 18, 19] [] [] (by kernel_rfl) (by kernel_rfl) (by intro c a d v w h; cases d <;> exact h) ?_
                  simp only [picks, List.drop_succ_cons, List.drop_zero]
                  repeat (refine wpQ0_step (fun K hK => ?_); go_simp; (refine hK _ ?_; clear hK K))
                  refine wpQ0_nil ?_
                  repeat ((with_reducible refine wpQ2_step (fun K hK => ?_)); go_simp; first | ((with_reducible refine hK _ ?_); clear hK K) | (apply Exists.intro; refine ⟨fun x => ?_, hK _ ?_⟩; (fail); clear hK K) | (refine ite_undef (fun h => (by have h_ : (none : Option Bool) = some _ := h; cases h_)) ?_; (with_reducible refine hK _ ?_); clear hK K))
                  (with_reducible refine wpQ2_nil ?_)
                  refine Events.none_ fun w13 hg13 => ?_
                  simp only [picks, List.drop_succ_cons, List.drop_zero]
                  have HE13 := Lib.hid (ext_trans HE.out hg13)
                  clear c3 c4 q10c q10f hg13
                  (try clear b3); (try clear b4)
                  go_wp2_with (fail)
                  go_roundw
                  case rel => exact ⟨k + 1, by go_num, by omega, HE13.out, by (rw [hat]) <;> rfl⟩
                  case measure => simp [intOf]; omega
              --]
            · obtain rfl : mn = k := by omega
              have hnk' : ¬ (mn : Int) < (mn : Int) := by omega
              have HND : Hid ((M.take mn).any (fun x => decide (x.kind = 1) && decide (x.from_ = y.frame)) = M.any fun x => decide (x.kind = 1) && decide (x.from_ = y.frame)) := Lib.hid (by rw [HMN.out, List.take_length])
              rw [HND.out]
              obtain ⟨nd, hnd⟩ : ∃ b, b = M.any fun x => decide (x.kind = 1) && decide (x.from_ = y.frame) := ⟨_, rfl⟩
              rw [← hnd]
              have HND2 := Lib.hid hnd
              have HEW := Lib.hid (ext_trans HE12.out HE.out); have HC13 := Lib.hid (ext_trans HC12.out HE.out)
              have HG13 := Lib.hid (RowS.below HG12.out HE.out)
              have U3 := Lib.hid (Ext2.blk HE.out V3.out); have U5 := Lib.hid (Ext2.blk HE.out V5.out); have U6 := Lib.hid (Ext2.blk HE.out V6.out)
              have HA13 := Lib.hid (HA.out _ HEW.out)
              have x3 := U3.out; have x10 := U10.out
              have q3c := cell_blk x3
              have q3f := frz_blk x3
              have q10c := cell_blk x10
              have q10f := frz_blk x10
              clear hnd x3 x10 HND V3 V5 V6 V10 HG12
              by_cases k2 : y.kind = 2
              · have b2 : (y.kind != 2) = false := by simpa using k2
                cases nd with
                | false =>
                  clear k2
                  go_wp2_with (fail)
                  (with_reducible refine HA13.out.mono ?_)
                  rintro e w9 ⟨rfl, hE9⟩
                  have HE9 := Lib.hid (ext_trans HEW.out hE9)
                  clear hE9
                  go_wp2_with (fail)
                  go_ret
                  exact ⟨rfl, HE9.out⟩
                | true =>
                  by_cases h60 : 60 ≤ nn
                  · have b6 : (60 : Int) ≤ (T.notes.length : Int) := by rw [← HNN.out]; omega
                    clear k2 h60
                    go_wp2_with (fail)
                    (with_reducible refine HA13.out.mono ?_)
                    rintro e w9 ⟨rfl, hE9⟩
                    have HE9 := Lib.hid (ext_trans HEW.out hE9)
                    clear hE9
                    go_wp2_with (fail)
                    go_ret
                    exact ⟨rfl, HE9.out⟩
                  · have b6 : ¬ (60 : Int) ≤ (T.notes.length : Int) := by rw [← HNN.out]; omega
                    have HK2 := Lib.hid k2; have H60 := Lib.hid h60
                    clear k2 h60
                    have x6 := U6.out
                    clear x6
                    go_upto_region 29 with (((with_reducible refine wpList_store_row (o := ⟨none, .store 31 (.tmp 14) (.tmp 205), _, _, _, _⟩) ?a1 31 (.tmp 14) (.tmp 205) ?a2 n6 #[.string T.reel.name, .int .i64 T.reel.gauge, .int .i64 T.reel.base, .int .i64 T.reel.frames, .int .i64 T.reel.ylo, .int .i64 T.reel.yhi, .int .i64 T.reel.keep, .slice (⟨tr, ⟨na, nc⟩⟩ : TSl).r.m.a T.reel.marks.length (⟨tr, ⟨na, nc⟩⟩ : TSl).r.m.cap, .slice (⟨tr, ⟨na, nc⟩⟩ : TSl).r.s.a T.reel.syms.length (⟨tr, ⟨na, nc⟩⟩ : TSl).r.s.cap, .slice (⟨tr, ⟨na, nc⟩⟩ : TSl).r.l.a T.reel.lens.length (⟨tr, ⟨na, nc⟩⟩ : TSl).r.l.cap, .int .i64 T.whole.lo, .int .i64 T.whole.hi, .slice (⟨tr, ⟨na, nc⟩⟩ : TSl).n.a T.notes.length (⟨tr, ⟨na, nc⟩⟩ : TSl).n.cap] ?a3 ?a4 31 ?old ?a5 (task_info _ rfl) ?a7 ?a8 ?a9); (case a1 => rfl); (case a2 => rfl); (case a3 => rfl); (case a4 => rfl); (case a5 => exact U6.out); (case a7 => rfl); (case a8 => simp [Value.oneCell']); refine wpL_name ?_; intro w28 hw28; have x6 := setRow_heap _ _ _ #[.string T.reel.name, .int .i64 T.reel.gauge, .int .i64 T.reel.base, .int .i64 T.reel.frames, .int .i64 T.reel.ylo, .int .i64 T.reel.yhi, .int .i64 T.reel.keep, .slice (⟨tr, ⟨na, nc⟩⟩ : TSl).r.m.a T.reel.marks.length (⟨tr, ⟨na, nc⟩⟩ : TSl).r.m.cap, .slice (⟨tr, ⟨na, nc⟩⟩ : TSl).r.s.a T.reel.syms.length (⟨tr, ⟨na, nc⟩⟩ : TSl).r.s.cap, .slice (⟨tr, ⟨na, nc⟩⟩ : TSl).r.l.a T.reel.lens.length (⟨tr, ⟨na, nc⟩⟩ : TSl).r.l.cap, .int .i64 T.whole.lo, .int .i64 T.whole.hi, .slice (⟨tr, ⟨na, nc⟩⟩ : TSl).n.a T.notes.length (⟨tr, ⟨na, nc⟩⟩ : TSl).n.cap] _ _ U6.out; rw [← hw28] at x6; (have HS28 := Lib.hid hw28); clear hw28))
                    dsimp only at x6
                    have hE28 : Ext2 w5 w28 := by rw [HS28.out]; exact below_setRow HC13.out HN6.out _
                    have hg28 : w28.heap[n10]? = some (Obj.cells #[.int .i64 y.frame, .int .i64 y.kind, .int .i64 y.lo, .int .i64 y.hi] 49) := by rw [HS28.out, setRow_other _ _ _ _ (by have := HNE.out; omega)]; exact U10.out
                    have HNA : Hid (NaS w5 n6 n10 T ⟨tr, ⟨na, nc⟩⟩ y w28) := Lib.hid ⟨hE28, hg28, _, x6⟩
                    have HTN : Hid (RowS w5 ⟨na, nc⟩ 8 T.notes.length (ntC T.notes)) := Lib.hid (HNT.out.below HE5.out)
                    have HNS : Hid (n6 < n10 ∧ w5.heap.size ≤ n6) := Lib.hid ⟨HNE.out, HN6.out⟩
                    have HNL : Hid (T.notes.length < 60) := Lib.hid (by have := H60.out; have := HNN.out; omega)
                    have hx2 := HX2.out; have hx3 := HX3.out
                    have w1' : IntKind.i64.wrap XL = XL := IntWalk.i64_in _ (by omega)
                    have w2' : IntKind.i64.wrap XI = XI := IntWalk.i64_in _ (by omega)
                    have w3' : IntKind.i64.wrap (XL + XI) = XL + XI := IntWalk.i64_in _ (by omega)
                    have W1 := Lib.hid w1'; have W2 := Lib.hid w2'; have W3 := Lib.hid w3'
                    clear hE28 hg28 x6 hx2 hx3 w1' w2' w3' HS28 q3c q3f q10c q10f b2 b6 hnk hnk' hk
                    refine meetV3 (C := fun (_be bq : Nat) (v1 : Value) (u : World) => NaS w5 n6 n10 T ⟨tr, ⟨na, nc⟩⟩ y u ∧ OwnR u (n10 + 1) 58 8 v1 T.notes.length (ntC T.notes) ∧ u.heap[bq]? = some (Obj.cells #[.string (zoeN y.frame XL (XL + XI)).by_, .int .i64 (zoeN y.frame XL (XL + XI)).number, .int .i64 (zoeN y.frame XL (XL + XI)).rev, .int .i64 (zoeN y.frame XL (XL + XI)).kind, .int .i64 (zoeN y.frame XL (XL + XI)).from_, .int .i64 (zoeN y.frame XL (XL + XI)).until_, .int .i64 (zoeN y.frame XL (XL + XI)).mlo, .int .i64 (zoeN y.frame XL (XL + XI)).mhi] 58)) (P := Tryz.prog) (l := ?ll) (t := (.one 21 (.flt [22] (.one 23 .leaf)))) (Q := ?qq) (S := NaS w5 n6 n10 T ⟨tr, ⟨na, nc⟩⟩ y) (A := ?ax) (fun key => ?tr) ?ke
                    case tr =>
                      refine region_treeV (NaS w5 n6 n10 T ⟨tr, ⟨na, nc⟩⟩ y) (.flt [1, 2, 4, 5, 6, 7, 8, 9, 10, 11, 12, 13, 14, 15, 16, 17, 18, 19] (.two 0 (.two 3 (.one 20 (.one 21 (.flt [22] (.one 23 .leaf)))) 20 (.one 3 (.one 21 (.flt [22] (.one 23 .leaf))))) 20 (.one 0 (.one 3 (.one 21 (.flt [22] (.one 23 .leaf))))))) (fun W h => HNA.out.ext h) (by kernel_rfl) (by kernel_rfl) (by intro c a d v w h; cases d <;> exact h) ?_
                      intro u0 hu1
                      have hu0 := HNA.out.ext hu1
                      have HU := Lib.hid hu0
                      clear hu1
                      have z3 := fun (x : Cls (NaS w5 n6 n10 T ⟨tr, ⟨na, nc⟩⟩ y)) (o : Nat) => cell_blk (Ext2.blk x.2.e XA3.out) o
                      have z5 := fun (x : Cls (NaS w5 n6 n10 T ⟨tr, ⟨na, nc⟩⟩ y)) (o : Nat) => cell_blk (Ext2.blk x.2.e XA5.out) o
                      have z10 := fun (x : Cls (NaS w5 n6 n10 T ⟨tr, ⟨na, nc⟩⟩ y)) (o : Nat) => cell_blk x.2.g o
                      have w1' := W1.out; have w2' := W2.out; have w3' := W3.out
                      have hne : Nonempty (Cls (NaS w5 n6 n10 T ⟨tr, ⟨na, nc⟩⟩ y)) := ⟨⟨u0, HU.out⟩⟩
                      clear hu0
                      refine wpV_flt ?_
                      simp only [picks, List.drop_succ_cons, List.drop_zero]
                      repeat ((with_reducible refine wpQS_step (fun K hK => ?_)); go_simp; ((with_reducible refine hK _ ?_); clear hK K))
                      (with_reducible refine wpQS_nil ?_)
                      clear z3 z5 z10 w1' w2' w3'
                      refine wpV_two ?_ ?_
                      · skip
                        simp only [picks, List.drop_succ_cons, List.drop_zero]
                        go_wp2_with (fail)
                        refine andV_name (fun u2 hu2 => ?_)
                        obtain ⟨be, hbe⟩ : ∃ b, b = u0.heap.size := ⟨_, rfl⟩
                        have NE : Hid (u2.heap[be]? = some (Obj.cells #[] 58 (0, 0))) := Lib.hid (by rw [hu2, hbe]; exact blk_new _ _)
                        have hE2 : Ext2 u0 u2 := by rw [hu2]; exact below_alloc' _ _
                        have LB : Hid (n10 + 1 ≤ be) := Lib.hid (by rw [hbe]; exact blk_lt HU.out.g)
                        skip
                        have HX := Lib.hid (HU.out.ext hE2)
                        rw [← hbe]
                        clear hu2 hbe hE2
                        refine ⟨HX.out, ?_⟩
                        refine wpV_two ?_ ?_
                        · skip
                          simp only [picks, List.drop_succ_cons, List.drop_zero]
                          go_wp2_with (at_builtin; (refine app_sl_at elNote (c2 := ntC T.notes) rfl _ _ rfl (n10 + 1) rfl (own_empty (c := ntC []) NE.out LB.out) ⟨na, nc⟩ T.notes.length rfl (HTN.out.below HX.out.e) (ntC_one _) (by have := HNL.out; omega) (blk_lt HX.out.g) (fun i j hi _ => absurd hi (Nat.not_lt_zero i)) (fun i j hi _ => by rw [Nat.zero_add]) ?_; intro v1 u4 hO1 hg4 _; rw [Nat.zero_add] at hO1; (have HO1 := Lib.hid hO1); (have HZ := Lib.hid (HX.out.app HNS.out hg4 (fun k hk => by cases hk; exact LB.out))); skip; clear hO1 hg4))
                          refine ⟨HZ.out, ?_⟩
                          refine wpV_one ?_
                          simp only [picks, List.drop_succ_cons, List.drop_zero]
                          go_wp2_with (fail)
                          refine andV_name (fun u3 hu3 => ?_)
                          obtain ⟨bq, hbq⟩ : ∃ b, b = u4.heap.size := ⟨_, rfl⟩
                          have NQ : Hid (u3.heap[bq]? = some (Obj.cells #[.string (zoeN y.frame XL (XL + XI)).by_, .int .i64 (zoeN y.frame XL (XL + XI)).number, .int .i64 (zoeN y.frame XL (XL + XI)).rev, .int .i64 (zoeN y.frame XL (XL + XI)).kind, .int .i64 (zoeN y.frame XL (XL + XI)).from_, .int .i64 (zoeN y.frame XL (XL + XI)).until_, .int .i64 (zoeN y.frame XL (XL + XI)).mlo, .int .i64 (zoeN y.frame XL (XL + XI)).mhi] 58)) := Lib.hid (by rw [hu3, hbq]; exact blk_new _ _)
                          have hE3 : Ext2 u4 u3 := by rw [hu3]; exact below_alloc' _ _
                          have HO2 := Lib.hid (HO1.out.below hE3)
                          have HY := Lib.hid (HZ.out.ext hE3)
                          rw [← hbq]
                          clear hu3 hbq hE3
                          refine ⟨HY.out, ?_⟩
                          exact key be bq v1 _ ⟨HY.out, HO2.out, NQ.out⟩
                        · skip
                          simp only [picks, List.drop_succ_cons, List.drop_zero]
                          go_wp2_with (fail)
                          refine andV_name (fun u3 hu3 => ?_)
                          obtain ⟨bq, hbq⟩ : ∃ b, b = u2.heap.size := ⟨_, rfl⟩
                          have NQ : Hid (u3.heap[bq]? = some (Obj.cells #[.string (zoeN y.frame XL (XL + XI)).by_, .int .i64 (zoeN y.frame XL (XL + XI)).number, .int .i64 (zoeN y.frame XL (XL + XI)).rev, .int .i64 (zoeN y.frame XL (XL + XI)).kind, .int .i64 (zoeN y.frame XL (XL + XI)).from_, .int .i64 (zoeN y.frame XL (XL + XI)).until_, .int .i64 (zoeN y.frame XL (XL + XI)).mlo, .int .i64 (zoeN y.frame XL (XL + XI)).mhi] 58)) := Lib.hid (by rw [hu3, hbq]; exact blk_new _ _)
                          have hE3 : Ext2 u2 u3 := by rw [hu3]; exact below_alloc' _ _
                          have NE2 := Lib.hid (Ext2.blk hE3 NE.out); have HNQ : Hid (bq ≠ be) := Lib.hid (by have := blk_lt NE.out; omega)
                          have HY := Lib.hid (HX.out.ext hE3)
                          rw [← hbq]
                          clear hu3 hbq hE3
                          refine ⟨HY.out, ?_⟩
                          refine wpV_one ?_
                          simp only [picks, List.drop_succ_cons, List.drop_zero]
                          go_wp2_with (at_builtin; (refine app_sl_at elNote (c2 := ntC T.notes) rfl _ _ rfl (n10 + 1) rfl (own_empty (c := ntC []) NE2.out LB.out) ⟨na, nc⟩ T.notes.length rfl (HTN.out.below HY.out.e) (ntC_one _) (by have := HNL.out; omega) (blk_lt HY.out.g) (fun i j hi _ => absurd hi (Nat.not_lt_zero i)) (fun i j hi _ => by rw [Nat.zero_add]) ?_; intro v1 u4 hO1 hg4 _; rw [Nat.zero_add] at hO1; (have HO1 := Lib.hid hO1); (have HZ := Lib.hid (HY.out.app HNS.out hg4 (fun k hk => by cases hk; exact LB.out))); have NQ2 := Lib.hid (blk_grown hg4 NQ.out (fun h => HNQ.out (by cases h; rfl))); clear hO1 hg4))
                          refine ⟨HZ.out, ?_⟩
                          exact key be bq v1 _ ⟨HZ.out, HO1.out, NQ2.out⟩
                      · skip
                        simp only [picks, List.drop_succ_cons, List.drop_zero]
                        go_wp2_with (fail)
                        refine andV_name (fun u3 hu3 => ?_)
                        obtain ⟨bq, hbq⟩ : ∃ b, b = u0.heap.size := ⟨_, rfl⟩
                        have NQ : Hid (u3.heap[bq]? = some (Obj.cells #[.string (zoeN y.frame XL (XL + XI)).by_, .int .i64 (zoeN y.frame XL (XL + XI)).number, .int .i64 (zoeN y.frame XL (XL + XI)).rev, .int .i64 (zoeN y.frame XL (XL + XI)).kind, .int .i64 (zoeN y.frame XL (XL + XI)).from_, .int .i64 (zoeN y.frame XL (XL + XI)).until_, .int .i64 (zoeN y.frame XL (XL + XI)).mlo, .int .i64 (zoeN y.frame XL (XL + XI)).mhi] 58)) := Lib.hid (by rw [hu3, hbq]; exact blk_new _ _)
                        have hE3 : Ext2 u0 u3 := by rw [hu3]; exact below_alloc' _ _
                        skip
                        have HY := Lib.hid (HU.out.ext hE3)
                        rw [← hbq]
                        clear hu3 hbq hE3
                        refine ⟨HY.out, ?_⟩
                        refine wpV_one ?_
                        simp only [picks, List.drop_succ_cons, List.drop_zero]
                        go_wp2_with (fail)
                        refine andV_name (fun u2 hu2 => ?_)
                        obtain ⟨be, hbe⟩ : ∃ b, b = u3.heap.size := ⟨_, rfl⟩
                        have NE : Hid (u2.heap[be]? = some (Obj.cells #[] 58 (0, 0))) := Lib.hid (by rw [hu2, hbe]; exact blk_new _ _)
                        have hE2 : Ext2 u3 u2 := by rw [hu2]; exact below_alloc' _ _
                        have LB : Hid (n10 + 1 ≤ be) := Lib.hid (by rw [hbe]; exact blk_lt HY.out.g)
                        have NQ2 := Lib.hid (Ext2.blk hE2 NQ.out); have HNQ : Hid (bq ≠ be) := Lib.hid (by have := blk_lt NQ.out; omega)
                        have HX := Lib.hid (HY.out.ext hE2)
                        rw [← hbe]
                        clear hu2 hbe hE2
                        refine ⟨HX.out, ?_⟩
                        refine wpV_one ?_
                        simp only [picks, List.drop_succ_cons, List.drop_zero]
                        go_wp2_with (at_builtin; (refine app_sl_at elNote (c2 := ntC T.notes) rfl _ _ rfl (n10 + 1) rfl (own_empty (c := ntC []) NE.out LB.out) ⟨na, nc⟩ T.notes.length rfl (HTN.out.below HX.out.e) (ntC_one _) (by have := HNL.out; omega) (blk_lt HX.out.g) (fun i j hi _ => absurd hi (Nat.not_lt_zero i)) (fun i j hi _ => by rw [Nat.zero_add]) ?_; intro v1 u4 hO1 hg4 _; rw [Nat.zero_add] at hO1; (have HO1 := Lib.hid hO1); (have HZ := Lib.hid (HX.out.app HNS.out hg4 (fun k hk => by cases hk; exact LB.out))); have NQ3 := Lib.hid (blk_grown hg4 NQ2.out (fun h => HNQ.out (by cases h; rfl))); clear hO1 hg4))
                        refine ⟨HZ.out, ?_⟩
                        exact key be bq v1 _ ⟨HZ.out, HO1.out, NQ3.out⟩
                    case ke =>
                      rintro be bq v1 u ⟨hU, hO1, hNQ⟩
                      have HU := Lib.hid hU; have HO1 := Lib.hid hO1; have NQ := Lib.hid hNQ
                      clear hU hO1 hNQ
                      refine wpV_one ?_
                      simp only [picks, List.drop_succ_cons, List.drop_zero]
                      go_wp2_with (at_builtin; go_loud (refine app_one_at [.string zoe, .int .i64 1, .int .i64 0, .int .i64 1, .int .i64 y.frame, .int .i64 y.frame, .int .i64 XL, .int .i64 (XL + XI)] elNote rfl _ _ rfl (n10 + 1) rfl HO1.out bq 1 rfl NQ.out (by simp [Value.oneCell']) (by have := HNL.out; omega) (blk_lt HU.out.g) ?_; intro v2 u5 hO2 hg5 _; (have hO3 := own_nt (x := zoeN y.frame XL (XL + XI)) hO2); (obtain ⟨g5, cp5, hv5, hge5, -, -, -, -⟩ := own_some hO2 (by omega)); subst hv5; (have HO3 := Lib.hid hO3); (have HU5 := Lib.hid (HU.out.app HNS.out hg5 (own_ge HO1.out))); (have HG5' := Lib.hid hge5); clear hO2 hg5 hO3 hge5))
                      refine ⟨HU5.out, ?_⟩
                      have hne : Nonempty (Cls (NaS w5 n6 n10 T ⟨tr, ⟨na, nc⟩⟩ y)) := ⟨⟨u5, HU5.out⟩⟩
                      refine wpV_flt ?_
                      simp only [picks, List.drop_succ_cons, List.drop_zero]
                      repeat ((with_reducible refine wpQS_step (fun K hK => ?_)); go_simp; ((with_reducible refine hK _ ?_); clear hK K))
                      (with_reducible refine wpQS_nil ?_)
                      clear hne
                      refine wpV_one ?_
                      simp only [picks, List.drop_succ_cons, List.drop_zero]
                      obtain ⟨nv, x6⟩ := HU5.out.o
                      have X6n := Lib.hid x6
                      have q6c := cell_blk x6
                      have q6f := frz_blk x6
                      clear x6
                      go_wp2_with (fail)
                      refine andV_name (fun u6 hu6 => ?_)
                      obtain ⟨N, hN⟩ : ∃ N, N = T.notes ++ [zoeN y.frame XL (XL + XI)] := ⟨_, rfl⟩
                      have hl : N.length = T.notes.length + 1 := by rw [hN, List.length_append, List.length_singleton]
                      obtain ⟨n1, hn1⟩ : ∃ n, n = T.notes.length + 1 := ⟨_, rfl⟩
                      have HU6 : Hid (NaS w5 n6 n10 T ⟨tr, ⟨na, nc⟩⟩ y u6) := Lib.hid ⟨by rw [hu6]; exact below_set HU5.out.e HN6.out, by rw [hu6]; exact blk_set_ne HU5.out.g (by have := HNE.out; omega), _, by rw [hu6]; exact Eq.trans (blk_set X6n.out 12 _) rfl⟩
                      have x6 : u6.heap[n6]? = some (Obj.cells #[.string T.reel.name, .int .i64 T.reel.gauge, .int .i64 T.reel.base, .int .i64 T.reel.frames, .int .i64 T.reel.ylo, .int .i64 T.reel.yhi, .int .i64 T.reel.keep, .slice tr.m.a T.reel.marks.length tr.m.cap, .slice tr.s.a T.reel.syms.length tr.s.cap, .slice tr.l.a T.reel.lens.length tr.l.cap, .int .i64 T.whole.lo, .int .i64 T.whole.hi, .slice (some ⟨g5, 0, none⟩) n1 cp5] 31) := by rw [hu6, hn1]; exact Eq.trans (blk_set X6n.out 12 _) rfl
                      have hR6 : RowS u6 ⟨some ⟨g5, 0, none⟩, cp5⟩ 8 N.length (ntC N) := by
                        have h := HO3.out.above (W := u6) (by rw [hu6]; exact Above.set (Above.refl _ _) (.inl (by have := HNE.out; omega)))
                        rw [← hN, hl] at h
                        rw [hl]; exact own_row h
                      have hG4 := fun (W : World) (hW : Ext2 u6 W) => H4.out N ⟨some ⟨g5, 0, none⟩, cp5⟩ W (ext_trans HE5.out (ext_trans HU6.out.e hW)) (hR6.below hW) (fun x hx => by
                        rw [hN] at hx
                        rcases List.mem_append.1 hx with h | h
                        · exact HT.out.sizes x h
                        · obtain rfl := List.mem_singleton.1 h; exact Nat.le_trans (by decide : zoe.size ≤ 1000000) (by unfold maxLen; omega))
                      rw [hl, ← hn1] at hG4
                      obtain ⟨⟨G3, K3, R3, E3⟩, hp3⟩ : ∃ p, p = gapsAns { reel := T.reel, whole := T.whole, notes := N } := ⟨_, rfl⟩
                      rw [← hp3] at hG4
                      dsimp only at hG4
                      have hpart := nar_part2 (T := T) (g := y) (lo := XL) (wide := XI) (by rw [← HP1.out]) (by rw [← HP1.out]; exact HGM.out) HK2.out HX2.out HX3.out (fun x hx => by obtain ⟨i, hi, rfl⟩ := nt_mem hx; exact (HOK.out i (by rw [HNN.out]; exact hi)).1) (fun x hx => by obtain ⟨i, hi, rfl⟩ := nt_mem hx; exact (HOK.out i (by rw [HNN.out]; exact hi)).2) (by
                        obtain ⟨x, hx, h⟩ := List.any_eq_true.1 HND2.out.symm
                        rw [Bool.and_eq_true, decide_eq_true_eq, decide_eq_true_eq] at h
                        exact ⟨x, by rw [← HMM.out]; exact hx, h⟩) HNL.out
                      have hfur : furT T y.frame XL XI = { reel := T.reel, whole := T.whole, notes := N } := by rw [hN]; rfl
                      rw [hfur, ← hp3, ← HP1.out] at hpart
                      dsimp only at hpart
                      have HG4 := Lib.hid hG4; have HPT := Lib.hid hpart; have X6 := Lib.hid x6
                      have HW6 := Lib.hid (ext_trans HE5.out HU6.out.e)
                      refine ⟨HU6.out, wpV_leaf ?_⟩
                      have x3 := Ext2.blk HU6.out.e XA3.out
                      have q3c := cell_blk x3
                      have q3f := frz_blk x3
                      clear hN hl hn1 hu6 hR6 hG4 hp3 hpart hfur x3 q6c q6f x6 HO1 HO3 HU HU5 NQ X6n HG5' U3 U5 U6 HMS HC13 HEW HA13 HNA
                      go_wp2_with (fail)
                      (with_reducible refine (H1.out _ HW6.out).mono ?_)
                      rintro e w30 ⟨hE30, ⟨oa, oc⟩, ⟨pa, pc⟩, ⟨qa, qc⟩, rfl, -, -, -⟩
                      have HE30 : Hid (Ext2 u6 w30) := Lib.hid hE30
                      have x6 := Ext2.blk hE30 X6.out
                      clear hE30 q3c q3f
                      have q6c := cell_blk x6
                      have q6f := frz_blk x6
                      clear x6
                      go_wp2_with (fail)
                      (with_reducible refine (HG4.out _ HE30.out).mono ?_)
                      rintro e w31 ⟨hE31, ⟨g3a, g3c⟩, ⟨k3a, k3c⟩, ⟨r3a, r3c⟩, rfl, hG3, hK3, -⟩
                      have HE31 := Lib.hid (ext_trans HW6.out (ext_trans HE30.out hE31)); have HC31 := Lib.hid (ext_trans HU6.out.e (ext_trans HE30.out hE31))
                      have HG3 := Lib.hid hG3; have HK3 := Lib.hid hK3
                      have HA31 := Lib.hid (HA.out _ HE31.out)
                      obtain ⟨g3n, hg3⟩ : ∃ n, n = G3.length := ⟨_, rfl⟩
                      obtain ⟨k3n, hk3⟩ : ∃ n, n = K3.length := ⟨_, rfl⟩
                      obtain ⟨r3n, hr3⟩ : ∃ n, n = R3.length := ⟨_, rfl⟩
                      rw [← hg3, ← hk3, ← hr3]
                      have hkl := hK3.le; have hkm := hK3.max
                      rw [← hk3] at hkl
                      dsimp only at hkl hkm
                      have HGN3 := Lib.hid hg3; have HKN3 := Lib.hid hk3; have HRN3 := Lib.hid hr3
                      clear hE31 hG3 hK3 hg3 hk3 hr3 q6c q6f X6 HG4
                      rcases HPT.out with h9 | ⟨h0, hpt⟩
                      · subst h9
                        go_wp2_with (fail)
                        (with_reducible refine HA31.out.mono ?_)
                        rintro e w9 ⟨rfl, hE9⟩
                        have HE9 := Lib.hid (ext_trans HE31.out hE9)
                        clear hE9
                        go_wp2_with (fail)
                        go_ret
                        exact ⟨rfl, HE9.out⟩
                      · subst h0
                        have HPU := Lib.hid hpt
                        clear hpt HPT
                        go_wp2_with (fail)
                        go_loopw [29, 30] (fun ov iv W => ∃ k : Nat, iv = .int .i64 k ∧ k ≤ k3n ∧ Ext2 w31 W ∧ ov = .bool ((K3.take k).any fun s => decide (s.by_ = zoe))) (fun _ iv _ => k3n - (intOf iv).toNat)
                        case atStart => exact ⟨0, rfl, by omega, Below.refl _ _, rfl⟩
                        case round =>
                          obtain ⟨k, rfl, hk, hE, rfl⟩ := hrel
                          have HE := Lib.hid hE
                          clear hE
                          by_cases hlt : k < k3n
                          · go_light
                            obtain ⟨b1, off1, hsa, c0, -, -, -⟩ := sk_cells (HK3.out.below HE.out) (i := k) (by rw [← HKN3.out]; exact hlt)
                            dsimp only at hsa
                            subst hsa
                            have hat := any_takeS (l := K3) (fun s => decide (s.by_ = zoe)) (k := k) (by rw [← HKN3.out]; exact hlt)
                            obtain ⟨x, hx⟩ : ∃ x, x = skD K3 k := ⟨_, rfl⟩
                            rw [← hx] at c0 hat
                            obtain ⟨B, hB⟩ : ∃ B, B = (K3.take k).any fun s => decide (s.by_ = zoe) := ⟨_, rfl⟩
                            rw [← hB] at hat ⊢
                            have f1 : (0 : Int) ≤ (k : Int) := by omega
                            have f2 : (k : Int) < (k3n : Int) := by omega
                            have wk : IntKind.i64.wrap ((k : Int) + 1) = (k : Int) + 1 := IntWalk.i64_in _ (by omega)
                            have z1 := zoe_eq x.by_
                            obtain ⟨Z, hZ⟩ : ∃ Z, Z = decide (x.by_ = zoe) := ⟨_, rfl⟩
                            rw [← hZ] at z1 hat
                            clear hx hB hZ hkl hkm
                            cases B with
                            | true =>
                              rw [Bool.true_or] at hat
                              go_wp2_with (fail)
                              go_roundw
                              case rel => exact ⟨k + 1, by go_num, by omega, HE.out, by rw [hat]⟩
                              case measure => simp [intOf]; omega
                            | false =>
                              rw [Bool.false_or] at hat
                              go_wp2_with (fail)
                              go_roundw
                              case rel => exact ⟨k + 1, by go_num, by omega, HE.out, by rw [hat]⟩
                              case measure => simp [intOf]; omega
                          · obtain rfl : k3n = k := by omega
                            have hnk2 : ¬ (k3n : Int) < (k3n : Int) := by omega
                            have HOW : Hid ((K3.take k3n).any (fun s => decide (s.by_ = zoe)) = K3.any fun s => decide (s.by_ = zoe)) := Lib.hid (by rw [HKN3.out, List.take_length])
                            rw [HOW.out]
                            obtain ⟨own, how⟩ : ∃ b, b = K3.any fun s => decide (s.by_ = zoe) := ⟨_, rfl⟩
                            rw [← how]
                            have HWN := Lib.hid how
                            have HEE := Lib.hid (ext_trans HE31.out HE.out)
                            have HAE := Lib.hid (HA.out _ HEE.out)
                            have HGa := Lib.hid (RowS.below HG5.out (ext_trans HC31.out HE.out)); have HGb := Lib.hid (RowS.below HG3.out HE.out)
                            clear how HOW hkl hkm
                            have hpu := HPU.out
                            have hno : own = true → G3 = G ∧ R3 = R := fun ho => by
                              rcases hpu with h | ⟨h1, -⟩
                              · exact h
                              · rw [ho] at HWN
                                obtain ⟨x, hx, h⟩ := List.any_eq_true.1 HWN.out.symm
                                exact absurd (of_decide_eq_true h) (h1 x hx)
                            by_cases hrr : rn < r3n
                            · have hof : own = false := by
                                cases own with
                                | false => rfl
                                | true =>
                                  have h := (hno rfl).2
                                  have h1 := HRN.out; have h2 := HRN3.out
                                  rw [h] at h2; omega
                              subst hof
                              have r1 : (rn : Int) < (r3n : Int) := by omega
                              clear hno hpu hrr
                              go_wp2_with (fail)
                              (with_reducible refine HAE.out.mono ?_)
                              rintro e w9 ⟨rfl, hE9⟩
                              have HE9 := Lib.hid (ext_trans HEE.out hE9)
                              clear hE9
                              go_wp2_with (fail)
                              go_ret
                              exact ⟨rfl, HE9.out⟩
                            · have r1 : ¬ (rn : Int) < (r3n : Int) := by omega
                              have hle : R3.length ≤ R.length := by have h1 := HRN.out; have h2 := HRN3.out; omega
                              have hhp : holdsP G G3 := by
                                rcases hpu with ⟨h, -⟩ | ⟨-, h⟩
                                · rw [h]; exact holds_rfl G
                                · exact h hle
                              have HH1 := Lib.hid (HHO.out ⟨some ⟨gb, goff, none⟩, gc⟩ ⟨g3a, g3c⟩ G G3 _ HGa.out HGb.out hhp)
                              have HS1 := Lib.hid (HSG.out ⟨some ⟨gb, goff, none⟩, gc⟩ ⟨g3a, g3c⟩ G G3 _ HGa.out HGb.out)
                              rw [← HGN.out, ← HGN3.out] at HH1 HS1
                              dsimp only at HH1 HS1
                              cases own with
                              | true =>
                                rw [decide_eq_true (hno rfl).1.symm] at HS1
                                clear hno hpu hrr hle hhp
                                go_wp2_with (fail)
                                (with_reducible refine HS1.out.mono ?_)
                                rintro e w32 ⟨rfl, hE32⟩
                                have HE32 := Lib.hid (ext_trans HEE.out hE32)
                                have HA32 := Lib.hid (HA.out _ HE32.out)
                                clear hE32
                                go_wp2_with (fail)
                                (with_reducible refine HA32.out.mono ?_)
                                rintro e w9 ⟨rfl, hE9⟩
                                have HE9 := Lib.hid (ext_trans HE32.out hE9)
                                clear hE9
                                go_wp2_with (fail)
                                go_ret
                                exact ⟨rfl, HE9.out⟩
                              | false =>
                                clear hno hpu hrr hle hhp
                                go_wp2_with (fail)
                                (with_reducible refine HH1.out.mono ?_)
                                rintro e w32 ⟨rfl, hE32⟩
                                have HE32 := Lib.hid (ext_trans HEE.out hE32)
                                have HA32 := Lib.hid (HA.out _ HE32.out)
                                clear hE32
                                go_wp2_with (fail)
                                (with_reducible refine HA32.out.mono ?_)
                                rintro e w9 ⟨rfl, hE9⟩
                                have HE9 := Lib.hid (ext_trans HE32.out hE9)
                                clear hE9
                                go_wp2_with (fail)
                                go_ret
                                exact ⟨rfl, HE9.out⟩
              · have b2 : (y.kind != 2) = true := by simpa using k2
                clear k2
                go_wp2_with (fail)
                (with_reducible refine HA13.out.mono ?_)
                rintro e w9 ⟨rfl, hE9⟩
                have HE9 := Lib.hid (ext_trans HEW.out hE9)
                clear hE9
                go_wp2_with (fail)
                go_ret
                exact ⟨rfl, HE9.out⟩
end Go.Proofs.YtapeakbngligaaaGreatDoor
