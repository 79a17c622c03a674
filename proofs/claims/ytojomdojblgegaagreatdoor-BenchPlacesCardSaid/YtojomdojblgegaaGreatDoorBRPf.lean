/-
  ref.Place.
-/
import Derived.Test.YtojomdojblgegaaGreatDoorBRPl
import Derived.Test.YtojomdojblgegaaGreatDoorBPlH
import Derived.Test.YtojomdojblgegaaGreatDoorBPlc
namespace Go.Proofs.YtojomdojblgegaaGreatDoor
open Go.RowKit D
set_option linter.unusedVariables false
set_option linter.unusedSimpArgs false
attribute [local go_sem high] run_minI run_maxI
attribute [local go_sem] upon2 cls_cell cls_frozen forall_const exists_eq_left'
attribute [local go_sem] FirstUpon atBlk_cell
theorem sumsT_len {T : Task} (hc : (checkV T).2.2 = 0) : (sumsT T).1.length ≤ 100 := by
  have hm := (task_p hc).ok.reel.nm
  unfold sumsT sumsV
  have := (smK_len (foot := footV T.reel.gauge) (F := T.reel.frames.toNat) (l := standV T.notes) (gs := (gapsT T).1) (ms := T.reel.marks) T.reel.marks.length).1
  rw [List.length_append, List.length_singleton]; omega
set_option maxRecDepth 100000 in
set_option maxHeartbeats 8000000 in
theorem placeFR_any {T : Task} {t : TSl} {f : Int} {w : World} (hT : TaskAt w T t) : Calls Tryz.prog 20 #[.agg #[.string T.reel.name, .int .i64 T.reel.gauge, .int .i64 T.reel.base, .int .i64 T.reel.frames, .int .i64 T.reel.ylo, .int .i64 T.reel.yhi, .int .i64 T.reel.keep, .slice t.r.m.a T.reel.marks.length t.r.m.cap, .slice t.r.s.a T.reel.syms.length t.r.s.cap, .slice t.r.l.a T.reel.lens.length t.r.l.cap, .int .i64 T.whole.lo, .int .i64 T.whole.hi, .slice t.n.a T.notes.length t.n.cap], .int .i64 f] w (PlcOut w (placeAns T f)) := by
  obtain ⟨E, hE⟩ : ∃ E, E = (checkV T).2.2 := ⟨_, rfl⟩
  have HV := Lib.hid fun (W : World) (hW : Ext2 w W) => validR_any (hT.below hW)
  have HT := Lib.hid hT
  rw [← hE] at HV
  have HEE := Lib.hid hE
  have han : placeAns T f = if E ≠ 0 then (⟨0, 0⟩, E) else if inB f 0 (T.reel.frames - 1) = false then (⟨0, 0⟩, 7) else if about (standV T.notes) 3 f = true then (⟨0, 0⟩, 4) else if okT T = false then (⟨0, 0⟩, 9) else (placeG (standV T.notes) (grpsT T).1 f.toNat, 0) := by rw [hE]; rfl
  have HAN := Lib.hid han
  clear hT hE han
  go_enter Tryz.func20, Tryz.ntmps20
  go_upto_region 1 with (fail)
  refine wp_name ?_
  intro w3 hw3
  obtain ⟨n2, hn2⟩ : ∃ n, n = w.heap.size := ⟨_, rfl⟩
  obtain ⟨n4, hn4⟩ : ∃ n, n = n2 + 1 := ⟨_, rfl⟩
  have x2 : w3.heap[n2]? = some (Obj.cells #[.string T.reel.name, .int .i64 T.reel.gauge, .int .i64 T.reel.base, .int .i64 T.reel.frames, .int .i64 T.reel.ylo, .int .i64 T.reel.yhi, .int .i64 T.reel.keep, .slice t.r.m.a T.reel.marks.length t.r.m.cap, .slice t.r.s.a T.reel.syms.length t.r.s.cap, .slice t.r.l.a T.reel.lens.length t.r.l.cap, .int .i64 T.whole.lo, .int .i64 T.whole.hi, .slice t.n.a T.notes.length t.n.cap] 38) := by rw [hw3, hn2]; exact blk_alloc (blk_new _ _) _
  have x4 : w3.heap[n4]? = some (Obj.cells #[.int .i64 (0), .int .i64 (0)] 31) := by rw [hw3, hn4, hn2]; exact blk_new' _ _ (by simp)
  have hE3 : Ext2 w w3 := by rw [hw3]; exact ext_trans (below_alloc' _ _) (below_alloc' _ _)
  have LW4 : Hid (w.heap.size ≤ n4) := Lib.hid (by omega)
  rw [← hn2]
  try rw [← hn4]
  have HE3 := Lib.hid hE3; have X2 := Lib.hid x2; have X4 := Lib.hid x4
  clear hw3 hn2 hn4 hE3 x4
  have q2c := cell_blk x2
  have q2f := frz_blk x2
  clear x2
  go_wp2_with (fail)
  (with_reducible refine (HV.out _ HE3.out).mono ?_)
  rintro e w4 ⟨rfl, hE4⟩
  have HE4 := Lib.hid (ext_trans HE3.out hE4); have X24 := Lib.hid (Ext2.blk hE4 X2.out); have X44 := Lib.hid (Ext2.blk hE4 X4.out)
  have x2 := X24.out; have x4 := X44.out
  clear q2c q2f hE4 HV X2 X4 HE3
  have q2c := cell_blk x2
  have q2f := frz_blk x2
  have q4c := cell_blk x4
  have q4f := frz_blk x4
  clear x2 x4
  by_cases h0 : E = 0
  case neg =>
    have hb : (E != 0) = true := by simpa using h0
    have hb2 : (E == 0) = false := by simpa using h0
    have HA : Hid (placeAns T f = (⟨0, 0⟩, E)) := Lib.hid (by rw [HAN.out, if_pos h0])
    clear h0
    go_wp2_with (fail)
    have r1 : ((w4.setCell ⟨n4, 0, none⟩ (.int .i64 (0))).setCell ⟨n4, 1, none⟩ (.int .i64 (0))).heap[n4]? = some (Obj.cells #[.int .i64 (0), .int .i64 (0)] 31) := Eq.trans (blk_set (blk_set X44.out _ _) _ _) rfl
    refine bodyPost_ret (v := .tuple #[.agg #[.int .i64 (0), .int .i64 (0)], .int .i64 E]) ?_ rfl ⟨by rw [HA.out], below_set (below_set HE4.out LW4.out) LW4.out⟩
    have zc := cell_blk r1
    have zf := frz_blk r1
    simp [results, Tryz.results20, go_sem, zc]
  subst h0
  have hc := HEE.out.symm
  have htp := task_p hc
  have hfr := htp.fr; have hF1 := htp.F1
  have han := HAN.out
  rw [if_neg (by simp)] at han
  have HOP := Lib.hid fun (W : World) (hW : Ext2 w W) => openR_any (HT.out.below hW) hc
  have hgi := gapsT_in hc; have hso := sumsT_ok hc; have hsl := sumsT_len hc
  rw [← (sumsT_grps T).1] at han
  obtain ⟨N, hN⟩ : ∃ N, N = standV T.notes := ⟨_, rfl⟩
  obtain ⟨gs, hgs⟩ : ∃ N, N = (gapsT T).1 := ⟨_, rfl⟩
  obtain ⟨K, hK⟩ : ∃ N, N = (gapsT T).2 := ⟨_, rfl⟩
  obtain ⟨⟨L, R⟩, hLR⟩ : ∃ N, N = sumsT T := ⟨_, rfl⟩
  obtain ⟨v, hv⟩ : ∃ N, N = okT T := ⟨_, rfl⟩
  rw [← hN, ← hgs, ← hK, ← hLR, ← hv] at HOP
  rw [← hN, ← hgs, ← hLR, ← hv] at han
  rw [← hgs] at hgi hso
  rw [← hLR] at hso hsl
  dsimp only at han hso hsl HOP
  unfold OpenOut at HOP
  have HAN2 := Lib.hid han; have HGI := Lib.hid hgi; have HSO := Lib.hid hso; have HSL := Lib.hid hsl; have HFR := Lib.hid hfr; have HF1 := Lib.hid hF1
  have wF : IntKind.i64.wrap (T.reel.frames - 1) = T.reel.frames - 1 := IntWalk.i64_in _ (by omega)
  obtain ⟨iv, hiv⟩ : ∃ v, v = inB f 0 (T.reel.frames - 1) := ⟨_, rfl⟩
  have HIN := inR_b hiv
  have HIV := Lib.hid hiv
  clear hc htp hfr hF1 han hgi hso hsl hN hgs hK hLR hv hiv HT HAN
  go_wp2_with (fail)
  (with_reducible refine (HIN.out _).mono ?_)
  rintro e w5 ⟨rfl, hE5⟩
  have HE5 := Lib.hid (ext_trans HE4.out hE5); have X25 := Lib.hid (Ext2.blk hE5 X24.out); have X45 := Lib.hid (Ext2.blk hE5 X44.out)
  have x2 := X25.out; have x4 := X45.out
  clear q2c q2f q4c q4f hE5 HIN X24 X44 HE4 wF
  have q2c := cell_blk x2
  have q2f := frz_blk x2
  have q4c := cell_blk x4
  have q4f := frz_blk x4
  clear x2 x4
  cases iv with
  | false =>
    have HA : Hid (placeAns T f = (⟨0, 0⟩, 7)) := Lib.hid (by rw [HAN2.out, if_pos HIV.out.symm])
    go_wp2_with (fail)
    have r1 : ((w5.setCell ⟨n4, 0, none⟩ (.int .i64 (0))).setCell ⟨n4, 1, none⟩ (.int .i64 (0))).heap[n4]? = some (Obj.cells #[.int .i64 (0), .int .i64 (0)] 31) := Eq.trans (blk_set (blk_set X45.out _ _) _ _) rfl
    refine bodyPost_ret (v := .tuple #[.agg #[.int .i64 (0), .int .i64 (0)], .int .i64 7]) ?_ rfl ⟨by rw [HA.out], below_set (below_set HE5.out LW4.out) LW4.out⟩
    have zc := cell_blk r1
    have zf := frz_blk r1
    simp [results, Tryz.results20, go_sem, zc]
  | true =>
    have hin := inB_iff.1 HIV.out.symm
    have han := HAN2.out
    rw [if_neg (by rw [← HIV.out]; simp)] at han
    have HAN3 := Lib.hid han
    obtain ⟨fn, hfn⟩ : ∃ n : Nat, n = f.toNat := ⟨_, rfl⟩
    have hff : f = (fn : Int) := by omega
    have HFB : Hid (fn ≤ 200000) := Lib.hid (by have := HF1.out; have := HFR.out; omega)
    subst hff
    rw [show ((fn : Int)).toNat = fn from Int.toNat_natCast fn] at HAN3
    clear han hin hfn HAN2 HIV
    go_wp2_with (fail)
    (with_reducible refine (HOP.out _ HE5.out).mono ?_)
    rintro e w6 ⟨⟨sn, sg, ss, sk, sw, hs, rfl, hB6⟩, hE6⟩
    have HE6 := Lib.hid (ext_trans HE5.out hE6); have HB6 := Lib.hid hB6; have X46 := Lib.hid (Ext2.blk hE6 X45.out)
    clear q2c q2f q4c q4f hE6 hB6 HOP X25 X45 HE5
    go_upto_region 7 with (fail)
    refine wp_name ?_
    intro w7 hw7
    obtain ⟨n7, hn7⟩ : ∃ n, n = w6.heap.size := ⟨_, rfl⟩
    have x7 : w7.heap[n7]? = some (.cells #[.slice sn.a N.length sn.cap, .slice sg.a gs.length sg.cap, .slice ss.a L.length ss.cap, .slice sk.a K.length sk.cap, .slice sw.a R.length sw.cap] 110 (0, 0)) := by rw [hw7, hn7]; exact blk_new _ _
    have hE7 : Ext2 w6 w7 := by rw [hw7]; exact below_alloc' _ _
    rw [← hn7]
    have HE7 := Lib.hid (ext_trans HE6.out hE7); have HB7 := Lib.hid (HB6.out.below hE7); have X7 := Lib.hid x7; have X47 := Lib.hid (Ext2.blk hE7 X46.out)
    clear hw7 hn7 hE7 HB6 X46 HE6
    have HABO := Lib.hid (aboutR_any (kind := 3) (f := (fn : Int)) HB7.out.n)
    obtain ⟨ab, hab⟩ : ∃ b, b = about N 3 (fn : Int) := ⟨_, rfl⟩
    rw [← hab] at HABO
    have han := HAN3.out
    rw [← hab] at han
    have HAN4 := Lib.hid han
    have q7c := cell_blk x7
    have q7f := frz_blk x7
    clear x7 hab han
    go_wp2_with (fail)
    (with_reducible refine HABO.out.mono ?_)
    rintro e w8 ⟨rfl, hE8⟩
    have HE8 := Lib.hid (ext_trans HE7.out hE8); have HB8 := Lib.hid (HB7.out.below hE8); have X48 := Lib.hid (Ext2.blk hE8 X47.out)
    have x7 := Ext2.blk hE8 X7.out; have x4 := X48.out
    clear q7c q7f hE8 HB7 X47 HE7 X7 HABO
    have q7c := cell_blk x7
    have q7f := frz_blk x7
    have q4c := cell_blk x4
    have q4f := frz_blk x4
    clear x7 x4
    cases ab with
    | true =>
      have HA : Hid (placeAns T (fn : Int) = (⟨0, 0⟩, 4)) := Lib.hid (by rw [HAN4.out, if_pos rfl])
      go_wp2_with (fail)
      have r1 : ((w8.setCell ⟨n4, 0, none⟩ (.int .i64 (0))).setCell ⟨n4, 1, none⟩ (.int .i64 (0))).heap[n4]? = some (Obj.cells #[.int .i64 (0), .int .i64 (0)] 31) := Eq.trans (blk_set (blk_set X48.out _ _) _ _) rfl
      refine bodyPost_ret (v := .tuple #[.agg #[.int .i64 (0), .int .i64 (0)], .int .i64 4]) ?_ rfl ⟨by rw [HA.out], below_set (below_set HE8.out LW4.out) LW4.out⟩
      have zc := cell_blk r1
      have zf := frz_blk r1
      simp [results, Tryz.results20, go_sem, zc]
    | false =>
      cases v with
      | false =>
        have HA : Hid (placeAns T (fn : Int) = (⟨0, 0⟩, 9)) := Lib.hid (by rw [HAN4.out, if_neg (by simp), if_pos rfl])
        go_wp2_with (fail)
        have r1 : ((w8.setCell ⟨n4, 0, none⟩ (.int .i64 (0))).setCell ⟨n4, 1, none⟩ (.int .i64 (0))).heap[n4]? = some (Obj.cells #[.int .i64 (0), .int .i64 (0)] 31) := Eq.trans (blk_set (blk_set X48.out _ _) _ _) rfl
        refine bodyPost_ret (v := .tuple #[.agg #[.int .i64 (0), .int .i64 (0)], .int .i64 9]) ?_ rfl ⟨by rw [HA.out], below_set (below_set HE8.out LW4.out) LW4.out⟩
        have zc := cell_blk r1
        have zf := frz_blk r1
        simp [results, Tryz.results20, go_sem, zc]
      | true =>
        have HPR := Lib.hid (placeR_any (f := fn) HB8.out HGI.out HSO.out HSL.out HFB.out)
        obtain ⟨V, hV⟩ : ∃ V, V = placeG N (L.map (toG gs)) fn := ⟨_, rfl⟩
        rw [← hV] at HPR
        have HA : Hid (placeAns T (fn : Int) = (V, 0)) := Lib.hid (by rw [HAN4.out, if_neg (by simp), if_neg (by simp), hV])
        clear hV
        go_wp2_with (fail)
        (with_reducible refine HPR.out.mono ?_)
        rintro e w9 ⟨rfl, hE9⟩
        have HE9 := Lib.hid (ext_trans HE8.out hE9); have X49 := Lib.hid (Ext2.blk hE9 X48.out)
        have x4 := X49.out
        clear q7c q7f q4c q4f hE9 HPR
        have q4c := cell_blk x4
        have q4f := frz_blk x4
        clear x4
        go_wp2_with (fail)
        have r1 : ((w9.setCell ⟨n4, 0, none⟩ (.int .i64 (V.lo))).setCell ⟨n4, 1, none⟩ (.int .i64 (V.hi))).heap[n4]? = some (Obj.cells #[.int .i64 (V.lo), .int .i64 (V.hi)] 31) := Eq.trans (blk_set (blk_set X49.out _ _) _ _) rfl
        refine bodyPost_ret (v := .tuple #[.agg #[.int .i64 (V.lo), .int .i64 (V.hi)], .int .i64 0]) ?_ rfl ⟨by rw [HA.out], below_set (below_set HE9.out LW4.out) LW4.out⟩
        have zc := cell_blk r1
        have zf := frz_blk r1
        simp [results, Tryz.results20, go_sem, zc]
end Go.Proofs.YtojomdojblgegaaGreatDoor
