/-
  bench.Gaps.
-/
import Derived.Test.YtapeakbngligaaaGreatDoorBNar
import Derived.Test.YtapeakbngligaaaGreatDoorBPlB
import Derived.Test.YtapeakbngligaaaGreatDoorBCoP
namespace Go.Proofs.YtapeakbngligaaaGreatDoor
open Go.RowKit D
set_option linter.unusedVariables false
set_option linter.unusedSimpArgs false
attribute [local go_sem high] run_minI run_maxI
attribute [local go_sem] upon2 cls_cell cls_frozen forall_const exists_eq_left'
attribute [local go_sem] FirstUpon atBlk_cell
def GpsAOut (w : World) (A : GapsA) (e : Ending) (w' : World) : Prop := Below w.heap.size w w' ∧ ∃ s1 s2 s3 : Sl, e = .returned (.tuple #[.slice s1.a A.gaps.length s1.cap, .slice s2.a A.struck.length s2.cap, .slice s3.a A.wrong.length s3.cap, .int .i64 A.e]) ∧ GapsS w' s1 A.gaps ∧ StrikesS w' s2 A.struck ∧ IntsS w' s3 A.wrong
theorem row_none {w : World} {sz : Nat} {c : Nat → Nat → Value} : RowS w ⟨none, 0⟩ sz 0 c := ⟨Nat.le_refl _, by simp, fun i j hi _ => absurd hi (Nat.not_lt_zero i)⟩
theorem turn_gap {b : Nat} {W : World} {f k x y : Value} {t : TypeId} (hb : W.heap[b]? = some (.cells #[f, k, x, y] t (0, 0))) (u v : Value) : ((W.setCell ⟨b, 2, none⟩ u).setCell ⟨b, 3, none⟩ v).heap[b]? = some (.cells #[f, k, u, v] t (0, 0)) := Eq.trans (blk_set (blk_set hb 2 _) 3 _) rfl
set_option maxRecDepth 100000 in
set_option maxHeartbeats 8000000 in
theorem gapsA_any {T : Task} {t : TSl} {w : World} (hT : TaskAt w T t) (hm : MaxAt w) : Calls Tryz.prog 8 #[.agg #[.string T.reel.name, .int .i64 T.reel.gauge, .int .i64 T.reel.base, .int .i64 T.reel.frames, .int .i64 T.reel.ylo, .int .i64 T.reel.yhi, .int .i64 T.reel.keep, .slice t.r.m.a T.reel.marks.length t.r.m.cap, .slice t.r.s.a T.reel.syms.length t.r.s.cap, .slice t.r.l.a T.reel.lens.length t.r.l.cap, .int .i64 T.whole.lo, .int .i64 T.whole.hi, .slice t.n.a T.notes.length t.n.cap]] w (GpsAOut w (gapsAns T)) := by
  have HLY := Lib.hid fun (W : World) (hW : Ext2 w W) => lay_any (hT.below hW) (hm.below hW)
  obtain ⟨E, hE⟩ : ∃ E, E = (checkV T).2.2 := ⟨_, rfl⟩
  have HEE := Lib.hid hE
  obtain ⟨N, hN⟩ : ∃ N, N = standV T.notes := ⟨_, rfl⟩
  have HNN := Lib.hid hN
  have HL2 : Hid (∀ W, Ext2 w W → Calls Tryz.prog 24 #[.agg #[.string T.reel.name, .int .i64 T.reel.gauge, .int .i64 T.reel.base, .int .i64 T.reel.frames, .int .i64 T.reel.ylo, .int .i64 T.reel.yhi, .int .i64 T.reel.keep, .slice t.r.m.a T.reel.marks.length t.r.m.cap, .slice t.r.s.a T.reel.syms.length t.r.s.cap, .slice t.r.l.a T.reel.lens.length t.r.l.cap, .int .i64 T.whole.lo, .int .i64 T.whole.hi, .slice t.n.a T.notes.length t.n.cap]] W fun e w' => Below W.heap.size W w' ∧ ((E ≠ 0 ∧ e = .returned (.tuple #[.pointer none, .int .i64 E])) ∨ (E = 0 ∧ ∃ (B g F : Nat) (ns : Sl), e = .returned (.tuple #[.pointer (some ⟨B, 0, none⟩), .int .i64 0]) ∧ Tab w' T t N ns B g F))) := Lib.hid fun W hW => (HLY.out W hW).mono fun e w' h => by rw [hE, hN]; exact h
  obtain ⟨X, hX⟩ : ∃ X, X = gapsAns T := ⟨_, rfl⟩
  have HX := Lib.hid hX
  rw [← hX]
  clear hT hm HLY hE hN hX
  go_enter Tryz.func8, Tryz.ntmps8
  go_upto_region 1 with (fail)
  refine wp_name ?_
  intro w3 hw3
  obtain ⟨n3, hn3⟩ : ∃ n, n = w.heap.size := ⟨_, rfl⟩
  have x3 : w3.heap[n3]? = some (Obj.cells #[.string T.reel.name, .int .i64 T.reel.gauge, .int .i64 T.reel.base, .int .i64 T.reel.frames, .int .i64 T.reel.ylo, .int .i64 T.reel.yhi, .int .i64 T.reel.keep, .slice t.r.m.a T.reel.marks.length t.r.m.cap, .slice t.r.s.a T.reel.syms.length t.r.s.cap, .slice t.r.l.a T.reel.lens.length t.r.l.cap, .int .i64 T.whole.lo, .int .i64 T.whole.hi, .slice t.n.a T.notes.length t.n.cap] 31) := by rw [hw3, hn3]; exact blk_new _ _
  have hE3 : Ext2 w w3 := by rw [hw3]; exact below_alloc' _ _
  rw [← hn3]
  have HE3 := Lib.hid hE3
  clear hw3 hn3 hE3
  have q3c := cell_blk x3
  have q3f := frz_blk x3
  clear x3
  go_wp2_with (fail)
  (with_reducible refine (HL2.out _ HE3.out).mono ?_)
  rintro e w4 ⟨hE4, ⟨hne, rfl⟩ | ⟨h0, B, g, F, ns, rfl, hTab⟩⟩
  · have HE4 := Lib.hid (ext_trans HE3.out hE4)
    have hb : (E != 0) = true := by simpa using hne
    have HV : Hid (X = ⟨[], [], [], E⟩) := Lib.hid (by rw [HX.out]; unfold gapsAns; rw [← HEE.out, if_pos hne])
    clear hne hE4 q3c q3f
    go_wp2_with (fail)
    refine bodyPost_ret (v := .tuple #[.slice none 0 0, .slice none 0 0, .slice none 0 0, .int .i64 E]) (by simp [results, Tryz.results8, go_sem]) rfl ⟨HE4.out, ⟨none, 0⟩, ⟨none, 0⟩, ⟨none, 0⟩, by rw [HV.out]; rfl, by rw [HV.out]; exact row_none, by rw [HV.out]; exact row_none, by rw [HV.out]; exact row_none⟩
  have HE4 := Lib.hid (ext_trans HE3.out hE4)
  have hF : T.reel.frames.toNat = F := by rw [hTab.fr]; omega
  have hP := task_p (T := T) (by rw [← HEE.out]; exact h0)
  have hnar := narrow_any hTab
  rw [hF] at hP
  have eg : (gapsN F N) = gapsT T := by unfold gapsT; rw [hF, ← HNN.out]
  have er : grpsV (footV T.reel.gauge) F N (gapsT T).1 T.reel.marks T.whole = grpsT T := by unfold grpsT; rw [hF, ← HNN.out]
  rw [eg, er] at hnar
  have hXe : X = if okT T then ⟨ansV (gapsT T).1 (grpsT T).1, (gapsT T).2, (grpsT T).2, 0⟩ else ⟨[], (gapsT T).2, (grpsT T).2, 9⟩ := by rw [HX.out]; unfold gapsAns; rw [← HEE.out, if_neg (by rw [h0]; simp)]
  have hgl : (gapsT T).1.length ≤ 200001 := by have := hP.gaps.len; have := hP.F1; omega
  have HP := Lib.hid hP
  have hpl := hP.len
  unfold okT at hXe
  obtain ⟨al, hal⟩ : ∃ a, a = (grpsT T).1 := ⟨_, rfl⟩
  obtain ⟨wr, hwr⟩ : ∃ a, a = (grpsT T).2 := ⟨_, rfl⟩
  obtain ⟨sk, hsk⟩ : ∃ a, a = (gapsT T).2 := ⟨_, rfl⟩
  rw [← hal, ← hwr, ← hsk] at hnar hXe
  rw [← hal] at hpl
  have HAL := Lib.hid hal
  obtain ⟨ok, hok⟩ : ∃ b, b = al.all grpOk := ⟨_, rfl⟩
  rw [← hok] at hnar hXe
  have HOK := Lib.hid hok; have HXE := Lib.hid hXe
  obtain ⟨na, hna⟩ : ∃ n, n = al.length := ⟨_, rfl⟩
  obtain ⟨nk, hnk⟩ : ∃ n, n = sk.length := ⟨_, rfl⟩
  obtain ⟨nw, hnw⟩ : ∃ n, n = wr.length := ⟨_, rfl⟩
  unfold NarOut at hnar
  rw [← hna, ← hnk, ← hnw] at hnar
  have HNA := Lib.hid hna; have HNK := Lib.hid hnk; have HNW := Lib.hid hnw; have HNR := Lib.hid hnar
  rw [← hpl] at hgl
  subst h0
  clear hE4 hTab hF hP hnar eg er hXe hpl hal hwr hsk hok hna hnk hnw q3c q3f
  go_wp2_with (fail)
  refine HNR.out.mono ?_
  rintro e w5 ⟨⟨⟨ala, alc⟩, ⟨ska, skc⟩, ⟨wra, wrc⟩, hs, rfl, hgr, hsks, hwrs⟩, hE5⟩
  have HE5 := Lib.hid (ext_trans HE4.out hE5); have HGS := Lib.hid hgr; have HSK := Lib.hid hsks; have HWR := Lib.hid hwrs
  have hcp := hgr.row.le; have hcm := hgr.row.max
  dsimp only at hcp hcm
  rw [← HNA.out] at hcp
  clear hgr hsks hwrs hE5
  cases ok with
  | false =>
    have HV : Hid (X = ⟨[], sk, wr, 9⟩) := Lib.hid (by rw [HXE.out]; rfl)
    go_wp2_with (fail)
    refine bodyPost_ret (v := .tuple #[.slice none 0 0, .slice ska nk skc, .slice wra nw wrc, .int .i64 9]) (by simp [results, Tryz.results8, go_sem]) rfl ⟨HE5.out, ⟨none, 0⟩, ⟨ska, skc⟩, ⟨wra, wrc⟩, by rw [HV.out, HNK.out, HNW.out]; rfl, by rw [HV.out]; exact row_none, by rw [HV.out]; exact HSK.out, by rw [HV.out]; exact HWR.out⟩
  | true =>
  have HV : Hid (X = ⟨ansV (gapsT T).1 al, sk, wr, 0⟩) := Lib.hid (by rw [HXE.out]; rfl)
  go_wp2_with (fail)
  obtain ⟨C, hC⟩ : ∃ C, C = w5.heap.size := ⟨_, rfl⟩
  have HC := Lib.hid hC
  clear hC
  go_loopw [2, 34] (fun lv iv wr => ∃ (k ll : Nat) (la : Option Addr) (lc : Nat), lv = .slice la ll lc ∧ iv = .int .i64 k ∧ k ≤ na ∧ ll = (outV (al.take k)).length ∧ Ext2 w5 wr ∧ OwnR wr C 49 4 lv ll (gpC (outV (al.take k)))) (fun _ i _ => na - (intOf i).toNat)
  case atStart => exact ⟨0, 0, none, 0, rfl, rfl, by omega, rfl, Below.refl _ _, own_nil _ _ _ _ _⟩
  case round =>
    obtain ⟨k, ll, la, lc, rfl, rfl, hk, hll, hE, hO⟩ := hrel
    have hlb : ll ≤ 200001 := by have := outV_le al k; omega
    have HE := Lib.hid hE; have HO := Lib.hid hO; have HLL := Lib.hid hll
    clear hE hO hll
    by_cases hlt : k < na
    · go_light
      have hkl : k < al.length := by rw [← HNA.out]; exact hlt
      obtain ⟨b, off, hsa, c0, c1, c2⟩ := (HGS.out.below HE.out).cells hkl
      have hea := HGS.out.each k hkl
      have hgo := HGS.out.ok k hkl
      dsimp only at hsa
      subst hsa
      have hot := outV_take hkl
      have hol := outV_le al (k + 1)
      obtain ⟨q, hq⟩ : ∃ q, q = grD al k := ⟨_, rfl⟩
      obtain ⟨⟨ha, hc⟩, hh⟩ : ∃ h, h = hs k := ⟨_, rfl⟩
      rw [show al.getD k default = q from hq.symm] at hot
      rw [← hq] at c0 c1 c2 hea hgo; rw [← hh] at c0 hea
      have hq2 : (outV (al.take k)).length + q.gaps.length ≤ 200001 := by rw [hot, List.length_append, List.length_map] at hol; omega
      rw [← HLL.out] at hq2
      obtain ⟨n, hn⟩ : ∃ n, n = q.gaps.length := ⟨_, rfl⟩
      rw [← hn] at c0 hq2
      dsimp only at c0
      have hgc := hea.le; have hgm := hea.max
      dsimp only at hgc hgm
      rw [← hn] at hgc
      have HEA := Lib.hid hea; have HGO := Lib.hid hgo; have HOT := Lib.hid hot; have HNQ := Lib.hid hn
      have h0 : (0 : Int) ≤ (k : Int) := by omega
      have h1 : (k : Int) < (na : Int) := by omega
      have w2' : IntKind.i64.wrap ((k : Int) + 1) = (k : Int) + 1 := IntWalk.i64_in _ (by omega)
      clear hq hh hea hgo hn hkl hot hol
      go_upto_region 10 with (fail)
      clear c0 c1 c2
      refine wp_name ?_
      intro w6 hw6
      obtain ⟨n10, hn10⟩ : ∃ n, n = wr.heap.size := ⟨_, rfl⟩
      have x10 : w6.heap[n10]? = some (.cells #[.slice ha n hc, .int .i64 q.is.lo, .int .i64 q.is.hi] 91 (0, 0)) := by rw [hw6, hn10]; exact blk_new _ _
      have hE6 : Ext2 wr w6 := by rw [hw6]; exact below_alloc' _ _
      have HE6 := Lib.hid (ext_trans HE.out hE6); have HO6 := Lib.hid (HO.out.below hE6); have X10 := Lib.hid x10
      have lC10 : w5.heap.size ≤ n10 := by rw [hn10]; exact HE.out.size
      rw [← hn10]
      clear hw6 hn10 hE6 HE HO
      have q10c := cell_blk x10
      have q10f := frz_blk x10
      clear x10
      go_wp2_with (fail)
      clear q10c q10f
      obtain ⟨wo, rfl⟩ : ∃ x, x = wr := ⟨_, rfl⟩
      go_loopw [2, 41] (fun lv iv wq => ∃ (r lr : Nat) (la : Option Addr) (lc : Nat), lv = .slice la lr lc ∧ iv = .int .i64 r ∧ r ≤ n ∧ lr = ll + r ∧ Ext2 w5 wq ∧ wq.heap[n10]? = some (.cells #[.slice ha n hc, .int .i64 q.is.lo, .int .i64 q.is.hi] 91 (0, 0)) ∧ OwnR wq C 49 4 lv lr (gpC (outV (al.take k) ++ (q.gaps.take r).map (tellG q)))) (fun _ i _ => n - (intOf i).toNat)
      case atStart => exact ⟨0, ll, la, lc, rfl, rfl, by omega, by omega, HE6.out, X10.out, by simpa using HO6.out⟩
      case round =>
        clear HO6 HE6 X10
        obtain ⟨r, lr, la2, lc2, rfl, rfl, hr, hlr, hE, x10, hO⟩ := hrel
        have HE := Lib.hid hE; have HO := Lib.hid hO; have HLR := Lib.hid hlr
        have hlb2 : lr ≤ 400000 := by omega
        have X10 := Lib.hid x10
        clear hE hO hlr
        have q10c := cell_blk x10
        have q10f := frz_blk x10
        by_cases hlr2 : r < n
        · go_light
          have hrl : r < q.gaps.length := by rw [← HNQ.out]; exact hlr2
          obtain ⟨b2, off2, hsa, d0, d1, d2, d3⟩ := gp_cells (HEA.out.below HE.out) hrl
          dsimp only at hsa
          subst hsa
          have htk : (q.gaps.take (r + 1)).map (tellG q) = (q.gaps.take r).map (tellG q) ++ [tellG q (gpD q.gaps r)] := by
            rw [List.take_succ_eq_append_getElem hrl, List.map_append, gpD_get hrl]; rfl
          obtain ⟨x, hx⟩ : ∃ x, x = gpD q.gaps r := ⟨_, rfl⟩
          rw [← hx] at d0 d1 d2 d3 htk
          obtain ⟨R, hR⟩ : ∃ R, R = partG q fun y => decide (y.frame = x.frame) := ⟨_, rfl⟩
          rw [show tellG q x = ⟨x.frame, x.kind, R.lo, R.hi⟩ by unfold tellG; rw [← hR]] at htk
          have HTK := Lib.hid htk; have HR := Lib.hid hR
          have i0 : (0 : Int) ≤ (r : Int) := by omega
          have i1 : (r : Int) < (n : Int) := by omega
          have v2' : IntKind.i64.wrap ((r : Int) + 1) = (r : Int) + 1 := IntWalk.i64_in _ (by omega)
          clear htk hx hR hrl
          go_upto_region 13 with (fail)
          clear d0 d1 d2 d3 q10c q10f
          refine wp_name ?_
          intro w8 hw8
          obtain ⟨n12, hn12⟩ : ∃ n, n = wr.heap.size := ⟨_, rfl⟩
          have x12 : w8.heap[n12]? = some (Obj.cells #[.int .i64 x.frame, .int .i64 x.kind, .int .i64 x.lo, .int .i64 x.hi] 49) := by rw [hw8, hn12]; exact blk_new _ _
          have hE8 : Ext2 wr w8 := by rw [hw8]; exact below_alloc' _ _
          have x10 := Ext2.blk hE8 x10
          have l1012 : n10 < n12 := by rw [hn12]; exact blk_lt X10.out
          have l612 : w5.heap.size ≤ n12 := by rw [hn12]; exact HE.out.size
          have HNE : Hid ((Value.slice la2 lr lc2).ownBlock ≠ some n12) := Lib.hid fun hc => by have := own_blk_lt HO.out hc; omega
          have HO8 := Lib.hid (HO.out.below hE8)
          have HE8 := Lib.hid (ext_trans HE.out hE8)
          have hsm := some_any (g := q) (s := ⟨some ⟨b2, off2, none⟩, hc⟩) (fn := 27) (lb := #[.pointer (some ⟨n12, 0, none⟩)]) (p := fun y => decide (y.frame = x.frame)) (w := w8) (HEA.out.below HE8.out) HGO.out.2.1 HGO.out.2.2 HGO.out.1 (enters_of Tryz.func27 (by kernel_rfl) rfl) (fun i W _ hW => sameF_any (y := x) (hW.blk x12))
          rw [show (partG q fun y => decide (y.frame = x.frame)) = R from HR.out.symm, ← HNQ.out] at hsm
          have HSM := Lib.hid hsm
          have X12 := Lib.hid x12; have X108 := Lib.hid x10
          rw [← hn12]
          clear hw8 hn12 hE8 hsm HO
          have q10c := cell_blk x10
          have q10f := frz_blk x10
          clear x10 x12
          go_wp2_with (fail)
          refine HSM.out.mono ?_
          rintro e w9 ⟨rfl, hE9⟩
          have x12 := Ext2.blk hE9 X12.out; have X109 := Lib.hid (Ext2.blk hE9 X108.out)
          have HE9 := Lib.hid (ext_trans HE8.out hE9); have HO9 := Lib.hid (HO8.out.below hE9); have X129 := Lib.hid x12
          clear q10c q10f hE9 HSM HO8 X12
          have q12c := cell_blk x12
          have q12f := frz_blk x12
          clear x12
          go_upto_region 14 with (fail)
          refine wp_name ?_
          intro w10 hw10
          have x12 : w10.heap[n12]? = some (.cells #[.int .i64 x.frame, .int .i64 x.kind, .int .i64 R.lo, .int .i64 R.hi] 49 (0, 0)) := by rw [hw10]; exact turn_gap X129.out _ _
          have hB10 : Bx n12 w9 w10 := by rw [hw10]; exact (Bx.set _).trans (Bx.set _)
          have HO10 := Lib.hid (HO9.out.bx hB10 HNE.out)
          have HE10 : Hid (Ext2 w5 w10) := Lib.hid (by rw [hw10]; exact below_set (below_set HE9.out l612) l612)
          have HZ10 : Hid (C ≤ w10.heap.size) := Lib.hid (by rw [HC.out]; exact HE10.out.size)
          have X1010 := Lib.hid ((hB10.block n10 (blk_lt X109.out) (by omega)).trans X109.out)
          clear hw10 hB10 q12c q12f HO9 HE9 X129
          have q12c := cell_blk x12
          have q12f := frz_blk x12
          clear x12
          have hn9 : lr ≤ 1000000000 := by omega
          have hz10 := HZ10.out
          go_wp2_with (at_builtin; refine app_one_at [.int .i64 x.frame, .int .i64 x.kind, .int .i64 R.lo, .int .i64 R.hi] elGap rfl _ _ rfl C rfl (HO10.out.below (below_alloc' _ _)) w10.heap.size 1 rfl (blk_new _ _) (by simp [Value.oneCell']) hn9 (by simp; omega) ?_; intro v' w14 hO14 hg14 hpl; (obtain ⟨g7, cp7, hv7, hge7, -, -, -, -⟩ := own_some hO14 (by omega)); subst hv7; (have HO14 := Lib.hid hO14); (have HG14 := Lib.hid hg14); clear hO14 hg14 hpl q12c q12f)
          go_roundw
          case rel =>
            have hgo := own_ge HO10.out
            have hcl := HC.out
            have hcl2 := HOT.out
            have hlr3 : lr = (outV (al.take k) ++ (q.gaps.take r).map (tellG q)).length := by rw [List.length_append, List.length_map, List.length_take, ← HLL.out, HLR.out, ← HNQ.out]; omega
            refine ⟨r + 1, lr + 1, some ⟨g7, 0, none⟩, cp7, rfl, by go_num, by omega, by have := HLR.out; omega, ext_grown (ext_trans HE10.out (below_alloc' _ _)) HG14.out (fun k hk => by have := hgo k hk; omega), app_blk HO10.out HG14.out X1010.out (by decide), ?_⟩
            rw [HTK.out, ← List.append_assoc]
            refine OwnR.congr HO14.out fun i j hi hj => ?_
            rw [hlr3]
            exact gpC_snoc (x := ⟨x.frame, x.kind, R.lo, R.hi⟩) (by rw [← hlr3]; exact hi) hj
          case measure => simp [intOf]; omega
        · obtain rfl : n = r := by omega
          have htk : q.gaps.take n = q.gaps := by rw [HNQ.out, List.take_length]
          rw [htk, ← HOT.out] at HO
          clear htk
          go_wp2_with (fail)
          go_roundw
          case rel => exact ⟨k + 1, lr, la2, lc2, rfl, by go_num, by omega, by rw [HOT.out, List.length_append, List.length_map, ← HNQ.out, ← HLL.out]; exact HLR.out, HE.out, HO.out⟩
          case measure => simp [intOf]; omega
    · obtain rfl : na = k := by omega
      have htk : al.take na = al := by rw [HNA.out, List.take_length]
      rw [htk] at HO HLL
      clear htk
      have hin : ∀ y ∈ outV al, GapIn y := fun y hy => (tell_in (HAL.out ▸ HP.out.part) HP.out.gaps HP.out.F1.2 (HAL.out ▸ HP.out.is) HOK.out.symm y hy).1
      have hnd := outV_nd (HAL.out ▸ HP.out.part : PartOk (gapsT T).1 al)
      have hsrt := sortG_any (L := outV al) (v := .slice la ll lc) (base := C) (w := wr) (by have h := HO.out; rw [HLL.out] at h ⊢; exact h) hin hnd (by omega) (by rw [HC.out]; exact HE.out.size)
      have HSO := Lib.hid hsrt
      clear hin hnd hsrt
      go_wp2_with (fail)
      refine HSO.out.mono ?_
      rintro e w8 ⟨rfl, L', ⟨s'a, s'c⟩, hv, hgs, hfr, hmem, hB8⟩
      have hLe := ansV_uniq (HAL.out ▸ HP.out.part : PartOk (gapsT T).1 al) hfr hmem
      cases hv
      have HL := Lib.hid hLe; have HGG := Lib.hid hgs; have HB8 := Lib.hid hB8
      have h58 : Ext2 w5 w8 := HE.out.trans (by rw [← HC.out]; exact HB8.out)
      have H58 := Lib.hid h58
      clear hgs hfr hmem hLe hB8 h58
      go_wp2_with (fail)
      refine bodyPost_ret (v := .tuple #[.slice s'a L'.length s'c, .slice ska nk skc, .slice wra nw wrc, .int .i64 0]) (by simp [results, Tryz.results8, go_sem]) rfl ⟨ext_trans HE5.out H58.out, ⟨s'a, s'c⟩, ⟨ska, skc⟩, ⟨wra, wrc⟩, by rw [HV.out, HNK.out, HNW.out, HL.out], by rw [HV.out, ← HL.out]; exact HGG.out, by rw [HV.out]; exact HSK.out.below H58.out, by rw [HV.out]; exact HWR.out.below H58.out⟩
end Go.Proofs.YtapeakbngligaaaGreatDoor
