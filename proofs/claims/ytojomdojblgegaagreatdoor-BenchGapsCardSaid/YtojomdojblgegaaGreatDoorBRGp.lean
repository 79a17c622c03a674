/-
  ref.Gaps.
-/
import Derived.Test.YtojomdojblgegaaGreatDoorBPlH
import Derived.Test.YtojomdojblgegaaGreatDoorBGpA
namespace Go.Proofs.YtojomdojblgegaaGreatDoor
open Go.RowKit D
set_option linter.unusedVariables false
set_option linter.unusedSimpArgs false
attribute [local go_sem high] run_minI run_maxI
attribute [local go_sem] upon2 cls_cell cls_frozen forall_const exists_eq_left'
theorem run_ints_to (a : Option Addr) (len cap m : Nat) (hm : m ≤ cap) (w : World) : (Instr.slice 41 (.slice a len cap) none (some (.int .i64 (m : Int))) none).run Tryz.prog w = .ok (.slice (takeA a cap 1) m cap) w := by
  rw [run_slice_h w 41 a len cap (by kernel_rfl) .i64 (m : Int) (by omega) (by omega)]
  have h : (sizeOf (Tryz.prog.elem 41)).run Tryz.prog w = .ok 1 w := by kernel_rfl
  rw [h]; rfl
theorem run_ints_from (a : Option Addr) (len cap m : Nat) (hm : m + 1 ≤ len) (w : World) : (Instr.slice 41 (.slice a len cap) (some (.int .i64 ((m : Int) + 1))) none none).run Tryz.prog w = .ok (.slice (dropA a cap (m + 1) 1) (len - (m + 1)) (cap - (m + 1))) w := by
  rw [run_slice_l w 41 a len cap (by kernel_rfl) .i64 ((m : Int) + 1) (by omega) (by omega)]
  have h : (sizeOf (Tryz.prog.elem 41)).run Tryz.prog w = .ok 1 w := by kernel_rfl
  rw [h, show ((m : Int) + 1).toNat = m + 1 by omega]; rfl
theorem run_ints_one (a : Option Addr) (len cap m : Nat) (hm : m + 1 ≤ cap) (w : World) : (Instr.slice 41 (.slice a len cap) (some (.int .i64 (m : Int))) (some (.int .i64 ((m : Int) + 1))) none).run Tryz.prog w = .ok (.slice (dropA a cap m 1) 1 (cap - m)) w := by
  rw [run_slice_lh w 41 a len cap (by kernel_rfl) .i64 .i64 (m : Int) ((m : Int) + 1) (by omega) (by omega) (by omega)]
  have h : (sizeOf (Tryz.prog.elem 41)).run Tryz.prog w = .ok 1 w := by kernel_rfl
  rw [h, show ((m : Int) + 1).toNat = m + 1 by omega, Int.toNat_natCast]
  simp only [Result.andThen, sliced, dropA, Nat.add_sub_cancel_left]
theorem row_less {w : World} {s : Sl} {sz n m : Nat} {c : Nat → Nat → Value} (h : RowS w s sz n c) (hm : m ≤ n) : RowS w s sz m c := ⟨by have := h.le; omega, h.max, fun i j hi hj => h.cell i j (by omega) hj⟩
theorem ixC_left {A B : List Nat} {i j : Nat} (hi : i < A.length) : ixC (A ++ B) i j = ixC A i j := by
  unfold ixC; rw [List.getD_eq_getElem?_getD, List.getD_eq_getElem?_getD, List.getElem?_append_left hi]
theorem ixC_right {A B : List Nat} {i j : Nat} : ixC (A ++ B) (A.length + i) j = ixC B i j := by
  unfold ixC; rw [List.getD_eq_getElem?_getD, List.getD_eq_getElem?_getD, List.getElem?_append_right (by omega), Nat.add_sub_cancel_left]
theorem ixC_take {l : List Nat} {m i j : Nat} (hi : i < m) : ixC (l.take m) i j = ixC l i j := by
  unfold ixC; rw [List.getD_eq_getElem?_getD, List.getD_eq_getElem?_getD, List.getElem?_take_of_lt hi]
theorem ixC_drop {l : List Nat} {m i j : Nat} : ixC (l.drop m) i j = ixC l (m + i) j := by
  unfold ixC; rw [List.getD_eq_getElem?_getD, List.getD_eq_getElem?_getD, List.getElem?_drop]
theorem ix_take {w : World} {s : Sl} {l : List Nat} {k : Nat} (h : IxS w s l) (hk : k ≤ l.length) : RowS w ⟨takeA s.a s.cap 1, s.cap⟩ 1 k (ixC (l.take k)) := rowS_congr (row_take h hk) fun i j hi _ => (ixC_take hi).symm
theorem ix_from {w : World} {s : Sl} {l : List Nat} {k : Nat} (h : IxS w s l) (hk : k ≤ l.length) : RowS w ⟨dropA s.a s.cap k 1, s.cap - k⟩ 1 (l.length - k) (ixC (l.drop k)) := rowS_congr (row_drop h hk) fun i j _ _ => ixC_drop.symm
theorem ix_one {w : World} {s : Sl} {l : List Nat} {k : Nat} (h : IxS w s l) (hk : k < l.length) : IxS w ⟨dropA s.a s.cap k 1, s.cap - k⟩ [l.getD k 0] := by
  have h1 := row_less (m := 1) (ix_from h (k := k) (by omega)) (by omega)
  refine rowS_congr h1 fun i j hi hj => ?_
  obtain rfl : i = 0 := Nat.lt_one_iff.1 hi
  unfold ixC
  rw [List.getD_eq_getElem?_getD (l := l.drop k), List.getElem?_drop, Nat.add_zero, ← List.getD_eq_getElem?_getD]; rfl
theorem gpC_set2 {O : List Gap} {q i j : Nat} {P : Span} (hq : q < O.length) (hj : j < 4) : (if i = q ∧ j = 3 then Value.int .i64 P.hi else if i = q ∧ j = 2 then Value.int .i64 P.lo else gpC O i j) = gpC (O.set q { gpD O q with lo := P.lo, hi := P.hi }) i j := by
  unfold gpC
  rw [gpD_set hq]
  by_cases h : i = q
  · subst h
    rw [if_pos rfl]
    rcases j with _ | _ | _ | _ | j
    · simp
    · simp
    · simp
    · simp
    · omega
  · rw [if_neg h, if_neg (fun hh => h hh.1), if_neg (fun hh => h hh.1)]
attribute [local go_sem] FirstUpon atBlk_cell
set_option maxRecDepth 100000 in
set_option maxHeartbeats 8000000 in
theorem gapsFR_any {T : Task} {t : TSl} {w : World} (hT : TaskAt w T t) : Calls Tryz.prog 15 #[.agg #[.string T.reel.name, .int .i64 T.reel.gauge, .int .i64 T.reel.base, .int .i64 T.reel.frames, .int .i64 T.reel.ylo, .int .i64 T.reel.yhi, .int .i64 T.reel.keep, .slice t.r.m.a T.reel.marks.length t.r.m.cap, .slice t.r.s.a T.reel.syms.length t.r.s.cap, .slice t.r.l.a T.reel.lens.length t.r.l.cap, .int .i64 T.whole.lo, .int .i64 T.whole.hi, .slice t.n.a T.notes.length t.n.cap]] w (GpsAOut w (gapsAns T)) := by
  obtain ⟨E, hE⟩ : ∃ E, E = (checkV T).2.2 := ⟨_, rfl⟩
  have HV := Lib.hid fun (W : World) (hW : Ext2 w W) => validR_any (hT.below hW)
  have HT := Lib.hid hT
  rw [← hE] at HV
  have HEE := Lib.hid hE
  clear hT hE
  go_enter Tryz.func15, Tryz.ntmps15
  go_upto_region 1 with (fail)
  refine wp_name ?_
  intro w3 hw3
  obtain ⟨n3, hn3⟩ : ∃ n, n = w.heap.size := ⟨_, rfl⟩
  have x3 : w3.heap[n3]? = some (Obj.cells #[.string T.reel.name, .int .i64 T.reel.gauge, .int .i64 T.reel.base, .int .i64 T.reel.frames, .int .i64 T.reel.ylo, .int .i64 T.reel.yhi, .int .i64 T.reel.keep, .slice t.r.m.a T.reel.marks.length t.r.m.cap, .slice t.r.s.a T.reel.syms.length t.r.s.cap, .slice t.r.l.a T.reel.lens.length t.r.l.cap, .int .i64 T.whole.lo, .int .i64 T.whole.hi, .slice t.n.a T.notes.length t.n.cap] 38) := by rw [hw3, hn3]; exact blk_new _ _
  have hE3 : Ext2 w w3 := by rw [hw3]; exact below_alloc' _ _
  rw [← hn3]
  have HE3 := Lib.hid hE3; have X3 := Lib.hid x3
  clear hw3 hn3 hE3
  have q3c := cell_blk x3
  have q3f := frz_blk x3
  clear x3
  go_wp2_with (fail)
  (with_reducible refine (HV.out _ HE3.out).mono ?_)
  rintro e w4 ⟨rfl, hE4⟩
  have HE4 := Lib.hid (ext_trans HE3.out hE4)
  have x3 := Ext2.blk hE4 X3.out
  clear q3c q3f hE4 HV
  have q3c := cell_blk x3
  have q3f := frz_blk x3
  clear x3
  by_cases h0 : E = 0
  case neg =>
    have hb : (E != 0) = true := by simpa using h0
    have HAN : Hid (gapsAns T = ⟨[], [], [], E⟩) := Lib.hid (by unfold gapsAns; rw [← HEE.out, if_pos h0])
    clear h0
    go_wp2_with (fail)
    refine bodyPost_ret (v := .tuple #[.slice none 0 0, .slice none 0 0, .slice none 0 0, .int .i64 E]) ?_ rfl ?post
    · simp [results, Tryz.results15, go_sem]
    case post => exact ⟨HE4.out, ⟨none, 0⟩, ⟨none, 0⟩, ⟨none, 0⟩, by rw [HAN.out]; rfl, by rw [HAN.out]; exact row_none, by rw [HAN.out]; exact row_none, by rw [HAN.out]; exact row_none⟩
  subst h0
  have hc := HEE.out.symm
  have hio := sums_ixOk hc
  have hgi := gapsT_in hc
  have hgp := gapsN_pos T.reel.frames.toNat (standV T.notes)
  rw [← (task_p hc).eg] at hgp
  have han : gapsAns T = if okT T then ⟨ansV (gapsT T).1 ((sumsT T).1.map (toG (gapsT T).1)), (gapsT T).2, (sumsT T).2, 0⟩ else ⟨[], (gapsT T).2, (sumsT T).2, 9⟩ := by
    unfold gapsAns; rw [if_neg (by rw [hc]; simp), (sumsT_grps T).1, (sumsT_grps T).2]
  have HOP := Lib.hid fun (W : World) (hW : Ext2 w W) => openR_any (HT.out.below hW) hc
  obtain ⟨N, hN⟩ : ∃ N, N = standV T.notes := ⟨_, rfl⟩
  obtain ⟨gs, hgs⟩ : ∃ N, N = (gapsT T).1 := ⟨_, rfl⟩
  obtain ⟨K, hK⟩ : ∃ N, N = (gapsT T).2 := ⟨_, rfl⟩
  obtain ⟨⟨L, R⟩, hLR⟩ : ∃ N, N = sumsT T := ⟨_, rfl⟩
  obtain ⟨v, hv⟩ : ∃ N, N = okT T := ⟨_, rfl⟩
  obtain ⟨An, hAn⟩ : ∃ N, N = gapsAns T := ⟨_, rfl⟩
  rw [← hN, ← hgs, ← hK, ← hLR, ← hv] at HOP
  rw [← hgs, ← hK, ← hLR, ← hv, ← hAn] at han
  rw [← hgs] at hgi hio hgp
  rw [← hLR] at hio
  dsimp only at han hio HOP
  have HANT := Lib.hid hAn
  obtain ⟨nl, hnl⟩ : ∃ n, n = N.length := ⟨_, rfl⟩
  obtain ⟨gl, hgl⟩ : ∃ n, n = gs.length := ⟨_, rfl⟩
  obtain ⟨kl, hkl⟩ : ∃ n, n = K.length := ⟨_, rfl⟩
  obtain ⟨ll, hll⟩ : ∃ n, n = L.length := ⟨_, rfl⟩
  obtain ⟨wl, hwl⟩ : ∃ n, n = R.length := ⟨_, rfl⟩
  unfold OpenOut at HOP
  rw [← hnl, ← hgl, ← hkl, ← hll, ← hwl] at HOP
  rw [← hgl] at hgp
  have HGL := Lib.hid hgl; have HKL := Lib.hid hkl; have HLL := Lib.hid hll; have HWL := Lib.hid hwl; have HGI := Lib.hid hgi; have HIO := Lib.hid hio; have HAN := Lib.hid han; have HGP := Lib.hid hgp
  clear hc hio hgi hgp han hN hgs hK hLR hv hAn hnl hgl hkl hll hwl HT
  go_wp2_with (fail)
  (with_reducible refine (HOP.out _ HE4.out).mono ?_)
  rintro e w5 ⟨⟨⟨na, nc⟩, ⟨ga, gc⟩, ⟨la, lc⟩, ⟨ka, kc⟩, ⟨wa, wc⟩, hs, rfl, hB5⟩, hE5⟩
  have HE5 := Lib.hid (ext_trans HE4.out hE5); have HB5 := Lib.hid hB5
  clear q3c q3f hE5 hB5 HOP X3
  go_upto_region 5 with (fail)
  refine wp_name ?_
  intro w6 hw6
  obtain ⟨n7, hn7⟩ : ∃ n, n = w5.heap.size := ⟨_, rfl⟩
  have x7 : w6.heap[n7]? = some (.cells #[.slice na nl nc, .slice ga gl gc, .slice la ll lc, .slice ka kl kc, .slice wa wl wc] 110 (0, 0)) := by rw [hw6, hn7]; exact blk_new _ _
  have hE6 : Ext2 w5 w6 := by rw [hw6]; exact below_alloc' _ _
  rw [← hn7]
  have HE6 := Lib.hid (ext_trans HE5.out hE6); have HB6 := Lib.hid (HB5.out.below hE6); have X7 := Lib.hid x7
  clear hw6 hn7 hE6 HB5
  have q7c := cell_blk x7
  have q7f := frz_blk x7
  clear x7
  cases v with
  | false =>
    have HA2 : Hid (gapsAns T = ⟨[], K, R, 9⟩) := Lib.hid (by rw [← HANT.out, HAN.out]; rfl)
    go_upto_region 6 with (fail)
    refine region_ev [] [0, 1, 2, 3, 4, 5, 6, 7] [] [] (by kernel_rfl) (by kernel_rfl) (by intro c a d v w h; cases d <;> exact h) ?_
    simp only [picks, List.drop_succ_cons, List.drop_zero]
    repeat (refine wpQ0_step (fun K hK => ?_); go_simp; (refine hK _ ?_; clear hK K))
    refine wpQ0_nil ?_
    repeat ((with_reducible refine wpQ2_step (fun K hK => ?_)); go_simp; first | ((with_reducible refine hK _ ?_); clear hK K) | (apply Exists.intro; refine ⟨fun x => ?_, hK _ ?_⟩; (fail); clear hK K) | (refine ite_undef (fun h => (by have h_ : (none : Option Bool) = some _ := h; cases h_)) ?_; (with_reducible refine hK _ ?_); clear hK K))
    (with_reducible refine wpQ2_nil ?_)
    refine Events.none_ fun w7 hg7 => ?_
    simp only [picks, List.drop_succ_cons, List.drop_zero]
    have HE7 := Lib.hid (ext_trans HE6.out hg7); have HB7 := Lib.hid (HB6.out.below hg7)
    clear q7c q7f hg7
    go_wp2_with (fail)
    refine bodyPost_ret (v := .tuple #[.slice none 0 0, .slice ka kl kc, .slice wa wl wc, .int .i64 9]) ?_ rfl ?post
    · simp [results, Tryz.results15, go_sem]
    case post => exact ⟨HE7.out, ⟨none, 0⟩, ⟨ka, kc⟩, ⟨wa, wc⟩, by rw [HA2.out, HKL.out, HWL.out]; rfl, by rw [HA2.out]; exact row_none, by rw [HA2.out]; exact HB7.out.k, by rw [HA2.out]; exact HB7.out.w⟩
  | true =>
    have HA2 : Hid (gapsAns T = ⟨ansV gs (L.map (toG gs)), K, R, 0⟩) := Lib.hid (by rw [← HANT.out, HAN.out]; rfl)
    have HGR : Hid (RowS w6 ⟨ga, gc⟩ 4 gl (gpC gs)) := Lib.hid (by rw [HGL.out]; exact HB6.out.g)
    have HGB : Hid (gl ≤ 200001) := Lib.hid (by rw [HGL.out]; exact HGI.out.2)
    clear HAN HANT
    have lt7 : n7 < w6.heap.size := blk_lt X7.out
    have ne7 : ¬ n7 = w6.heap.size := by omega
    go_upto_region 8 with (at_builtin; go_loud (refine app_sl_at elGap (c2 := gpC gs) rfl _ _ rfl w6.heap.size rfl (own_empty (c := gpC []) (blk_new _ _) (Nat.le_refl _)) ⟨ga, gc⟩ gl rfl (HGR.out.below (below_alloc' _ _)) (gpC_one _) (by have := HGB.out; omega) (by simp) (fun i j hi _ => absurd hi (Nat.not_lt_zero i)) (fun i j hi _ => by rw [Nat.zero_add]) ?_; intro v7 w7 hO7 hg7 _; rw [Nat.zero_add] at hO7; (obtain ⟨g7, cp7, hv7, hge7, -, -, -, -⟩ := own_some hO7 HGP.out); subst hv7; (have HO7 := Lib.hid hO7); (have HE7 : Hid (Ext2 w6 w7) := Lib.hid (ext_grown (below_alloc' _ _) hg7 (fun k hk => by cases hk; exact Nat.le_refl _))); (have HG7 := Lib.hid hge7); clear hO7 hg7 hge7))
    clear q7c q7f lt7 ne7
    have hls := HB6.out.s.row.le; have hlm := HB6.out.s.row.max
    rw [← HLL.out] at hls
    dsimp only at hls hlm
    go_wp2_with (fail)
    go_loopw [10] (fun iv W => ∃ (i : Nat) (O : List Gap), iv = .int .i64 i ∧ i ≤ ll ∧ Ext2 w6 W ∧ OwnR W w6.heap.size 70 4 (.slice (some ⟨g7, 0, none⟩) gl cp7) gl (gpC O) ∧ OutK gs L i 0 O) (fun iv _ => ll - (intOf iv).toNat)
    case atStart => exact ⟨0, gs, rfl, by omega, HE7.out, HO7.out, outK_zero gs L⟩
    case round =>
      clear HE7 HO7
      obtain ⟨i, O, rfl, hi, hE, hO, hK⟩ := hrel
      have HE := Lib.hid hE; have HO := Lib.hid hO; have HKO := Lib.hid hK
      have x7 := Ext2.blk hE X7.out
      have q7c := cell_blk x7
      have q7f := frz_blk x7
      clear hE hO hK x7
      by_cases hil : i < ll
      · have hkl : i < L.length := by rw [← HLL.out]; exact hil
        obtain ⟨X, hX⟩ : ∃ X, X = ixgD L i := ⟨_, rfl⟩
        obtain ⟨⟨ha, hc⟩, hhd⟩ : ∃ X, X = hs i := ⟨_, rfl⟩
        obtain ⟨xn, hxn⟩ : ∃ n, n = X.1.length := ⟨_, rfl⟩
        have HX := Lib.hid hX; have HHD := Lib.hid hhd; have HXN := Lib.hid hxn
        have HCL : Hid (∀ W, Ext2 w6 W → ∃ b off, la = some ⟨b, off, none⟩ ∧ W.cell? ⟨b, off + i * 3, none⟩ = some (.slice ha xn hc) ∧ W.cell? ⟨b, off + i * 3 + 1, none⟩ = some (.int .i64 X.2.lo) ∧ W.cell? ⟨b, off + i * 3 + 2, none⟩ = some (.int .i64 X.2.hi)) := Lib.hid fun W hW => by
          obtain ⟨b, off, hb, hcl⟩ := (HB6.out.below hW).s.row.at (by omega) (i := i) hkl
          have c0 := hcl 0 (by omega); have c1 := hcl 1 (by omega); have c2 := hcl 2 (by omega)
          rw [Nat.add_zero] at c0
          simp only [smC] at c0 c1 c2
          rw [← hX] at c0 c1 c2
          rw [← hhd, ← hxn] at c0
          exact ⟨b, off, hb, c0, c1, c2⟩
        have HIX : Hid (∀ W, Ext2 w6 W → IxS W ⟨ha, hc⟩ X.1) := Lib.hid fun W hW => by
          have h := (HB6.out.below hW).s.each i hkl
          rw [← hX, ← hhd] at h; exact h
        have hso : SumOk gs X := by rw [hX]; exact HIO.out.ok _ (ixD_mem hkl)
        have HSO := Lib.hid hso
        have hxl := hso.len
        have hxb : xn ≤ 200001 := by rw [hxn]; have := HGB.out; rw [HGL.out] at this; omega
        have hhle := (HIX.out w6 (Below.refl _ _)).le; have hhmx := (HIX.out w6 (Below.refl _ _)).max
        rw [← hxn] at hhle
        dsimp only at hhle hhmx
        have HXB := Lib.hid hxb
        have g1 : (0 : Int) ≤ (i : Int) := by omega
        have g2 : (i : Int) < (ll : Int) := by omega
        have e1 : decide ((0 : Int) ≤ (i : Int)) = true := decide_eq_true g1
        have e2 : decide ((i : Int) < (ll : Int)) = true := decide_eq_true g2
        have w1' : IntKind.i64.wrap ((i : Int) + 1) = (i : Int) + 1 := IntWalk.i64_in _ (by omega)
        clear hX hhd hxn hso hxl hxb hkl
        go_wp2_with (fail)
        clear q7c q7f
        go_loopw [11] (fun kv W => ∃ (k : Nat) (O : List Gap), kv = .int .i64 k ∧ k ≤ xn ∧ Ext2 w6 W ∧ OwnR W w6.heap.size 70 4 (.slice (some ⟨g7, 0, none⟩) gl cp7) gl (gpC O) ∧ OutK gs L i k O) (fun kv _ => xn - (intOf kv).toNat)
        case atStart => exact ⟨0, O, rfl, by omega, HE.out, HO.out, HKO.out⟩
        case round =>
          clear HE HO HKO
          obtain ⟨k, O, rfl, hk, hE, hO, hK⟩ := hrel
          have HE := Lib.hid hE; have HO := Lib.hid hO; have HKO := Lib.hid hK
          have x7 := Ext2.blk hE X7.out
          have q7c := cell_blk x7
          have q7f := frz_blk x7
          obtain ⟨b, off, hla, c0, c1, c2⟩ := HCL.out _ hE
          subst hla
          clear hE hO hK x7
          by_cases hkx : k < xn
          · have hkl : k < X.1.length := by rw [← HXN.out]; exact hkx
            have hix := HIX.out _ HE.out
            obtain ⟨b3, off3, hha, d0⟩ := ix_cell hix hkl
            dsimp only at hha
            subst hha
            have hql := HSO.out.lt _ (ix_mem hkl)
            obtain ⟨q, hq⟩ : ∃ q, q = X.1.getD k 0 := ⟨_, rfl⟩
            rw [← hq] at d0 hql
            have hqg : q < gl := by rw [HGL.out]; exact hql
            have hon := own_some HO.out (by omega)
            obtain ⟨g7', cp', hgv, hg7, -, -, hRC, hfz⟩ := hon
            have hgg : g7 = g7' := by injection hgv with h1 _ _; cases h1; rfl
            subst hgg
            have f2 := hfz (q * 4 + 2); have f3 := hfz (q * 4 + 3)
            have r2 := hRC.2 q 2 hqg (by omega); have r3 := hRC.2 q 3 hqg (by omega)
            rw [Nat.zero_add] at r2 r3
            have rq1 := run_ints_to (some ⟨b3, off3, none⟩) xn hc k (by omega)
            have rq2 := run_ints_from (some ⟨b3, off3, none⟩) xn hc k (by omega)
            have rq3 := run_ints_one (some ⟨b3, off3, none⟩) xn hc k (by omega)
            have HTK : Hid (RowS wr ⟨takeA (some ⟨b3, off3, none⟩) hc 1, hc⟩ 1 k (ixC (X.1.take k))) := Lib.hid (ix_take hix (by omega))
            have HDR : Hid (RowS wr ⟨dropA (some ⟨b3, off3, none⟩) hc (k + 1) 1, hc - (k + 1)⟩ 1 (xn - (k + 1)) (ixC (X.1.drop (k + 1)))) := Lib.hid (by rw [HXN.out]; exact ix_from hix (by omega))
            have HON : Hid (IxS wr ⟨dropA (some ⟨b3, off3, none⟩) hc k 1, hc - k⟩ [q]) := Lib.hid (by rw [hq]; exact ix_one hix hkl)
            have HKL := Lib.hid hkl; have HQ := Lib.hid hq; have HQG := Lib.hid hqg; have HIXX := Lib.hid hix
            have w2' : IntKind.i64.wrap ((k : Int) + 1) = (k : Int) + 1 := IntWalk.i64_in _ (by omega)
            have C0 := Lib.hid c0; have C1 := Lib.hid c1; have C2 := Lib.hid c2; have D0 := Lib.hid d0; have F2 := Lib.hid f2; have F3 := Lib.hid f3; have R2 := Lib.hid r2; have R3 := Lib.hid r3
            clear hkl hq hql hqg hgv hRC hfz hix d0 f2 f3 r2 r3 hg7
            go_upto_region 15 with (fail)
            clear c0 c1 c2 q7c q7f
            have G1 := Lib.hid g1; have G2 := Lib.hid g2; have E1 := Lib.hid e1; have E2 := Lib.hid e2; have W1 := Lib.hid w1'; have W2 := Lib.hid w2'; have RQ3 := Lib.hid rq3; have HKX := Lib.hid hkx; have HIL := Lib.hid hil; have HHLE := Lib.hid hhle
            clear g1 g2 e1 e2 w1' rq3 hkx hil hi hk hhmx hhle hls hlm
            refine region_treeV (Ext2 wr) ((.flt [1, 2, 3, 5, 6, 7, 8] (.one 0 (.one 4 (.one 9 (.flt [10] .leaf)))))) (fun W h => h) (by kernel_rfl) (by kernel_rfl) (by intro c a d v w h; cases d <;> exact h) ?_
            intro u0 hu0
            have HU := Lib.hid hu0
            clear hu0
            refine wpV_flt ?_
            simp only [picks, List.drop_succ_cons, List.drop_zero]
            repeat ((with_reducible refine wpQS_step (fun K hK => ?_)); go_simp; ((with_reducible refine hK _ ?_); clear hK K))
            (with_reducible refine wpQS_nil ?_)
            clear rq1 rq2 w2'
            refine wpV_one ?_
            simp only [picks, List.drop_succ_cons, List.drop_zero]
            go_wp2_with (fail)
            refine andV_name (fun u2 hu2 => ?_)
            obtain ⟨be, hbe⟩ : ∃ b, b = u0.heap.size := ⟨_, rfl⟩
            have NE : Hid (u2.heap[be]? = some (Obj.cells #[] 3 (0, 0))) := Lib.hid (by rw [hu2, hbe]; exact blk_new _ _)
            have hE2 : Ext2 u0 u2 := by rw [hu2]; exact below_alloc' _ _
            have LB : Hid (wr.heap.size ≤ be) := Lib.hid (by rw [hbe]; exact HU.out.size)
            have HXX := Lib.hid (ext_trans HU.out hE2)
            rw [← hbe]
            clear hu2 hbe hE2 HU
            refine ⟨HXX.out, wpV_one ?_⟩
            simp only [picks, List.drop_succ_cons, List.drop_zero]
            go_wp2_with (at_builtin; go_loud (refine app_sl_at elInt (c2 := ixC (X.1.take k)) rfl _ _ rfl wr.heap.size rfl (own_empty (c := ixC []) NE.out LB.out) ⟨takeA (some ⟨b3, off3, none⟩) hc 1, hc⟩ k rfl (HTK.out.below HXX.out) (fun _ _ => rfl) (by have := HKX.out; have := HXB.out; omega) HXX.out.size (fun i j hi _ => absurd hi (Nat.not_lt_zero i)) (fun i j hi _ => by rw [Nat.zero_add]) ?_; intro v1 u4 hO1 hg4 _; rw [Nat.zero_add] at hO1; (have HO1 := Lib.hid hO1); (have HZ := Lib.hid (ext_grown HXX.out hg4 (fun k hk => by cases hk; exact LB.out))); clear hO1 hg4))
            refine ⟨HZ.out, wpV_one ?_⟩
            simp only [picks, List.drop_succ_cons, List.drop_zero]
            go_wp2_with (at_builtin; go_loud (refine app_sl_at elInt (c2 := ixC (X.1.take k ++ X.1.drop (k + 1))) rfl _ _ rfl wr.heap.size rfl HO1.out ⟨dropA (some ⟨b3, off3, none⟩) hc (k + 1) 1, hc - (k + 1)⟩ (xn - (k + 1)) rfl (HDR.out.below HZ.out) (fun _ _ => rfl) (by have := HKX.out; have := HXB.out; omega) HZ.out.size (fun i j hi _ => ixC_left (by rw [List.length_take]; have := HKX.out; have := HXN.out; omega)) (fun i j hi _ => by have e : k + i = (X.1.take k).length + i := (by rw [List.length_take]; have := HKX.out; have := HXN.out; omega); rw [e]; exact ixC_right) ?_; intro v2 u5 hO2 hg5 _; (have HZ2 := Lib.hid (ext_grown HZ.out hg5 (own_ge HO1.out))); (obtain ⟨zn, hzn⟩ : ∃ n, n = k + (xn - (k + 1)) := ⟨_, rfl⟩); rw [← hzn] at hO2; (obtain ⟨⟨za, zc⟩, hzv, hZR⟩ := OwnR.sl hO2); subst hzv; (have HZR := Lib.hid hZR); (have HZN : Hid (zn = (X.1.take k ++ X.1.drop (k + 1)).length) := Lib.hid (by rw [hzn, List.length_append, List.length_take, List.length_drop]; have := HKX.out; have := HXN.out; omega)); clear hO2 hg5 hzn hZR))
            refine ⟨HZ2.out, ?_⟩
            refine wpV_flt ?_
            simp only [picks, List.drop_succ_cons, List.drop_zero]
            repeat ((with_reducible refine wpQS_step (fun K hK => ?_)); go_simp; ((with_reducible refine hK _ ?_); clear hK K))
            (with_reducible refine wpQS_nil ?_)
            refine wpV_leaf ?_
            have HE5 := Lib.hid (ext_trans HE.out HZ2.out)
            have HO5 := Lib.hid (HO.out.below HZ2.out)
            have hgi := HGI.out; have hso := HSO.out
            have hxl := hso.len; have hgb := HGB.out; have hgl := HGL.out; have hkx := HKX.out; have hxn := HXN.out
            have hol : (X.1.take k ++ X.1.drop (k + 1)).length ≤ 200001 := by rw [List.length_append, List.length_take, List.length_drop]; omega
            have hpt := fun (W : World) (hW : Ext2 u5 W) => partR_any (va := some ⟨b3, off3, none⟩) (vn := xn) (vc := hc) (RowS.below HB6.out.g (ext_trans HE5.out hW)) (RowS.below HON.out (ext_trans HZ2.out hW)) (RowS.below (show IxS u5 ⟨za, zc⟩ (X.1.take k ++ X.1.drop (k + 1)) from by have h := HZR.out; rw [HZN.out] at h; exact h) hW) (fun i hi => by rw [List.mem_singleton] at hi; rw [hi, ← hgl]; exact HQG.out) (fun i hi => hso.lt i ((List.mem_append.1 hi).elim List.mem_of_mem_take List.mem_of_mem_drop)) hgi.1 (show [q].length ≤ 200001 by simp) hol (is := X.2) (by have := hso.is; omega)
            obtain ⟨P, hP⟩ : ∃ P, P = ptR gs X.2 [q] (X.1.take k ++ X.1.drop (k + 1)) := ⟨_, rfl⟩
            have hpt2 : P = partG (toG gs (L.getD i ([], ⟨0, 0⟩))) fun y => decide (y.frame = (gpD gs q).frame) := by
              have h := ptR_tell HIO.out.ord hso HKL.out
              rw [← HQ.out, ← hP] at h
              rw [h, HX.out]; rfl
            rw [← hP, ← hgl, ← HZN.out] at hpt
            have HPT : Hid (∀ W, Ext2 u5 W → Calls Tryz.prog 50 #[.slice ga gl gc, .agg #[.slice (some ⟨b3, off3, none⟩) xn hc, .int .i64 X.2.lo, .int .i64 X.2.hi], .slice (dropA (some ⟨b3, off3, none⟩) hc k 1) 1 (hc - k), .slice za zn zc] W fun e w' => e = .returned (.agg #[.int .i64 P.lo, .int .i64 P.hi]) ∧ Below W.heap.size W w') := Lib.hid hpt
            have HP2 := Lib.hid hpt2
            have x7 := Ext2.blk HE5.out X7.out
            have c0 := ext_cell' HZ2.out C0.out; have c1 := ext_cell' HZ2.out C1.out; have c2 := ext_cell' HZ2.out C2.out; have d0 := ext_cell' HZ2.out D0.out
            have g1 := G1.out; have g2 := G2.out; have e1 := E1.out; have e2 := E2.out; have w1' := W1.out; have w2' := W2.out; have rq3 := RQ3.out; have hqg := HQG.out
            have g3 : (0 : Int) ≤ (k : Int) := by omega
            have g4 : (k : Int) < (xn : Int) := by omega
            have e3 : decide ((0 : Int) ≤ (k : Int)) = true := decide_eq_true g3
            have e4 : decide ((k : Int) < (xn : Int)) = true := decide_eq_true g4
            have g5 : (0 : Int) ≤ (q : Int) := by omega
            have g6 : (q : Int) < (gl : Int) := by omega
            have e5 : decide ((0 : Int) ≤ (q : Int)) = true := decide_eq_true g5
            have e6 : decide ((q : Int) < (gl : Int)) = true := decide_eq_true g6
            have q7c := cell_blk x7
            have q7f := frz_blk x7
            clear hgi hso hxl hgb hgl hkx hxn hol hpt hP hpt2 x7 hqg
            go_upto_region 16 with (fail)
            refine region_ev [] [0, 1, 2, 3, 4, 5, 6, 7, 8, 9, 10, 11, 12, 13, 14, 15, 16, 17, 18, 19, 20] [] [21] (by kernel_rfl) (by kernel_rfl) (by intro c a d v w h; cases d <;> exact h) ?_
            simp only [picks, List.drop_succ_cons, List.drop_zero]
            repeat (refine wpQ0_step (fun K hK => ?_); go_simp; (refine hK _ ?_; clear hK K))
            refine wpQ0_nil ?_
            repeat ((with_reducible refine wpQ2_step (fun K hK => ?_)); go_simp; first | ((with_reducible refine hK _ ?_); clear hK K) | (apply Exists.intro; refine ⟨fun x => ?_, hK _ ?_⟩; ((with_reducible exact HPT.out x.1 x.2)); clear hK K) | (refine ite_undef (fun h => (by have h_ : (none : Option Bool) = some _ := h; cases h_)) ?_; (with_reducible refine hK _ ?_); clear hK K))
            (with_reducible refine wpQ2_nil ?_)
            refine Events.none_ fun w11 hg11 => ?_
            simp only [picks, List.drop_succ_cons, List.drop_zero]
            have HE11 := Lib.hid (ext_trans HE5.out hg11); have HO11 := Lib.hid (HO5.out.below hg11)
            have hon := own_some HO11.out (Nat.lt_of_le_of_lt (Nat.zero_le _) HQG.out)
            obtain ⟨g7', cp', hgv, hg7, -, -, hRC, hfz⟩ := hon
            have hgg : g7 = g7' := by injection hgv with h1 _ _; cases h1; rfl
            subst hgg
            have f2 := hfz (q * 4 + 2); have f3 := hfz (q * 4 + 3)
            have r2 := hRC.2 q 2 HQG.out (by omega); have r3 := hRC.2 q 3 HQG.out (by omega)
            rw [Nat.zero_add] at r2 r3
            have HKX2 := Lib.hid HKX.out
            have hkx := HKX.out; have hil := HIL.out
            clear q7c q7f c0 c1 c2 d0 hg11 hgv hRC hfz hg7 rq3 g1 g2 g3 g4 g5 g6 e1 e2 e3 e4 e5 e6 HPT
            go_wp2_with (fail)
            go_roundw
            case rel =>
              have hqo : q < O.length := by rw [HKO.out.len, ← HGL.out]; exact HQG.out
              have h1 := OwnR.set (j := 2) (i := q) HO11.out HQG.out (by omega) (.int .i64 P.lo)
              have h2 := OwnR.set (j := 3) (i := q) h1 HQG.out (by omega) (.int .i64 P.hi)
              exact ⟨k + 1, O.set q { gpD O q with lo := P.lo, hi := P.hi }, by go_num, by omega, below_set (below_set HE11.out HG7.out) HG7.out, OwnR.congr h2 fun i j _ hj => gpC_set2 hqo hj, outK_step HIO.out HKO.out (by rw [← HLL.out]; exact hil) (by have h := HKL.out; rw [HX.out] at h; exact h) (by rw [HQ.out, HX.out]; rfl) HP2.out⟩
            case measure => simp [intOf]; omega
          · obtain rfl : xn = k := by omega
            have hgg : ¬ (xn : Int) < (xn : Int) := by omega
            have HKN : Hid (OutK gs L (i + 1) 0 O) := Lib.hid (outK_next (by have h := HKO.out; rw [HXN.out, HX.out] at h; exact h))
            go_wp2_with (fail)
            go_roundw
            case rel => exact ⟨i + 1, O, by go_num, by omega, HE.out, HO.out, HKN.out⟩
            case measure => simp [intOf]; omega
      · obtain rfl : ll = i := by omega
        have hgg : ¬ (ll : Int) < (ll : Int) := by omega
        have HOE : Hid (O = ansV gs (L.map (toG gs))) := Lib.hid (outK_end HIO.out (by have h := HKO.out; rw [HLL.out] at h; exact h))
        have HOL : Hid (gl = O.length) := Lib.hid (by rw [HKO.out.len]; exact HGL.out)
        go_upto_region 17 with (fail)
        refine region_ev [] [0, 1, 2, 3, 4, 5, 6, 7, 8] [] [] (by kernel_rfl) (by kernel_rfl) (by intro c a d v w h; cases d <;> exact h) ?_
        simp only [picks, List.drop_succ_cons, List.drop_zero]
        repeat (refine wpQ0_step (fun K hK => ?_); go_simp; (refine hK _ ?_; clear hK K))
        refine wpQ0_nil ?_
        repeat ((with_reducible refine wpQ2_step (fun K hK => ?_)); go_simp; first | ((with_reducible refine hK _ ?_); clear hK K) | (apply Exists.intro; refine ⟨fun x => ?_, hK _ ?_⟩; (fail); clear hK K) | (refine ite_undef (fun h => (by have h_ : (none : Option Bool) = some _ := h; cases h_)) ?_; (with_reducible refine hK _ ?_); clear hK K))
        (with_reducible refine wpQ2_nil ?_)
        refine Events.none_ fun w11 hg11 => ?_
        simp only [picks, List.drop_succ_cons, List.drop_zero]
        have HE11 := Lib.hid (ext_trans HE.out hg11); have HO11 := Lib.hid (HO.out.below hg11)
        have HB11 := Lib.hid (HB6.out.below HE11.out)
        clear q7c q7f hg11
        go_wp2_with (fail)
        refine bodyPost_ret (v := .tuple #[.slice (some ⟨g7, 0, none⟩) gl cp7, .slice ka kl kc, .slice wa wl wc, .int .i64 0]) ?_ rfl ?post
        · simp [results, Tryz.results15, go_sem]
        case post => exact ⟨ext_trans HE6.out HE11.out, ⟨some ⟨g7, 0, none⟩, cp7⟩, ⟨ka, kc⟩, ⟨wa, wc⟩, by rw [HA2.out, HKL.out, HWL.out, ← HOE.out, HOL.out], by rw [HA2.out, ← HOE.out]; have h := HO11.out; rw [HOL.out] at h; exact own_row h, by rw [HA2.out]; exact HB11.out.k, by rw [HA2.out]; exact HB11.out.w⟩
end Go.Proofs.YtojomdojblgegaaGreatDoor
