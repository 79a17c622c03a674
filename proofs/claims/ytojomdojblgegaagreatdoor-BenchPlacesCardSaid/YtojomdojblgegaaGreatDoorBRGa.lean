/-
  ref.gaps.
-/
import Derived.Test.YtojomdojblgegaaGreatDoorBRTl
import Derived.Test.YtojomdojblgegaaGreatDoorBRA
import Derived.Test.YtojomdojblgegaaGreatDoorBGps
namespace Go.Proofs.YtojomdojblgegaaGreatDoor
open Go.RowKit D
set_option linter.unusedVariables false
set_option linter.unusedSimpArgs false
attribute [local go_sem high] run_minI run_maxI
attribute [local go_sem] upon2 cls_cell cls_frozen forall_const exists_eq_left'
attribute [local go_sem] FirstUpon atBlk_cell
theorem gapS_take {N : List Note} {P : List Piece} {k : Nat} (hk : k < P.length) : (P.take (k + 1)).foldl (gapS N) ([], []) = gapS N ((P.take k).foldl (gapS N) ([], [])) (pcD P k) := foldl_take hk
theorem told_len {N : List Note} {f : Int} : ∀ {l : List Note} {t : D.Told}, (l.foldl (toldS f) t).struck.length ≤ t.struck.length + l.length
  | [], _ => Nat.le_refl _
  | x :: l, t => by
    rw [List.foldl_cons, List.length_cons]
    have := told_len (N := N) (f := f) (l := l) (t := toldS f t x)
    have h : (toldS f t x).struck.length ≤ t.struck.length + 1 := by
      unfold toldS
      split
      · omega
      · split
        · simp only; omega
        · split
          · simp only [List.length_append, List.length_singleton]; omega
          · simp only; omega
    omega
theorem toldV_len (N : List Note) (f : Int) : (toldV N f).struck.length ≤ N.length := by
  have := told_len (N := N) (f := f) (l := N) (t := ⟨none, ⟨0, 400000⟩, []⟩)
  unfold toldV; simp only [List.length_nil] at this; omega
theorem gaps_len (N : List Note) : ∀ {P : List Piece} {st : List Gap × List Strike}, (P.foldl (gapS N) st).1.length ≤ st.1.length + P.length ∧ (P.foldl (gapS N) st).2.length ≤ st.2.length + P.length * N.length
  | [], st => ⟨Nat.le_refl _, by simp⟩
  | p :: P, st => by
    rw [List.foldl_cons, List.length_cons]
    have := gaps_len N (P := P) (st := gapS N st p)
    have h : (gapS N st p).1.length ≤ st.1.length + 1 ∧ (gapS N st p).2.length ≤ st.2.length + N.length := by
      unfold gapS
      split
      · omega
      · split
        · simp only [List.length_append, List.length_singleton]; omega
        · have := toldV_len N p.from_
          simp only [List.length_append, List.length_singleton]; omega
    rw [Nat.add_mul, Nat.one_mul]
    omega
theorem gap_row {w : World} {b : Nat} {f k lo hi : Int} (h : w.heap[b]? = some (.cells #[.int .i64 f, .int .i64 k, .int .i64 lo, .int .i64 hi] 70 (0, 0))) : GapsS w ⟨some ⟨b, 0, none⟩, 1⟩ [⟨f, k, lo, hi⟩] := by
  refine ⟨Nat.le_refl _, by simp, fun i j hi hj => ⟨b, 0, rfl, ?_⟩⟩
  obtain rfl : i = 0 := by simpa using hi
  rw [cell_blk h]
  rcases j with _ | _ | _ | _ | j
  · rfl
  · rfl
  · rfl
  · rfl
  · omega
theorem strikes_none (w : World) : StrikesS w ⟨none, 0⟩ [] := ⟨Nat.le_refl _, by simp, fun i j hi _ => absurd hi (Nat.not_lt_zero i)⟩
def GapsOutR (w : World) (F : Nat) (N : List Note) (e : Ending) (w' : World) : Prop := (∃ s1 s2 : Sl, e = .returned (.tuple #[.slice s1.a (gapsN F N).1.length s1.cap, .slice s2.a (gapsN F N).2.length s2.cap]) ∧ GapsS w' s1 (gapsN F N).1 ∧ StrikesS w' s2 (gapsN F N).2) ∧ Below w.heap.size w w'
set_option maxRecDepth 100000 in
set_option maxHeartbeats 8000000 in
theorem gapsR_any {T : Task} {t : TSl} {N : List Note} {ns : Sl} {F : Nat} {w : World} (hF : T.reel.frames = (F : Int)) (hFB : F ≤ 200000) (hN : NotesS w ns N) (hn : N.length ≤ 100) : Calls Tryz.prog 84 #[.agg #[.string T.reel.name, .int .i64 T.reel.gauge, .int .i64 T.reel.base, .int .i64 T.reel.frames, .int .i64 T.reel.ylo, .int .i64 T.reel.yhi, .int .i64 T.reel.keep, .slice t.r.m.a T.reel.marks.length t.r.m.cap, .slice t.r.s.a T.reel.syms.length t.r.s.cap, .slice t.r.l.a T.reel.lens.length t.r.l.cap, .int .i64 T.whole.lo, .int .i64 T.whole.hi, .slice t.n.a T.notes.length t.n.cap], .slice ns.a N.length ns.cap] w (GapsOutR w F N) := by
  have HPC := Lib.hid fun (W : World) (hW : Ext2 w W) => piecesR_any (t := t) hF hFB (RowS.below hN hW)
  have HTL := Lib.hid fun (W : World) (hW : Ext2 w W) (f : Int) => toldR_any (f := f) (RowS.below hN hW) (by omega)
  have HLEN := Lib.hid fun k => gaps_len N (P := (pieceK N F).take k) (st := ([], []))
  have HPL := Lib.hid (pieceK_len N F)
  obtain ⟨na, nc⟩ := ns
  obtain ⟨nl, hnl⟩ : ∃ n, n = N.length := ⟨_, rfl⟩
  obtain ⟨P, hP⟩ : ∃ P, P = pieceK N F := ⟨_, rfl⟩
  have hGN : gapsN F N = if (P.foldl (gapS N) ([], [])).1.length = 0 then ([⟨F, 1, 0, 400000⟩], []) else ((P.foldl (gapS N) ([], [])).1 ++ [⟨F, 3, 0, 400000⟩], (P.foldl (gapS N) ([], [])).2) := by rw [hP]; rfl
  rw [← hnl] at HPC HTL HLEN hn ⊢
  rw [← hP] at HPC HLEN HPL
  dsimp only at HPC HTL
  obtain ⟨m, hm⟩ : ∃ m, m = P.length := ⟨_, rfl⟩
  rw [← hm] at HPC HPL
  unfold GapsOutR
  obtain ⟨R, hR⟩ : ∃ R, R = gapsN F N := ⟨_, rfl⟩
  rw [← hR] at hGN ⊢
  have HFI := Lib.hid hF; have HM := Lib.hid hm; have HGN0 := Lib.hid hGN
  have hm2 : m ≤ 200000 := by have := HPL.out; omega
  clear hN hnl hF hP hm hGN hR
  go_enter Tryz.func84, Tryz.ntmps84
  go_upto_region 1 with (fail)
  refine wp_name ?_
  intro w3 hw3
  obtain ⟨n3, hn3⟩ : ∃ n, n = w.heap.size := ⟨_, rfl⟩
  have x3 : w3.heap[n3]? = some (Obj.cells #[.string T.reel.name, .int .i64 T.reel.gauge, .int .i64 T.reel.base, .int .i64 T.reel.frames, .int .i64 T.reel.ylo, .int .i64 T.reel.yhi, .int .i64 T.reel.keep, .slice t.r.m.a T.reel.marks.length t.r.m.cap, .slice t.r.s.a T.reel.syms.length t.r.s.cap, .slice t.r.l.a T.reel.lens.length t.r.l.cap, .int .i64 T.whole.lo, .int .i64 T.whole.hi, .slice t.n.a T.notes.length t.n.cap] 38) := by rw [hw3, hn3]; exact blk_new _ _
  have hE3 : Ext2 w w3 := by rw [hw3]; exact below_alloc' _ _
  rw [← hn3]
  have HE3 := Lib.hid hE3; have X3 := Lib.hid x3
  clear hw3 hn3 hE3
  have q3c := cell_blk x3
  have q3f := frz_blk x3
  clear x3
  go_wp2_with (fail)
  (with_reducible refine (HPC.out _ HE3.out).mono ?_)
  rintro e w4 ⟨⟨⟨pa, pc⟩, rfl, hPS⟩, hE4⟩
  have hple := hPS.le; have hpmx := hPS.max
  have HE4 := Lib.hid (ext_trans HE3.out hE4); have HPS := Lib.hid hPS; have X4 := Lib.hid (Ext2.blk hE4 X3.out)
  rw [← HM.out] at hple
  dsimp only at hple hpmx
  clear q3c q3f hE4 hPS HPC
  go_upto_region 5 with (fail)
  refine wp_name ?_
  intro w5 hw5
  obtain ⟨n9, hn9⟩ : ∃ n, n = w4.heap.size := ⟨_, rfl⟩
  have x9 : w5.heap[n9]? = some (Obj.cells #[.int .i64 (0), .int .i64 (400000)] 31) := by rw [hw5, hn9]; first | exact blk_new _ _ | exact Eq.trans (blk_set (blk_set (blk_new _ _) _ _) _ _) rfl
  have hE5 : Ext2 w4 w5 := by rw [hw5]; first | exact below_alloc' _ _ | exact below_set (below_set (below_alloc' _ _) (by simp)) (by simp)
  rw [← hn9]
  have HE5 := Lib.hid (ext_trans HE4.out hE5); have X9 := Lib.hid x9; have X5 := Lib.hid (Ext2.blk hE5 X4.out); have HPS5 := Lib.hid (HPS.out.below hE5)
  clear hw5 hn9 hE5 x9 X3 X4 HPS
  go_wp2_with (fail)
  go_loopw [6, 7, 10] (fun gv sv i wr => ∃ k : Nat, i = .int .i64 k ∧ k ≤ m ∧ Ext2 w5 wr ∧ OwnR wr w5.heap.size 70 4 gv ((P.take k).foldl (gapS N) ([], [])).1.length (gpC ((P.take k).foldl (gapS N) ([], [])).1) ∧ OwnR wr w5.heap.size 76 4 sv ((P.take k).foldl (gapS N) ([], [])).2.length (skC ((P.take k).foldl (gapS N) ([], [])).2)) (fun _ _ i _ => m - (intOf i).toNat)
  case atStart => exact ⟨0, rfl, by omega, Below.refl _ _, own_nil _ _ _ _ _, own_nil _ _ _ _ _⟩
  case round =>
    obtain ⟨k, rfl, hk, hE, hO, hK⟩ := hrel
    have hlen := HLEN.out k
    have hst := gapS_take (N := N) (P := P) (k := k)
    obtain ⟨st, hstd⟩ : ∃ st, st = (P.take k).foldl (gapS N) ([], []) := ⟨_, rfl⟩
    have HSTD := Lib.hid hstd
    rw [← hstd] at hlen hst hO hK
    obtain ⟨G, K⟩ := st
    dsimp only at hlen hst hO hK
    have htl : (P.take k).length ≤ k := by rw [List.length_take]; omega
    have hmul : (P.take k).length * nl ≤ 200000 * 100 := Nat.mul_le_mul (by omega) hn
    simp only [List.length_nil, Nat.zero_add] at hlen
    have HGB : Hid (G.length ≤ 200000) := Lib.hid (by omega)
    have HKB : Hid (K.length ≤ 20000000) := Lib.hid (by omega)
    obtain ⟨⟨oa, oc⟩, hv, hR⟩ := OwnR.sl hO
    dsimp only at hv
    subst hv
    have hle := hR.le; have hmx := hR.max
    obtain ⟨g, hg⟩ : ∃ g, g = G.length := ⟨_, rfl⟩
    rw [← hg] at hO hle HGB ⊢
    dsimp only at hle hmx
    have HE := Lib.hid hE; have HO := Lib.hid hO; have HK := Lib.hid hK; have HGN := Lib.hid hg; have HST := Lib.hid hst
    have x3 := Ext2.blk HE.out X5.out; have x9 := Ext2.blk HE.out X9.out
    clear hE hO hK hg hst hstd hlen htl hmul hR
    have q3c := cell_blk x3
    have q3f := frz_blk x3
    have q9c := cell_blk x9
    have q9f := frz_blk x9
    clear x3 x9
    by_cases hlt : k < m
    · go_light
      have hkl : k < P.length := by rw [← HM.out]; exact hlt
      obtain ⟨b, off, hpa, c0, c1, c2⟩ := pc_cells (HPS5.out.below HE.out) (i := k) hkl
      dsimp only at hpa
      subst hpa
      have hs2 := HST.out hkl
      obtain ⟨p, hp⟩ : ∃ p, p = pcD P k := ⟨_, rfl⟩
      rw [← hp] at c0 c1 c2 hs2
      obtain ⟨pf, pu, pl⟩ := p
      dsimp only at c0 c1 c2
      have HS2 := Lib.hid hs2
      have h0 : (0 : Int) ≤ (k : Int) := by omega
      have h1 : (k : Int) < (m : Int) := by omega
      have h2 : decide ((0 : Int) ≤ (k : Int)) = true := decide_eq_true h0
      have h3 : decide ((k : Int) < (m : Int)) = true := decide_eq_true h1
      have w2' : IntKind.i64.wrap ((k : Int) + 1) = (k : Int) + 1 := IntWalk.i64_in _ (by omega)
      clear hp hs2 hkl
      cases pl with
      | true =>
        have HF : Hid ((P.take (k + 1)).foldl (gapS N) ([], []) = (G, K)) := Lib.hid (by rw [HS2.out]; unfold gapS; rw [if_pos rfl])
        go_wp2_with (fail)
        go_roundw
        case rel => exact ⟨k + 1, by go_num, by omega, HE.out, by rw [HF.out]; dsimp only; rw [← HGN.out]; exact HO.out, by rw [HF.out]; exact HK.out⟩
        case measure => simp [intOf]; omega
      | false =>
        by_cases hg0 : g = 0
        · subst hg0
          have HF : Hid ((P.take (k + 1)).foldl (gapS N) ([], []) = (G ++ [⟨pf, 1, 0, 400000⟩], K)) := Lib.hid (by rw [HS2.out]; unfold gapS; rw [if_neg (by simp), if_pos HGN.out.symm])
          go_upto_region 10 with (fail)
          refine region_ev [] [0, 1, 2, 3, 4, 5, 6, 7] [(8, 39, none)] [9, 10] (by kernel_rfl) (by kernel_rfl) (by intro c a d v w h; cases d <;> exact h) ?_
          simp only [picks, List.drop_succ_cons, List.drop_zero]
          repeat (refine wpQ0_step (fun K hK => ?_); go_simp; (refine hK _ ?_; clear hK K))
          refine wpQ0_nil ?_
          repeat ((with_reducible refine wpQ2_step (fun K hK => ?_)); go_simp; first | ((with_reducible refine hK _ ?_); clear hK K) | (apply Exists.intro; refine ⟨fun x => ?_, hK _ ?_⟩; (fail); clear hK K) | (refine ite_undef (fun h => (by have h_ : (none : Option Bool) = some _ := h; cases h_)) ?_; (with_reducible refine hK _ ?_); clear hK K))
          (with_reducible refine wpQ2_nil ?_)
          refine Events.lay1 (fun b => .slice (some ⟨b, 0, none⟩) 1 1) (Obj.cells #[.int .i64 pf, .int .i64 1, .int .i64 0, .int .i64 400000] 70 (0, 0)) ⟨_, rfl, rfl, rfl, fun W => by kernel_rfl⟩ fun bq wx hbq hgx nbq => ?_
          simp only [picks, List.drop_succ_cons, List.drop_zero]
          have HEX := Lib.hid (ext_trans HE.out hgx); have HOX := Lib.hid (HO.out.below hgx); have HKX := Lib.hid (HK.out.below hgx); have NBQ := Lib.hid nbq
          have HSX := Lib.hid HEX.out.size
          clear q3c q3f q9c q9f c0 c1 c2 hgx hbq nbq
          go_wp2_with (at_builtin; go_loud (refine app_one_at [.int .i64 pf, .int .i64 1, .int .i64 0, .int .i64 400000] elGap rfl _ _ rfl w5.heap.size rfl HOX.out bq 1 rfl NBQ.out (by simp [Value.oneCell']) (by have := HGB.out; omega) HSX.out ?_; intro v' w7 hO7 hg7 _; (have HE7 := Lib.hid (ext_grown HEX.out hg7 (own_block HOX.out))); (have HK7 := Lib.hid (own_other HOX.out hg7 HKX.out (by decide))); (have HO7 : Hid (OwnR w7 w5.heap.size 70 4 v' (0 + 1) (gpC (G ++ [⟨pf, 1, 0, 400000⟩]))) := Lib.hid (by have hl : G.length = 0 := HGN.out.symm; have h7 := own_gp (w := w7) (base := w5.heap.size) (e := 70) (v := v') (L := G) (x := ⟨pf, 1, 0, 400000⟩) (by rw [hl]; exact hO7); rwa [List.length_append, List.length_singleton, hl] at h7)); skip; clear hO7 hg7; skip))
          go_roundw
          case rel => exact ⟨k + 1, by go_num, by omega, HE7.out, by rw [HF.out]; dsimp only; rw [List.length_append, List.length_singleton, ← HGN.out]; exact HO7.out, by rw [HF.out]; exact HK7.out⟩
          case measure => simp [intOf]; omega
        · have b1 : ((g : Int) == 0) = false := by simp; omega
          have hgn : ¬ G.length = 0 := by rw [← HGN.out]; exact hg0
          have hg0' : ¬ (g : Int) = 0 := by omega
          obtain ⟨V, hV⟩ : ∃ V, V = toldV N pf := ⟨_, rfl⟩
          have HTV := Lib.hid fun W hW => HTL.out W hW pf
          rw [← hV] at HTV
          have HF : Hid ((P.take (k + 1)).foldl (gapS N) ([], []) = (G ++ [⟨pf, 2, V.is.lo, V.is.hi⟩], K ++ V.struck)) := Lib.hid (by rw [HS2.out]; unfold gapS; rw [if_neg (by simp), if_neg hgn, ← hV])
          obtain ⟨vl, hvl⟩ : ∃ n, n = V.is.lo := ⟨_, rfl⟩
          obtain ⟨vh, hvh⟩ : ∃ n, n = V.is.hi := ⟨_, rfl⟩
          obtain ⟨vn, hvn⟩ : ∃ n, n = V.struck.length := ⟨_, rfl⟩
          rw [← hvl, ← hvh] at HF
          rw [← hvl, ← hvh, ← hvn] at HTV
          have HVN := Lib.hid hvn
          clear hg0 hgn hV hvl hvh hvn
          go_wp2_with (fail)
          (with_reducible refine (HTV.out _ (ext_trans HE5.out HE.out)).mono ?_)
          rintro e w6 ⟨⟨⟨ma, mc⟩, rfl, hMS, hml⟩, hE6⟩
          have HE6 := Lib.hid (ext_trans HE.out hE6); have HO6 := Lib.hid (HO.out.below hE6); have HK6 := Lib.hid (HK.out.below hE6); have HMS := Lib.hid hMS
          have HML : Hid (vn ≤ 100) := Lib.hid (by omega)
          have C0 := Lib.hid (ext_cell' hE6 c0)
          clear q3c q3f q9c q9f c0 c1 c2 hE6 hMS hml HTV HO HK
          go_upto_region 12 with (fail)
          refine wp_name ?_
          intro w8 hw8
          obtain ⟨n11, hn11⟩ : ∃ n, n = w6.heap.size := ⟨_, rfl⟩
          have x11 : w8.heap[n11]? = some (Obj.cells #[.int .i64 (vl), .int .i64 (vh)] 31) := by rw [hw8, hn11]; first | exact blk_new _ _ | exact Eq.trans (blk_set (blk_set (blk_new _ _) _ _) _ _) rfl
          have hE8 : Ext2 w6 w8 := by rw [hw8]; first | exact below_alloc' _ _ | exact below_set (below_set (below_alloc' _ _) (by simp)) (by simp)
          rw [← hn11]
          have c0 := ext_cell' hE8 C0.out
          have HE8 := Lib.hid (ext_trans HE6.out hE8); have HO8 := Lib.hid (HO6.out.below hE8); have HK8 := Lib.hid (HK6.out.below hE8); have HMS8 := Lib.hid (HMS.out.below hE8)
          have q11c := cell_blk x11
          have q11f := frz_blk x11
          clear hw8 hn11 hE8 x11 HO6 HK6 HMS HE6
          refine region_ev [10, 11] [0, 1, 2, 3, 4, 5, 6, 7] [(8, 59, none)] [9, 12, 13, 14] (by kernel_rfl) (by kernel_rfl) (by intro c a d v w h; cases d <;> exact h) ?_
          simp only [picks, List.drop_succ_cons, List.drop_zero]
          repeat (refine wpQ0_step (fun K hK => ?_); go_simp; (refine hK _ ?_; clear hK K))
          refine wpQ0_nil ?_
          repeat ((with_reducible refine wpQ2_step (fun K hK => ?_)); go_simp; first | ((with_reducible refine hK _ ?_); clear hK K) | (apply Exists.intro; refine ⟨fun x => ?_, hK _ ?_⟩; (fail); clear hK K) | (refine ite_undef (fun h => (by have h_ : (none : Option Bool) = some _ := h; cases h_)) ?_; (with_reducible refine hK _ ?_); clear hK K))
          (with_reducible refine wpQ2_nil ?_)
          refine Events.lay1 (fun b => .slice (some ⟨b, 0, none⟩) 1 1) (Obj.cells #[.int .i64 pf, .int .i64 2, .int .i64 vl, .int .i64 vh] 70 (0, 0)) ⟨_, rfl, rfl, rfl, fun W => by kernel_rfl⟩ fun bq wx hbq hgx nbq => ?_
          simp only [picks, List.drop_succ_cons, List.drop_zero]
          have HEX := Lib.hid (ext_trans HE8.out hgx); have HOX := Lib.hid (HO8.out.below hgx); have HKX := Lib.hid (HK8.out.below hgx); have NBQ := Lib.hid nbq; have HMX := Lib.hid (HMS8.out.below hgx)
          have HSX := Lib.hid HEX.out.size
          clear q11c q11f c0 hgx hbq nbq
          go_wp2_with (at_builtin; go_loud (refine app_one_at [.int .i64 pf, .int .i64 2, .int .i64 vl, .int .i64 vh] elGap rfl _ _ rfl w5.heap.size rfl HOX.out bq 1 rfl NBQ.out (by simp [Value.oneCell']) (by have := HGB.out; omega) HSX.out ?_; intro v' w7 hO7 hg7 _; (have HE7 := Lib.hid (ext_grown HEX.out hg7 (own_block HOX.out))); (have HK7 := Lib.hid (own_other HOX.out hg7 HKX.out (by decide))); (have HO7 : Hid (OwnR w7 w5.heap.size 70 4 v' (g + 1) (gpC (G ++ [⟨pf, 2, vl, vh⟩]))) := Lib.hid (by have hl : G.length = g := HGN.out.symm; have h7 := own_gp (w := w7) (base := w5.heap.size) (e := 70) (v := v') (L := G) (x := ⟨pf, 2, vl, vh⟩) (by rw [hl]; exact hO7); rwa [List.length_append, List.length_singleton, hl] at h7)); (have HMS7 := Lib.hid (own_other HOX.out hg7 HMX.out (by decide))); clear hO7 hg7; refine (fun (h : Hid _) => h.out) ?_))
          refine Lib.hid ?_
          go_wp2_with (at_builtin; go_loud (refine app_sl_at elStrike (c2 := skC (K ++ V.struck)) rfl _ _ rfl w5.heap.size rfl HK7.out ⟨ma, mc⟩ vn rfl (own_row HMS7.out) (skC_one _) (by have := HKB.out; have := HML.out; omega) HE7.out.size (fun i j hi _ => skC_left hi) (fun i j _ _ => skC_right) ?_; intro v9 w9 hO9 hg9 _; (have HE9 := Lib.hid (ext_grown HE7.out hg9 (own_block HK7.out))); (have HG9 := Lib.hid (own_other HK7.out hg9 HO7.out (by decide))); (have HO9 := Lib.hid hO9); clear hO9 hg9))
          go_roundw
          case rel => exact ⟨k + 1, by go_num, by omega, HE9.out, by rw [HF.out]; dsimp only; rw [List.length_append, List.length_singleton, ← HGN.out]; exact HG9.out, by rw [HF.out]; dsimp only; rw [List.length_append, ← HVN.out]; exact HO9.out⟩
          case measure => simp [intOf]; omega
    · obtain rfl : m = k := by omega
      have hgn := HGN0.out
      rw [← show P.take m = P from List.take_of_length_le (by rw [HM.out]; exact Nat.le_refl _), ← HSTD.out] at hgn
      dsimp only at hgn
      rw [← HGN.out] at hgn
      have hf := HFI.out
      have HGF := Lib.hid hgn
      obtain ⟨⟨ka, kc⟩, hkv, hKR⟩ := OwnR.sl HK.out
      dsimp only at hkv
      subst hkv
      have HKR := Lib.hid hKR; have HFE := Lib.hid hf
      clear hgn hKR hf
      by_cases hg0 : g = 0
      · subst hg0
        have HF : Hid (R = ([⟨F, 1, 0, 400000⟩], [])) := Lib.hid (by rw [HGF.out, if_pos rfl])
        go_wp2_with (fail)
        go_ret2
        exact ⟨⟨⟨some ⟨wr.heap.size, 0, none⟩, 1⟩, ⟨none, 0⟩, by rw [HF.out]; rfl, by rw [HF.out, ← HFE.out]; exact gap_row (blk_new _ _), by rw [HF.out]; exact strikes_none _⟩, ext_trans HE5.out (ext_trans HE.out (below_alloc' _ _))⟩
      · have b1 : ((g : Int) == 0) = false := by simp; omega
        have hg0' : ¬ (g : Int) = 0 := by omega
        have HF : Hid (R = (G ++ [⟨F, 3, 0, 400000⟩], K)) := Lib.hid (by rw [HGF.out, if_neg hg0])
        clear hg0
        go_wp2_with (at_builtin; go_loud (refine app_one_at [.int .i64 T.reel.frames, .int .i64 3, .int .i64 0, .int .i64 400000] elGap rfl _ _ rfl w5.heap.size rfl (HO.out.below (below_alloc' _ _)) wr.heap.size 1 rfl (blk_new _ _) (by simp [Value.oneCell']) (by have := HGB.out; omega) (by have := HE.out.size; simp; omega) ?_; intro v' w7 hO7 hg7 _; (have HE7 := Lib.hid (ext_grown (ext_trans HE.out (below_alloc' _ _)) hg7 (own_block HO.out))); (have HK7 := Lib.hid (own_app HO.out hg7 HK.out (by decide))); (have HO7 : Hid (OwnR w7 w5.heap.size 70 4 v' (g + 1) (gpC (G ++ [⟨T.reel.frames, 3, 0, 400000⟩]))) := Lib.hid (by have hl : G.length = g := HGN.out.symm; have h7 := own_gp (w := w7) (base := w5.heap.size) (e := 70) (v := v') (L := G) (x := ⟨T.reel.frames, 3, 0, 400000⟩) (by rw [hl]; exact hO7); rwa [List.length_append, List.length_singleton, hl] at h7)); clear hO7 hg7; (obtain ⟨⟨za, zc⟩, hzv, hzr⟩ := OwnR.sl HO7.out); subst hzv; (have HZR := Lib.hid hzr); clear hzr))
        go_ret2
        exact ⟨⟨⟨za, zc⟩, ⟨ka, kc⟩, by rw [HF.out, List.length_append, List.length_singleton, ← HGN.out]; rfl, by rw [HF.out, ← HFE.out]; have h7 := HZR.out; rwa [show g + 1 = (G ++ [(⟨T.reel.frames, 3, 0, 400000⟩ : Gap)]).length by rw [List.length_append, List.length_singleton, ← HGN.out]] at h7, by rw [HF.out]; exact own_row HK7.out⟩, ext_trans HE5.out HE7.out⟩
end Go.Proofs.YtojomdojblgegaaGreatDoor
