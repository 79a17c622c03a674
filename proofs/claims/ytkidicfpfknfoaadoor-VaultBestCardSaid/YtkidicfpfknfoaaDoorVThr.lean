/-
  The law's through: the hours of a way through some rooms, by Wait.
-/
import Derived.Test.YtkidicfpfknfoaaDoorVPlBst
import Derived.Test.YtkidicfpfknfoaaDoorVAwake
import Derived.Test.YtkidicfpfknfoaaDoorVArgM
import Derived.Test.YtkidicfpfknfoaaDoorDRegX
namespace Go.Proofs.YtkidicfpfknfoaaDoor
open Go.RowKit D
set_option linter.unusedVariables false
set_option linter.unusedSimpArgs false
attribute [local go_sem high] run_minI run_maxI
attribute [local go_sem] upon2 cls_cell cls_frozen forall_const exists_eq_left'
attribute [local go_sem] FirstUpon
def natC (L : List Nat) (i _ : Nat) : Value := .int .i64 (natD L i : Int)
theorem askE_zero {S : Site} (hC : Chk S) {t : Span} (ht : spanE t = 0) {r nx : Int} (hr : 0 ≤ r ∧ r < S.rooms.length) (hn : 0 ≤ nx ∧ nx < S.rooms.length) : askE S t [r, nx] = 0 := by
  have hc := chk_iff.2 hC
  rw [← pathE_ask (base := 1) hc (show inB 1 1 3 = true by decide)]
  unfold pathE
  rw [hc, ht, inB_iff.2 (show 0 ≤ r ∧ r ≤ (S.rooms.length : Int) - 1 by omega), inB_iff.2 (show 0 ≤ nx ∧ nx ≤ (S.rooms.length : Int) - 1 by omega)]
  simp
  decide
theorem waitO_of {S : Site} (hC : Chk S) {t : Span} (ht : spanE t = 0) {r nx : Nat} (hr : r < S.rooms.length) (hn : nx < S.rooms.length) : waitO S t (r : Int) (nx : Int) = match waitV S r nx t with | some (n, u) => ((n : Int), u, 0) | none => (0, ⟨0, 0⟩, 9) := by
  unfold waitO
  rw [if_neg (by rw [askE_zero hC ht ⟨by omega, by omega⟩ ⟨by omega, by omega⟩]; decide), Int.toNat_natCast, Int.toNat_natCast]
  rfl
theorem nat_cell {w : World} {s : Sl} {L : List Nat} (h : RowS w s 1 L.length (natC L)) {i : Nat} (hi : i < L.length) : ∃ b off, s.a = some ⟨b, off, none⟩ ∧ w.cell? ⟨b, off + i, none⟩ = some (.int .i64 (natD L i : Int)) := by
  obtain ⟨b, off, ha, h0⟩ := h.cell i 0 hi (by omega)
  rw [Nat.mul_one, Nat.add_zero] at h0
  exact ⟨b, off, ha, h0⟩
set_option maxRecDepth 100000 in
set_option maxHeartbeats 8000000 in
theorem through_any {S : Site} {s : SSl} {X : D.Ask} {L : List Nat} {sl : Sl} {w : World} (hS : SiteAt w S s) (hL : RowS w sl 1 L.length (natC L)) (hC : Chk S) (hsp : spanE X.t = 0) (hin : ∀ i, i < L.length → natD L i < S.rooms.length) (h5 : L.length ≤ 5) (hm : MaxAt w) :
    Calls Tryd.prog 24 #[.agg #[.slice s.r.a S.rooms.length s.r.cap, .slice s.c.a S.cans.length s.c.cap, .int .i64 S.rlo, .int .i64 S.rhi, .slice s.p.a S.steps.length s.p.cap], .agg #[.int .i64 X.t.lo, .int .i64 X.t.hi, .int .i64 X.room, .int .i64 X.next, .int .i64 X.hours, .int .i64 X.base], .slice sl.a L.length sl.cap] w fun e w' => e = .returned (.tuple #[.int .i64 (thrO S X.t L).1, .bool (thrO S X.t L).2]) ∧ Below w.heap.size w w' := by
  have HS := Lib.hid hS; have HM := Lib.hid hm; have HL := Lib.hid hL; have HC := Lib.hid hC; have HSP := Lib.hid hsp; have HIN := Lib.hid hin
  have hll := hL.le; have hlm := hL.max
  have hout : ∀ W, Below w.heap.size w W → ∀ a b, thrO S X.t L = (a, b) → (Ending.returned (.tuple #[.int .i64 a, .bool b]) = .returned (.tuple #[.int .i64 (thrO S X.t L).1, .bool (thrO S X.t L).2]) ∧ Below w.heap.size w W) := fun W hW a b he => by rw [he]; exact ⟨rfl, hW⟩
  have HOUT := Lib.hid hout
  obtain ⟨n, hn⟩ : ∃ n, n = L.length := ⟨_, rfl⟩
  have HN := Lib.hid hn
  simp only [← hn] at hll hlm h5 ⊢
  obtain ⟨a, c⟩ := sl
  dsimp only at hll hlm
  clear hS hm hL hC hsp hin hout hn
  go_enter Tryd.func24, Tryd.ntmps24
  go_wp2_with (fail)
  refine wp_name ?_
  intro w1 hw1
  obtain ⟨n3, hn3⟩ : ∃ n, n = w.heap.size := ⟨_, rfl⟩
  obtain ⟨n4, hn4⟩ : ∃ n, n = n3 + 1 := ⟨_, rfl⟩
  obtain ⟨n8, hn8⟩ : ∃ n, n = n4 + 1 := ⟨_, rfl⟩
  have hE1 : Ext2 w w1 := by rw [hw1]; exact ext_trans (ext_trans (below_alloc' _ _) (below_alloc' _ _)) (below_alloc' _ _)
  have X3 : Hid (w1.heap[n3]? = some (Obj.cells #[.slice s.r.a S.rooms.length s.r.cap, .slice s.c.a S.cans.length s.c.cap, .int .i64 S.rlo, .int .i64 S.rhi, .slice s.p.a S.steps.length s.p.cap] 28)) := Lib.hid (by rw [hw1, hn3]; exact blk_alloc (blk_alloc (blk_new _ _) _) _)
  have X8 : Hid (w1.heap[n8]? = some (Obj.cells #[.int .i64 X.t.lo, .int .i64 X.t.hi] 25)) := Lib.hid (by rw [hw1, hn8, hn4, hn3]; exact blk_new' _ _ (by simp))
  rw [← hn3, ← hn4, ← hn8]
  have l38 : n3 < n8 := by omega
  have lw8 : w.heap.size ≤ n8 := by omega
  have HE1 := Lib.hid hE1
  clear hw1 hE1 hn3 hn4 hn8
  go_loopw [9, 10] (fun v z wr => ∃ (i : Nat) (h : Int) (u : Span), z = .int .i64 (i : Int) ∧ v = .int .i64 h ∧ i ≤ n - 1 ∧ thrK S X.t L i = some (h, u) ∧ Below w.heap.size w wr ∧ wr.heap[n3]? = some (Obj.cells #[.slice s.r.a S.rooms.length s.r.cap, .slice s.c.a S.cans.length s.c.cap, .int .i64 S.rlo, .int .i64 S.rhi, .slice s.p.a S.steps.length s.p.cap] 28) ∧ wr.heap[n8]? = some (Obj.cells #[.int .i64 u.lo, .int .i64 u.hi] 25)) (fun _ z _ => n - (intOf z).toNat)
  case atStart => exact ⟨0, 0, X.t, rfl, rfl, by omega, rfl, HE1.out, X3.out, X8.out⟩
  case round =>
    obtain ⟨i, h, u, rfl, rfl, hi, ht, hB, x3, x8⟩ := hrel
    obtain ⟨b1, b2, b3⟩ := thrK_ok HC.out HSP.out HIN.out (k := i) (by rw [← HN.out]; omega) ht
    have HB := Lib.hid hB; have HT := Lib.hid ht; have Y3 := Lib.hid x3; have Y8 := Lib.hid x8; have HU := Lib.hid b1
    have w1' : IntKind.i64.wrap ((i : Int) + 1) = (i : Int) + 1 := IntWalk.i64_in _ (by omega)
    by_cases hlt : i + 1 < n
    · go_light
      have i2 : (i : Int) + 1 < (n : Int) := by omega
      have q3c := cell_blk x3
      have q3f := frz_blk x3
      have q8c := cell_blk x8
      have q8f := frz_blk x8
      obtain ⟨bb, off, ha, d0⟩ := nat_cell (HL.out.below HB.out) (i := i) (by rw [← HN.out]; omega)
      obtain ⟨bb', off', ha', d1⟩ := nat_cell (HL.out.below HB.out) (i := i + 1) (by rw [← HN.out]; omega)
      dsimp only at ha ha'
      subst ha
      obtain ⟨rfl, rfl⟩ : bb = bb' ∧ off = off' := by simpa using ha'
      clear ha'
      have r0 := HIN.out i (by rw [← HN.out]; omega)
      have r1 := HIN.out (i + 1) (by rw [← HN.out]; omega)
      have hW := waitO_of HC.out b1 r0 r1
      have hWt : ∀ W, Ext2 wr W → Calls Tryd.prog 36 #[.agg #[.slice s.r.a S.rooms.length s.r.cap, .slice s.c.a S.cans.length s.c.cap, .int .i64 S.rlo, .int .i64 S.rhi, .slice s.p.a S.steps.length s.p.cap], .agg #[.int .i64 u.lo, .int .i64 u.hi], .int .i64 (natD L i : Int), .int .i64 (natD L (i + 1) : Int)] W fun e' w' => e' = .returned (.tuple #[.int .i64 (waitO S u (natD L i : Int) (natD L (i + 1) : Int)).1, .agg #[.int .i64 (waitO S u (natD L i : Int) (natD L (i + 1) : Int)).2.1.lo, .int .i64 (waitO S u (natD L i : Int) (natD L (i + 1) : Int)).2.1.hi], .int .i64 (waitO S u (natD L i : Int) (natD L (i + 1) : Int)).2.2]) ∧ Below W.heap.size W w' := fun W hW' => waitA_any (HS.out.below (below_ext HB.out hW')) (HM.out.below (below_ext HB.out hW'))
      obtain ⟨o1, o2, o3, ho⟩ : ∃ a b c, waitO S u (natD L i : Int) (natD L (i + 1) : Int) = (a, b, c) := ⟨_, _, _, rfl⟩
      rw [ho] at hWt hW
      have HWT := Lib.hid hWt; have HWO := Lib.hid hW
      have p0 : (0 : Int) ≤ (i : Int) := by omega
      have p1 : (i : Int) < (n : Int) := by omega
      have p2 : (0 : Int) ≤ (i : Int) + 1 := by omega
      have p3 : ((i : Int) + 1).toNat = i + 1 := by omega
      clear hB x3 x8 ht hWt hW ho r0 r1 b1
      go_wp2_with (fail)
      refine region_treeU (Ext2 wr) (.flt [0, 1, 2, 3, 4, 5, 6, 7, 8, 9, 10] (.two 11 (.flt [12, 13, 14, 15] (.one 16 (.one 17 (.one 18 (.one 19 .leaf))))) 16 (.one 11 (.flt [12, 13, 14, 15] (.one 17 (.one 18 (.one 19 .leaf))))))) (fun W h => h) (by kernel_rfl) (by kernel_rfl) (by intro c a d v w h; cases d <;> exact h) ?_
      intro w2 hw2
      refine wpU_flt ?_
      simp only [picks, List.drop_succ_cons, List.drop_zero]
      repeat ((with_reducible refine wpQS_step (fun K hK => ?_)); go_simp; ((with_reducible refine hK _ ?_); clear hK K))
      (with_reducible refine wpQS_nil ?_)
      refine wpU_two ?p1 ?p2
      case' p1 =>
        simp only [picks, List.drop_succ_cons, List.drop_zero]
        go_wp2_with (fail)
        refine (HWT.out _ hw2).mono ?_
        rintro e w3 ⟨rfl, hb3⟩
        go_wp2_with (fail)
        refine ⟨ext_trans hw2 hb3, ?_⟩
        refine wpU_flt ?_
        simp only [picks, List.drop_succ_cons, List.drop_zero]
        repeat ((with_reducible refine wpQS_step (fun K hK => ?_)); go_simp; ((with_reducible refine hK _ ?_); clear hK K))
        (with_reducible refine wpQS_nil ?_)
        refine wpU_one ?_
        simp only [picks, List.drop_succ_cons, List.drop_zero]
        go_wp2_with (fail)
        refine andU_name (fun w6 hw6 => ?_)
        obtain ⟨n12, hn12⟩ : ∃ b, b = w3.heap.size := ⟨_, rfl⟩
        have N12 : Hid (w6.heap[n12]? = some (Obj.cells #[.int .i64 0, .int .i64 0] 25)) := Lib.hid (by rw [hw6, hn12]; exact blk_new _ _)
        have HE6 : Hid (Ext2 wr w6) := Lib.hid (by rw [hw6]; exact ext_trans (ext_trans hw2 hb3) (below_alloc' _ _))
        have l12 : wr.heap.size ≤ n12 := by rw [hn12]; exact (ext_trans hw2 hb3).size
        rw [← hn12]
        clear hw6 hn12 hb3 hw2
        refine ⟨HE6.out, ?_⟩
      case' p2 =>
        simp only [picks, List.drop_succ_cons, List.drop_zero]
        go_wp2_with (fail)
        refine andU_name (fun w3 hw3 => ?_)
        obtain ⟨n12, hn12⟩ : ∃ b, b = w2.heap.size := ⟨_, rfl⟩
        have N3 : w3.heap[n12]? = some (Obj.cells #[.int .i64 0, .int .i64 0] 25) := by rw [hw3, hn12]; exact blk_new _ _
        have hE3 : Ext2 wr w3 := by rw [hw3]; exact ext_trans hw2 (below_alloc' _ _)
        have l12 : wr.heap.size ≤ n12 := by rw [hn12]; exact hw2.size
        rw [← hn12]
        clear hw3 hn12 hw2
        refine ⟨hE3, wpU_one ?_⟩
        simp only [picks, List.drop_succ_cons, List.drop_zero]
        go_wp2_with (fail)
        refine (HWT.out _ hE3).mono ?_
        rintro e w6 ⟨rfl, hb6⟩
        have N12 : Hid (w6.heap[n12]? = some (Obj.cells #[.int .i64 0, .int .i64 0] 25)) := Lib.hid (Ext2.blk hb6 N3)
        have HE6 : Hid (Ext2 wr w6) := Lib.hid (ext_trans hE3 hb6)
        clear N3 hE3 hb6
        go_wp2_with (fail)
        refine ⟨HE6.out, ?_⟩
        refine wpU_flt ?_
        simp only [picks, List.drop_succ_cons, List.drop_zero]
        repeat ((with_reducible refine wpQS_step (fun K hK => ?_)); go_simp; ((with_reducible refine hK _ ?_); clear hK K))
        (with_reducible refine wpQS_nil ?_)
      all_goals
        refine wpU_one ?_
        simp only [picks, List.drop_succ_cons, List.drop_zero]
        go_wp2_with (fail)
        refine ⟨HE6.out, wpU_one ?_⟩
        have x12 := N12.out
        have q12c := cell_blk x12
        have q12f := frz_blk x12
        clear x12
        simp only [picks, List.drop_succ_cons, List.drop_zero]
        go_wp2_with (fail)
        refine andU_name (fun w7 hw7 => ?_)
        have HE7 : Hid (Ext2 wr w7) := Lib.hid (by rw [hw7]; exact below_set (below_set HE6.out l12) l12)
        have N7 : Hid (w7.heap[n12]? = some (Obj.cells #[.int .i64 o2.lo, .int .i64 o2.hi] 25)) := Lib.hid (by rw [hw7]; exact Eq.trans (blk_set (blk_set N12.out 0 _) 1 _) rfl)
        refine ⟨HE7.out, wpU_one ?_⟩
        clear hw7 q12c q12f N12 HE6
        simp only [picks, List.drop_succ_cons, List.drop_zero]
        go_wp2_with (fail)
        refine ⟨HE7.out, wpU_leaf ?_⟩
        obtain ⟨wv, hwv⟩ : ∃ x, x = waitV S (natD L i) (natD L (i + 1)) u := ⟨_, rfl⟩
        have hwo := HWO.out
        rw [← hwv] at hwo
        have HWV := Lib.hid hwv.symm
        have HB7 := Lib.hid (below_ext HB.out HE7.out)
        have k8 := blk_lt Y8.out
        have x8' := Ext2.blk HE7.out Y8.out
        have X37 := Lib.hid (Ext2.blk HE7.out Y3.out)
        have x12 := N7.out
        have n128 : ¬ n12 = n8 := by omega
        have n83 : n8 ≠ n3 := by omega
        clear hwv d0 d1 q3c q3f q8c q8f
        rcases wv with _ | ⟨k, v⟩
        · simp only [Prod.mk.injEq] at hwo
          obtain ⟨rfl, rfl, rfl⟩ := hwo
          have hd : ((9 : Int) != 0) = true := by decide
          clear x8' x12
          go_wp2_with (fail)
          refine bodyPost_ret (v := .tuple #[.int .i64 0, .bool false]) ?_ rfl ?_
          · simp [results, Tryd.results24, go_sem]
          exact HOUT.out w7 HB7.out 0 false (thrO_none (thrK_stop HT.out HWV.out) (by rw [← HN.out]; omega))
        · simp only [Prod.mk.injEq] at hwo
          obtain ⟨rfl, rfl, rfl⟩ := hwo
          have hd : ((0 : Int) != 0) = false := rfl
          have hk := wait_le HWV.out
          have w2' : IntKind.i64.wrap (h + (k : Int)) = h + (k : Int) := IntWalk.i64_in _ (by omega)
          have q12c := cell_blk x12
          have q12f := frz_blk x12
          have q8c := cell_blk x8'
          have q8f := frz_blk x8'
          clear x8' x12
          go_wp2_with (fail)
          go_roundw
          case rel => exact ⟨i + 1, h + (k : Int), o2, by go_num, rfl, by omega, thrK_some HT.out HWV.out, below_set (below_set HB7.out (by omega)) (by omega), blk_set_ne (blk_set_ne X37.out n83) n83, Eq.trans (blk_set (blk_set (Ext2.blk HE7.out Y8.out) 0 _) 1 _) rfl⟩
          case measure => simp [intOf]; omega
    · have r1 : ¬ (i : Int) + 1 < (n : Int) := by omega
      have hout := thrO_some (L := L) (k := i) (by rw [← HN.out]; omega) HT.out
      have HO := Lib.hid hout
      clear hB x3 x8 ht b1 hout
      by_cases hn0 : 0 < n
      · have r2 : (0 : Int) < (n : Int) := by omega
        go_wp2_with (fail)
        refine bodyPost_ret (v := .tuple #[.int .i64 h, .bool true]) ?_ rfl ?_
        · simp [results, Tryd.results24, go_sem]
        exact HOUT.out wr HB.out h true (by rw [HO.out, ← HN.out, decide_eq_true hn0])
      · have r2 : ¬ (0 : Int) < (n : Int) := by omega
        go_wp2_with (fail)
        refine bodyPost_ret (v := .tuple #[.int .i64 h, .bool false]) ?_ rfl ?_
        · simp [results, Tryd.results24, go_sem]
        exact HOUT.out wr HB.out h false (by rw [HO.out, ← HN.out, decide_eq_false hn0])
end Go.Proofs.YtkidicfpfknfoaaDoor
