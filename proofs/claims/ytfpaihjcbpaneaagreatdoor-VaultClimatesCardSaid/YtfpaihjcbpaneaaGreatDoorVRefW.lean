/-
  ref.why.
-/
import Derived.Test.YtfpaihjcbpaneaaGreatDoorVRefM
import Derived.Deep.Cut
import Derived.Deep.CutRange
import Derived.Deep.DeepCutAuto
namespace Go.Proofs.YtfpaihjcbpaneaaGreatDoor
open Go.RowKit D
set_option linter.unusedVariables false
set_option linter.unusedSimpArgs false
attribute [local go_sem high] run_minI run_maxI
attribute [local go_sem] upon2 cls_cell cls_frozen forall_const exists_eq_left'
attribute [local go_sem] FirstUpon
theorem whyV_eq {S : Site} {M : List Mv} {h c t : Nat} : whyV S M ⟨(h : Int), (c : Int), (t : Int)⟩ =
    if 0 < M.length ∧ (h : Int) < (mvD M (M.length - 1)).hour then 130
    else if atV S M c (h : Int) = (t : Int) then 131
    else if (cnD S.cans c).base = 1 ∧ (rmD S.rooms t).allows = false then 132
    else if (cnD S.cans c).base = 1 ∧ (rmD S.rooms t).most < amt S (moveW S M ⟨(h : Int), (c : Int), (t : Int)⟩) t then 133
    else if nears S (moveW S M ⟨(h : Int), (c : Int), (t : Int)⟩) ≠ [] then 134
    else if mayS (ownT S M c h) (rmD S.rooms t) then 135 else 0 := by
  unfold whyV; simp only [Int.toNat_natCast]
theorem moveW_len {S : Site} {M : List Mv} {m : Mv} : (moveW S M m).length = S.cans.length := by unfold moveW; rw [List.length_set, whereV_len]
set_option maxRecDepth 100000 in
set_option maxHeartbeats 8000000 in
theorem whyR_any {S : Site} {s : SSl} {M : List Mv} {sl : Sl} {m : Mv} {w : World} (hS : SiteAt w S s) (hL : MovesS w sl M) (hC : Chk S) (hM : ∀ x ∈ M, mvE S x = 0) (hml : M.length ≤ 60) (hm : mvE S m = 0) :
    Calls Tryz.prog 69 #[.agg #[.slice s.r.a S.rooms.length s.r.cap, .slice s.c.a S.cans.length s.c.cap, .int .i64 S.rlo, .int .i64 S.rhi, .slice s.p.a S.steps.length s.p.cap], .slice sl.a M.length sl.cap, .agg #[.int .i64 m.hour, .int .i64 m.can, .int .i64 m.to_]] w fun e w' => e = .returned (.int .i64 (whyV S M m)) ∧ Below w.heap.size w w' := by
  obtain ⟨⟨z1, z2⟩, ⟨z3, z4⟩, z5, z6⟩ := mvE_iff.1 hm
  obtain ⟨mh, mc, mt⟩ := m
  dsimp only at z1 z2 z3 z4 z5 z6
  obtain ⟨h, rfl⟩ : ∃ n : Nat, mh = (n : Int) := ⟨mh.toNat, by omega⟩
  obtain ⟨c, rfl⟩ : ∃ n : Nat, mc = (n : Int) := ⟨mc.toNat, by omega⟩
  obtain ⟨t, rfl⟩ : ∃ n : Nat, mt = (n : Int) := ⟨mt.toNat, by omega⟩
  have hc : c < S.cans.length := by omega
  have ht : t < S.rooms.length := by omega
  have hh24 : h ≤ 2400 := by omega
  have HS := Lib.hid hS; have HL := Lib.hid hL; have HCK := Lib.hid hC; have HM := Lib.hid hM
  have hcl := hS.cn.le; have hcm := hS.cn.max; have hrl := hS.rm.le; have hrm := hS.rm.max
  have hll := hL.le; have hlm := hL.max
  have hn30 : S.cans.length ≤ 30 := hC.len.2.1
  have hn12 : S.rooms.length ≤ 12 := hC.len.1.2
  obtain ⟨⟨ra, rc⟩, ⟨ca, cc⟩, ps⟩ := s
  obtain ⟨ka, kc⟩ := sl
  dsimp only at hcl hcm hrl hrm hll hlm
  obtain ⟨cb, coff, hca, -, e1, -, -⟩ := cn_cells hS.cn hc
  obtain ⟨rb, roff, hra, hrc⟩ := rm_cells hS.rm ht
  dsimp only at hca hra
  subst hca
  subst hra
  obtain ⟨base, hbase⟩ : ∃ x, x = (cnD S.cans c).base := ⟨_, rfl⟩
  obtain ⟨R, hR⟩ : ∃ R, R = rmD S.rooms t := ⟨_, rfl⟩
  have e6 := hrc.c6; have e7 := hrc.c7
  rw [← hR] at e6 e7
  rw [← hbase] at e1
  have hW := whyV_eq (S := S) (M := M) (h := h) (c := c) (t := t)
  rw [← hbase, ← hR] at hW
  obtain ⟨WV, hWV⟩ : ∃ x, x = whyV S M ⟨(h : Int), (c : Int), (t : Int)⟩ := ⟨_, rfl⟩
  rw [← hWV] at hW ⊢
  have HW := Lib.hid hW
  have HRR := Lib.hid hR
  have i0 : (0 : Int) ≤ (c : Int) := by omega
  have i1 : (c : Int) < (S.cans.length : Int) := by omega
  have i2 : (0 : Int) ≤ (t : Int) := by omega
  have i3 : (t : Int) < (S.rooms.length : Int) := by omega
  have i0' : decide ((0 : Int) ≤ (c : Int)) = true := decide_eq_true i0
  have i1' : decide ((c : Int) < (S.cans.length : Int)) = true := decide_eq_true i1
  have i2' : decide ((0 : Int) ≤ (t : Int)) = true := decide_eq_true i2
  have i3' : decide ((t : Int) < (S.rooms.length : Int)) = true := decide_eq_true i3
  have hAT : ∀ W, Ext2 w W → ∀ i : Nat, i < S.cans.length → Calls Tryz.prog 40 #[.agg #[.slice (SSl.mk ⟨some ⟨rb, roff, none⟩, rc⟩ ⟨some ⟨cb, coff, none⟩, cc⟩ ps).r.a S.rooms.length (SSl.mk ⟨some ⟨rb, roff, none⟩, rc⟩ ⟨some ⟨cb, coff, none⟩, cc⟩ ps).r.cap, .slice (SSl.mk ⟨some ⟨rb, roff, none⟩, rc⟩ ⟨some ⟨cb, coff, none⟩, cc⟩ ps).c.a S.cans.length (SSl.mk ⟨some ⟨rb, roff, none⟩, rc⟩ ⟨some ⟨cb, coff, none⟩, cc⟩ ps).c.cap, .int .i64 S.rlo, .int .i64 S.rhi, .slice (SSl.mk ⟨some ⟨rb, roff, none⟩, rc⟩ ⟨some ⟨cb, coff, none⟩, cc⟩ ps).p.a S.steps.length (SSl.mk ⟨some ⟨rb, roff, none⟩, rc⟩ ⟨some ⟨cb, coff, none⟩, cc⟩ ps).p.cap], .slice ka M.length kc, .int .i64 (i : Int), .int .i64 (h : Int)] W fun e w' => e = .returned (.int .i64 (atV S M i (h : Int))) ∧ Below W.heap.size W w' := fun W hW i hi => atR_any (s := SSl.mk ⟨some ⟨rb, roff, none⟩, rc⟩ ⟨some ⟨cb, coff, none⟩, cc⟩ ps) (sl := ⟨ka, kc⟩) (c := i) (h := (h : Int)) (HS.out.below hW).cn (HL.out.below hW) hi
  have HAT := Lib.hid hAT
  have EC1 := Lib.hid e1; have EC6 := Lib.hid e6; have EC7 := Lib.hid e7; have HBS := Lib.hid hbase
  clear e1 e6 e7
  clear hS hL hC hM hm hW hWV hbase hR hAT z1 z2 z3 z4 z5 z6 hrc
  go_enter Tryz.func69, Tryz.ntmps69
  go_upto_region 1 with fail
  refine wp_name ?_
  intro w1 hw1
  obtain ⟨n3, hn3⟩ : ∃ n, n = w.heap.size := ⟨_, rfl⟩
  obtain ⟨n5, hn5⟩ : ∃ n, n = n3 + 1 := ⟨_, rfl⟩
  have hE1 : Ext2 w w1 := by rw [hw1]; exact ext_trans (below_alloc' _ _) (below_alloc' _ _)
  have x3 : w1.heap[n3]? = some (Obj.cells #[.slice (SSl.mk ⟨some ⟨rb, roff, none⟩, rc⟩ ⟨some ⟨cb, coff, none⟩, cc⟩ ps).r.a S.rooms.length (SSl.mk ⟨some ⟨rb, roff, none⟩, rc⟩ ⟨some ⟨cb, coff, none⟩, cc⟩ ps).r.cap, .slice (SSl.mk ⟨some ⟨rb, roff, none⟩, rc⟩ ⟨some ⟨cb, coff, none⟩, cc⟩ ps).c.a S.cans.length (SSl.mk ⟨some ⟨rb, roff, none⟩, rc⟩ ⟨some ⟨cb, coff, none⟩, cc⟩ ps).c.cap, .int .i64 S.rlo, .int .i64 S.rhi, .slice (SSl.mk ⟨some ⟨rb, roff, none⟩, rc⟩ ⟨some ⟨cb, coff, none⟩, cc⟩ ps).p.a S.steps.length (SSl.mk ⟨some ⟨rb, roff, none⟩, rc⟩ ⟨some ⟨cb, coff, none⟩, cc⟩ ps).p.cap] 28) := by rw [hw1, hn3]; exact blk_alloc (blk_new _ _) _
  have x5 : w1.heap[n5]? = some (Obj.cells #[.int .i64 (h : Int), .int .i64 (c : Int), .int .i64 (t : Int)] 95) := by rw [hw1, hn5, hn3]; exact blk_new' _ _ (by simp)
  rw [← hn3, ← hn5]
  have l3 : w.heap.size ≤ n3 := by omega
  have l5 : w.heap.size ≤ n5 := by omega
  have HE1 := Lib.hid hE1; have X3 := Lib.hid x3; have X5 := Lib.hid x5
  clear hw1 hn3 hn5 x3
  have q5c := cell_blk x5
  have q5f := frz_blk x5
  clear x5
  obtain ⟨B1, hB1⟩ : ∃ B : Bool, B = decide (0 < M.length ∧ (h : Int) < (mvD M (M.length - 1)).hour) := ⟨_, rfl⟩
  have HB1 := Lib.hid hB1
  clear hB1
  go_cut [24] from 10 to 24 (fun v wx => v = .bool B1 ∧ Ext2 w1 wx)
  case first =>
    by_cases hm0 : M.length = 0
    · have b9 : ¬ (0 : Int) < (M.length : Int) := by omega
      have b9' : decide ((0 : Int) < (M.length : Int)) = false := decide_eq_false b9
      have b7' : decide (0 < M.length) = false := decide_eq_false (by omega)
      have b7 : ¬ 0 < M.length := by omega
      have hend : Hid (Value.bool false = Value.bool B1) := Lib.hid (by rw [HB1.out, decide_eq_false (fun hh => b7 hh.1)])
      clear hm0 hE1
      refine region_ev [] [0, 1, 2, 3, 4, 5, 6, 7, 8, 9, 10, 11, 12, 13, 14] [] [] (by kernel_rfl) (by kernel_rfl) (by intro c a d v w h; cases d <;> exact h) ?_
      simp only [picks, List.drop_succ_cons, List.drop_zero]
      repeat (refine wpQ0_step (fun K hK => ?_); go_simp; (refine hK _ ?_; clear hK K))
      refine wpQ0_nil ?_
      repeat ((with_reducible refine wpQ2_step (fun K hK => ?_)); go_simp; first | ((with_reducible refine hK _ ?_); clear hK K) | (apply Exists.intro; refine ⟨fun x => ?_, hK _ ?_⟩; (fail); clear hK K) | (refine ite_undef (fun h => (by have h_ : (none : Option Bool) = some _ := h; cases h_)) ?_; (with_reducible refine hK _ ?_); clear hK K))
      (with_reducible refine wpQ2_nil ?_)
      refine Events.none_ fun w2 hg2 => ?_
      simp only [picks, List.drop_succ_cons, List.drop_zero]
      go_wp2_with (fail)
      go_meet
      case rel => exact ⟨hend.out, hg2⟩
    · obtain ⟨p, hp⟩ : ∃ p, p = M.length - 1 := ⟨_, rfl⟩
      have hpl : p < M.length := by omega
      obtain ⟨kb, koff, hka, d0, -, -⟩ := mv_cells (HL.out.below hE1) hpl
      dsimp only at hka
      subst hka
      obtain ⟨lh, hlh⟩ : ∃ x, x = (mvD M p).hour := ⟨_, rfl⟩
      rw [← hlh] at d0
      have b9 : (0 : Int) < (M.length : Int) := by omega
      have b9' : decide ((0 : Int) < (M.length : Int)) = true := decide_eq_true b9
      have b7' : decide (0 < M.length) = true := decide_eq_true (by omega)
      have b7 : 0 < M.length := by omega
      have wl : IntKind.i64.wrap ((M.length : Int) - 1) = (p : Int) := by rw [show (M.length : Int) - 1 = (p : Int) by omega]; exact IntWalk.i64_in _ (by omega)
      have j0 : (0 : Int) ≤ (p : Int) := by omega
      have j1 : (p : Int) < (M.length : Int) := by omega
      have j0' : decide ((0 : Int) ≤ (p : Int)) = true := decide_eq_true j0
      have j1' : decide ((p : Int) < (M.length : Int)) = true := decide_eq_true j1
      have hend : Hid (Value.bool (decide ((h : Int) < lh)) = Value.bool B1) := Lib.hid (by
        rw [HB1.out, hlh, hp]; congr 1; simp [b7])
      clear hm0 hE1 hp hlh
      refine region_ev [] [0, 1, 2, 3, 4, 5, 6, 7, 8, 9, 10, 11, 12, 13, 14] [] [] (by kernel_rfl) (by kernel_rfl) (by intro c a d v w h; cases d <;> exact h) ?_
      simp only [picks, List.drop_succ_cons, List.drop_zero]
      repeat (refine wpQ0_step (fun K hK => ?_); go_simp; (refine hK _ ?_; clear hK K))
      refine wpQ0_nil ?_
      repeat ((with_reducible refine wpQ2_step (fun K hK => ?_)); go_simp; first | ((with_reducible refine hK _ ?_); clear hK K) | (apply Exists.intro; refine ⟨fun x => ?_, hK _ ?_⟩; (fail); clear hK K) | (refine ite_undef (fun h => (by have h_ : (none : Option Bool) = some _ := h; cases h_)) ?_; (with_reducible refine hK _ ?_); clear hK K))
      (with_reducible refine wpQ2_nil ?_)
      refine Events.none_ fun w2 hg2 => ?_
      simp only [picks, List.drop_succ_cons, List.drop_zero]
      go_wp2_with (fail)
      go_meet
      case rel => exact ⟨hend.out, hg2⟩
  case rest =>
  obtain ⟨rfl, hE2⟩ := hcut
  obtain ⟨w2, rfl⟩ : ∃ x, x = wc := ⟨_, rfl⟩
  have HE2 := Lib.hid (ext_trans HE1.out hE2)
  have X32 := Lib.hid (Ext2.blk hE2 X3.out); have X52 := Lib.hid (Ext2.blk hE2 X5.out)
  clear hE2 hE1 q5c q5f
  by_cases hp1 : 0 < M.length ∧ (h : Int) < (mvD M (M.length - 1)).hour
  · have HP := Lib.hid hp1
    rw [HB1.out, decide_eq_true hp1]
    clear hp1
    go_wp2_with (fail)
    go_ret
    exact ⟨ret_int (by rw [HW.out, if_pos HP.out]), HE2.out⟩
  have HP1 := Lib.hid hp1
  rw [HB1.out, decide_eq_false hp1]
  clear hp1
  go_wp2_with (fail)
  go_loopw [7, 8] (fun v z wr => ∃ k : Nat, z = .int .i64 (k : Int) ∧ k ≤ S.cans.length ∧ Below w.heap.size w wr ∧ wr.heap[n3]? = some (Obj.cells #[.slice (SSl.mk ⟨some ⟨rb, roff, none⟩, rc⟩ ⟨some ⟨cb, coff, none⟩, cc⟩ ps).r.a S.rooms.length (SSl.mk ⟨some ⟨rb, roff, none⟩, rc⟩ ⟨some ⟨cb, coff, none⟩, cc⟩ ps).r.cap, .slice (SSl.mk ⟨some ⟨rb, roff, none⟩, rc⟩ ⟨some ⟨cb, coff, none⟩, cc⟩ ps).c.a S.cans.length (SSl.mk ⟨some ⟨rb, roff, none⟩, rc⟩ ⟨some ⟨cb, coff, none⟩, cc⟩ ps).c.cap, .int .i64 S.rlo, .int .i64 S.rhi, .slice (SSl.mk ⟨some ⟨rb, roff, none⟩, rc⟩ ⟨some ⟨cb, coff, none⟩, cc⟩ ps).p.a S.steps.length (SSl.mk ⟨some ⟨rb, roff, none⟩, rc⟩ ⟨some ⟨cb, coff, none⟩, cc⟩ ps).p.cap] 28) ∧ wr.heap[n5]? = some (Obj.cells #[.int .i64 (h : Int), .int .i64 (c : Int), .int .i64 (t : Int)] 95) ∧ OwnR wr w.heap.size 3 1 v k (intC (whereV S M (h : Int)))) (fun _ z _ => S.cans.length - (intOf z).toNat)
  case atStart => exact ⟨0, rfl, by omega, HE2.out, X32.out, X52.out, own_nil _ _ _ _ _⟩
  case round =>
    obtain ⟨k, rfl, hk, hB, x3, x5, hO⟩ := hrel
    have HO := Lib.hid hO; have HB := Lib.hid hB; have X3' := Lib.hid x3; have X5' := Lib.hid x5
    clear hO
    by_cases hlt : k < S.cans.length
    · go_light
      obtain ⟨x, hx⟩ : ∃ x, x = atV S M k (h : Int) := ⟨_, rfl⟩
      have hA := HAT.out wr hB k hlt
      rw [← hx] at hA
      have HA := Lib.hid hA
      have HX := Lib.hid hx
      have p1 : (k : Int) < (S.cans.length : Int) := by omega
      have w3 : IntKind.i64.wrap ((k : Int) + 1) = (k : Int) + 1 := IntWalk.i64_in _ (by omega)
      have q3c := cell_blk x3
      have q3f := frz_blk x3
      have q5c := cell_blk x5
      have q5f := frz_blk x5
      clear hx x3 x5 hA hB
      go_wp2_with (fail)
      (with_reducible refine HA.out.mono ?_)
      rintro e w4 ⟨rfl, hb4⟩
      have hB4 := below_ext HB.out hb4
      have HO4 := Lib.hid (HO.out.below hb4)
      have X34 := Lib.hid (Ext2.blk hb4 X3'.out); have X54 := Lib.hid (Ext2.blk hb4 X5'.out)
      clear hb4 q3c q3f q5c q5f
      go_wp2_with (at_builtin; refine app_one [.int .i64 x] elInt rfl _ _ rfl w.heap.size rfl (HO4.out.below (below_alloc' _ _)) w4.heap.size 1 rfl (blk_new _ _) (by simp [Value.oneCell']) (by omega) (by have := hB4.size; simp; omega) ?_; intro v' w5 hO5 hg5)
      have hB5 := below_app hB4 HO4.out hB4.size hg5
      have X35 := Lib.hid (app_blk HO4.out hg5 X34.out (by decide)); have X55 := Lib.hid (app_blk HO4.out hg5 X54.out (by decide))
      have hO6 : OwnR w5 w.heap.size 3 1 v' (k + 1) (intC (whereV S M (h : Int))) := hO5.congr fun i j hi hj => by
        replace hj : j < 1 := by simpa using hj
        rcases Nat.lt_or_ge i k with h | h
        · rw [upd_lt h]
        · obtain rfl : i = k := by omega
          obtain rfl : j = 0 := by omega
          rw [upd_at]; simp only [intC]; rw [whereV_at hlt, ← HX.out]; rfl
      have HO6 := Lib.hid hO6; have HB5 := Lib.hid hB5
      clear hO5 hO6 hg5 hB4 hB5
      go_wp2_with (fail)
      go_roundw
      case rel => exact ⟨k + 1, by go_num, by omega, HB5.out, X35.out, X55.out, HO6.out⟩
      case measure => simp [intOf]; omega
    · obtain rfl : k = S.cans.length := by omega
      have r9 : ¬ (S.cans.length : Int) < (S.cans.length : Int) := by omega
      rcases HO.out.forms with ⟨_, h0⟩ | ⟨g, cp, rfl, hbg, -, -, -, -, -⟩
      · omega
      obtain ⟨f1, f2, f3, f4⟩ := HO.out.cell1 hc
      obtain ⟨A, hA⟩ : ∃ A, A = atV S M c (h : Int) := ⟨_, rfl⟩
      replace f1 : wr.cell? ⟨g, c, none⟩ = some (.int .i64 A) := by rw [f1]; simp only [intC]; rw [whereV_at hc, hA]
      have HA := Lib.hid hA
      have hglen : S.cans.length ≤ cp := by have := HO.out.sl; obtain ⟨q, e, hr⟩ := this; have h2 := hr.le; injection e with _ _ e3; omega
      have hgmax : cp ≤ 9223372036854775807 := by have := HO.out.sl; obtain ⟨q, e, hr⟩ := this; have h2 := hr.max; injection e with _ _ e3; omega
      have q3c := cell_blk x3
      have q3f := frz_blk x3
      have q5c := cell_blk x5
      have q5f := frz_blk x5
      clear x3 x5 hA hB
      go_wp2_with (fail)
      refine region_ev [] [0, 1, 2, 3, 4, 5, 6, 7] [] [] (by kernel_rfl) (by kernel_rfl) (by intro c a d v w h; cases d <;> exact h) ?_
      simp only [picks, List.drop_succ_cons, List.drop_zero]
      repeat (refine wpQ0_step (fun K hK => ?_); go_simp; (refine hK _ ?_; clear hK K))
      refine wpQ0_nil ?_
      repeat ((with_reducible refine wpQ2_step (fun K hK => ?_)); go_simp; first | ((with_reducible refine hK _ ?_); clear hK K) | (apply Exists.intro; refine ⟨fun x => ?_, hK _ ?_⟩; (fail); clear hK K))
      refine wpQ2_nil ?_
      refine Events.none_ fun w4 hg4 => ?_
      simp only [picks, List.drop_succ_cons, List.drop_zero]
      have hB4 := below_ext HB.out hg4
      have HB4 := Lib.hid hB4
      have X34 := Lib.hid (Ext2.blk hg4 X3'.out); have X54 := Lib.hid (Ext2.blk hg4 X5'.out); have HO4 := Lib.hid (HO.out.below hg4)
      have x3 := X34.out; have x5 := X54.out
      have e1 := ext_cell' hB4 EC1.out
      clear q3c q3f q5c q5f f1 hg4 hB4
      have q3c := cell_blk x3
      have q3f := frz_blk x3
      have q5c := cell_blk x5
      have q5f := frz_blk x5
      clear x3 x5
      by_cases hp2 : A = (t : Int)
      · have HP := Lib.hid hp2
        have b1 : (A == (t : Int)) = true := beq_iff_eq.2 hp2
        clear hp2 e1
        go_wp2_with (fail)
        go_ret
        exact ⟨ret_int (by rw [HW.out, if_neg HP1.out, ← HA.out, if_pos HP.out]), HB4.out⟩
      have HP2 := Lib.hid hp2
      have b1 : (A == (t : Int)) = false := beq_eq_false_iff_ne.2 hp2
      clear hp2
      obtain ⟨nb, hnb⟩ : ∃ b : Bool, b = (base == 1) := ⟨_, rfl⟩
      have HNB := Lib.hid hnb
      have e6 := ext_cell' HB4.out EC6.out
      obtain ⟨al, hal⟩ : ∃ b, b = R.allows := ⟨_, rfl⟩
      rw [← hal] at e6
      have HAL := Lib.hid hal
      clear hal
      go_upto_region 11 with fail
      rw [← hnb]
      try rw [b1]
      clear hnb b1 e1
      go_cut [67] from 57 to 67 (fun v wx => v = .bool (nb && !al) ∧ wx = w4)
      case first =>
        cases nb
        · go_wp2_with (fail)
          go_meet
          case rel => exact ⟨rfl, rfl⟩
        · go_wp2_with (fail)
          go_meet
          case rel => exact ⟨by first | rfl | simp, rfl⟩
      case rest =>
      obtain ⟨rfl, hwc⟩ := hcut
      replace hwc := hwc.symm
      subst hwc
      clear e6
      have HNI : Hid (base = 1 ↔ nb = true) := Lib.hid (by rw [HNB.out]; simp)
      by_cases hp3 : nb = true ∧ al = false
      · obtain ⟨rfl, rfl⟩ := hp3
        go_wp2_with (fail)
        go_ret
        exact ⟨ret_int (by rw [HW.out, if_neg HP1.out, ← HA.out, if_neg HP2.out, if_pos ⟨HNI.out.2 (by simp), HAL.out.symm⟩]), HB4.out⟩
      have b3 : (nb && !al) = false := by cases nb <;> cases al <;> simp at hp3 ⊢
      have HP3 : Hid (¬ (base = 1 ∧ R.allows = false)) := Lib.hid (fun hh => hp3 ⟨HNI.out.1 hh.1, by rw [HAL.out]; exact hh.2⟩)
      rw [b3]
      clear hp3 b3
      have hO4 := HO4.out
      obtain ⟨-, f2, f3, f4⟩ := hO4.cell1 hc
      obtain ⟨f1, -, -, -⟩ := hO4.cell1 hc
      obtain ⟨WH, hWH⟩ : ∃ l, l = moveW S M ⟨(h : Int), (c : Int), (t : Int)⟩ := ⟨_, rfl⟩
      have hwl : WH.length = S.cans.length := by rw [hWH, moveW_len]
      have hset := hO4.set1 hc (.int .i64 (t : Int)) (c' := intC WH) (fun i' hi' => by
        simp only [intC]
        rw [hWH]; unfold moveW
        simp only [Int.toNat_natCast]
        rw [intD_set (by rw [whereV_len]; exact hc)]
        split <;> rfl)
      have HSET := Lib.hid hset; have HWH := Lib.hid hWH
      clear hset hWH hO4
      go_upto_region 14 with fail
      refine wp_name ?_
      intro w5 hw5
      rw [← hw5] at HSET
      have hB5 : Below w.heap.size w w5 := by rw [hw5]; exact below_set HB4.out f4
      have lg3 : g ≠ n3 := by
        intro hh; subst hh
        obtain ⟨cur, hcur⟩ := ownR_cells HO4.out (k := g) rfl
        rw [X34.out] at hcur; simp only [Option.some.injEq, Obj.cells.injEq] at hcur
        exact absurd hcur.2.1 (by decide)
      have lg5 : g ≠ n5 := by
        intro hh; subst hh
        obtain ⟨cur, hcur⟩ := ownR_cells HO4.out (k := g) rfl
        rw [X54.out] at hcur; simp only [Option.some.injEq, Obj.cells.injEq] at hcur
        exact absurd hcur.2.1 (by decide)
      have x3 : w5.heap[n3]? = some (Obj.cells #[.slice (SSl.mk ⟨some ⟨rb, roff, none⟩, rc⟩ ⟨some ⟨cb, coff, none⟩, cc⟩ ps).r.a S.rooms.length (SSl.mk ⟨some ⟨rb, roff, none⟩, rc⟩ ⟨some ⟨cb, coff, none⟩, cc⟩ ps).r.cap, .slice (SSl.mk ⟨some ⟨rb, roff, none⟩, rc⟩ ⟨some ⟨cb, coff, none⟩, cc⟩ ps).c.a S.cans.length (SSl.mk ⟨some ⟨rb, roff, none⟩, rc⟩ ⟨some ⟨cb, coff, none⟩, cc⟩ ps).c.cap, .int .i64 S.rlo, .int .i64 S.rhi, .slice (SSl.mk ⟨some ⟨rb, roff, none⟩, rc⟩ ⟨some ⟨cb, coff, none⟩, cc⟩ ps).p.a S.steps.length (SSl.mk ⟨some ⟨rb, roff, none⟩, rc⟩ ⟨some ⟨cb, coff, none⟩, cc⟩ ps).p.cap] 28) := by rw [hw5]; exact blk_set_ne X34.out lg3
      have x5 : w5.heap[n5]? = some (Obj.cells #[.int .i64 (h : Int), .int .i64 (c : Int), .int .i64 (t : Int)] 95) := by rw [hw5]; exact blk_set_ne X54.out lg5
      have HB5 := Lib.hid hB5; have X35 := Lib.hid x3; have X55 := Lib.hid x5
      clear hw5 q3c q3f q5c q5f hB5 f1 f2 f3
      have e7 := ext_cell' HB5.out EC7.out
      obtain ⟨mo, hmo⟩ : ∃ x, x = R.most := ⟨_, rfl⟩
      rw [← hmo] at e7
      obtain ⟨am, ham⟩ : ∃ x, x = amt S WH t := ⟨_, rfl⟩
      have HMO := Lib.hid hmo; have HAMT := Lib.hid ham
      have HTI : Hid (IntsS w5 ⟨some ⟨g, 0, none⟩, cp⟩ WH) := Lib.hid (by
        obtain ⟨⟨qa, qc⟩, hq, hr⟩ := HSET.out.sl
        injection hq with e1 _ e3
        subst e1; subst e3
        show RowS _ _ 1 _ _
        rw [hwl]; exact hr)
      have HAM : Hid (∀ W, Ext2 w5 W → Calls Tryz.prog 86 #[.agg #[.slice (SSl.mk ⟨some ⟨rb, roff, none⟩, rc⟩ ⟨some ⟨cb, coff, none⟩, cc⟩ ps).r.a S.rooms.length (SSl.mk ⟨some ⟨rb, roff, none⟩, rc⟩ ⟨some ⟨cb, coff, none⟩, cc⟩ ps).r.cap, .slice (SSl.mk ⟨some ⟨rb, roff, none⟩, rc⟩ ⟨some ⟨cb, coff, none⟩, cc⟩ ps).c.a S.cans.length (SSl.mk ⟨some ⟨rb, roff, none⟩, rc⟩ ⟨some ⟨cb, coff, none⟩, cc⟩ ps).c.cap, .int .i64 S.rlo, .int .i64 S.rhi, .slice (SSl.mk ⟨some ⟨rb, roff, none⟩, rc⟩ ⟨some ⟨cb, coff, none⟩, cc⟩ ps).p.a S.steps.length (SSl.mk ⟨some ⟨rb, roff, none⟩, rc⟩ ⟨some ⟨cb, coff, none⟩, cc⟩ ps).p.cap], .slice (some ⟨g, 0, none⟩) S.cans.length cp, .int .i64 (t : Int)] W fun e w' => e = .returned (.int .i64 am) ∧ Below W.heap.size W w') := Lib.hid fun W hW => by
        have h := amountR_any (s := SSl.mk ⟨some ⟨rb, roff, none⟩, rc⟩ ⟨some ⟨cb, coff, none⟩, cc⟩ ps) (t := ⟨some ⟨g, 0, none⟩, cp⟩) (wh := WH) (r := (t : Int)) (HS.out.below (below_ext HB5.out hW)).cn HCK.out.cans hn30 (HTI.out.below hW) (by omega)
        rw [hwl] at h
        rw [ham]; exact h
      have q3c := cell_blk x3
      have q3f := frz_blk x3
      have q5c := cell_blk x5
      have q5f := frz_blk x5
      clear x3 x5 hmo ham
      go_cut [89] from 74 to 89 (fun v wx => v = .bool (nb && decide (mo < am)) ∧ Ext2 w5 wx)
      case first =>
        cases nb
        · refine region_ev [] [0, 1, 2, 3, 4, 5, 6, 7, 8, 9, 10, 11, 12, 13, 14, 15] [] [] (by kernel_rfl) (by kernel_rfl) (by intro c a d v w h; cases d <;> exact h) ?_
          simp only [picks, List.drop_succ_cons, List.drop_zero]
          repeat (refine wpQ0_step (fun K hK => ?_); go_simp; (refine hK _ ?_; clear hK K))
          refine wpQ0_nil ?_
          repeat ((with_reducible refine wpQ2_step (fun K hK => ?_)); go_simp; first | ((with_reducible refine hK _ ?_); clear hK K) | (apply Exists.intro; refine ⟨fun x => ?_, hK _ ?_⟩; (fail); clear hK K) | (refine ite_undef (fun h => (by have h_ : (none : Option Bool) = some _ := h; cases h_)) ?_; (with_reducible refine hK _ ?_); clear hK K))
          (with_reducible refine wpQ2_nil ?_)
          refine Events.none_ fun w6 hg6 => ?_
          simp only [picks, List.drop_succ_cons, List.drop_zero]
          go_wp2_with (fail)
          go_meet
          case rel => exact ⟨rfl, hg6⟩
        · refine region_ev [] [0, 1, 2, 3, 4, 5, 6, 7, 8, 9, 10, 11, 12, 13, 14, 15] [] [] (by kernel_rfl) (by kernel_rfl) (by intro c a d v w h; cases d <;> exact h) ?_
          simp only [picks, List.drop_succ_cons, List.drop_zero]
          repeat (refine wpQ0_step (fun K hK => ?_); go_simp; (refine hK _ ?_; clear hK K))
          refine wpQ0_nil ?_
          repeat ((with_reducible refine wpQ2_step (fun K hK => ?_)); go_simp; first | ((with_reducible refine hK _ ?_); clear hK K) | (apply Exists.intro; refine ⟨fun x => ?_, hK _ ?_⟩; ((with_reducible exact HAM.out x.1 x.2)); clear hK K) | (refine ite_undef (fun h => (by have h_ : (none : Option Bool) = some _ := h; cases h_)) ?_; (with_reducible refine hK _ ?_); clear hK K))
          (with_reducible refine wpQ2_nil ?_)
          refine Events.none_ fun w6 hg6 => ?_
          simp only [picks, List.drop_succ_cons, List.drop_zero]
          go_wp2_with (fail)
          go_meet
          case rel => exact ⟨by first | rfl | simp, hg6⟩
      case rest =>
      obtain ⟨rfl, hE6⟩ := hcut
      obtain ⟨w6, rfl⟩ : ∃ x, x = wc := ⟨_, rfl⟩
      have HB6 := Lib.hid (below_ext HB5.out hE6)
      have x3 := Ext2.blk hE6 X35.out
      have X36 := Lib.hid x3; have X56 := Lib.hid (Ext2.blk hE6 X55.out); have HTI6 := Lib.hid (HTI.out.below hE6)
      clear hE6 e7 q3c q3f q5c q5f
      by_cases hp4 : nb = true ∧ mo < am
      · obtain ⟨rfl, hlt⟩ := hp4
        have HLT := Lib.hid hlt
        rw [show (true && decide (mo < am)) = true by simp [hlt]]
        clear hlt
        go_wp2_with (fail)
        go_ret
        exact ⟨ret_int (by rw [HW.out, if_neg HP1.out, ← HA.out, if_neg HP2.out, if_neg HP3.out, if_pos ⟨HNI.out.2 (by simp), by rw [← HWH.out, ← HMO.out, ← HAMT.out]; exact HLT.out⟩]), HB6.out⟩
      have HP4 : Hid (¬ (base = 1 ∧ R.most < amt S (moveW S M ⟨(h : Int), (c : Int), (t : Int)⟩) t)) := Lib.hid (fun hh => hp4 ⟨HNI.out.1 hh.1, by rw [HMO.out, HAMT.out, HWH.out]; exact hh.2⟩)
      have b4 : (nb && decide (mo < am)) = false := by
        cases nb
        · rfl
        · simp only [Bool.true_and]; exact decide_eq_false (fun hh => hp4 ⟨rfl, hh⟩)
      rw [b4]
      clear hp4 b4
      have q3c := cell_blk x3
      have q3f := frz_blk x3
      clear x3
      go_wp2_with (fail)
      refine (nearR_any (s := SSl.mk ⟨some ⟨rb, roff, none⟩, rc⟩ ⟨some ⟨cb, coff, none⟩, cc⟩ ps) (t := ⟨some ⟨g, 0, none⟩, cp⟩) (wh := WH) (HS.out.below HB6.out) HCK.out.nrOk (fun i hi => (HCK.out.step hi).1.1.1) HTI6.out hwl).mono ?_
      rintro e w7 ⟨v, rfl, hOn, hb7⟩
      obtain ⟨⟨va, vc⟩, rfl, hrn⟩ := hOn.sl
      dsimp only
      have HB7 := Lib.hid (below_ext HB6.out hb7)
      have x3 := Ext2.blk hb7 X36.out; have x5 := Ext2.blk hb7 X56.out
      clear hOn hrn hb7 q3c q3f
      by_cases hp5 : nears S WH = []
      case neg =>
        have HP := Lib.hid hp5
        have hln : 0 < (nears S WH).length := List.length_pos_iff.2 hp5
        have hln' : (0 : Int) < ((nears S WH).length : Int) := by omega
        clear x3 x5
        go_wp2_with (fail)
        go_ret
        exact ⟨ret_int (by rw [HW.out, if_neg HP1.out, ← HA.out, if_neg HP2.out, if_neg HP3.out, if_neg HP4.out, if_pos (by rw [← HWH.out]; exact HP.out)]), HB7.out⟩
      have HP5 := Lib.hid hp5
      rw [hp5]
      clear hp5
      have hti := HCK.out.own HM.out hc h
      obtain ⟨T, hT⟩ : ∃ T, T = ownT S M c h := ⟨_, rfl⟩
      rw [← hT] at hti
      obtain ⟨my, hmy⟩ : ∃ b, b = mayS T R := ⟨_, rfl⟩
      have HOW : Hid (∀ W, Ext2 w7 W → Calls Tryz.prog 39 #[.agg #[.slice (SSl.mk ⟨some ⟨rb, roff, none⟩, rc⟩ ⟨some ⟨cb, coff, none⟩, cc⟩ ps).r.a S.rooms.length (SSl.mk ⟨some ⟨rb, roff, none⟩, rc⟩ ⟨some ⟨cb, coff, none⟩, cc⟩ ps).r.cap, .slice (SSl.mk ⟨some ⟨rb, roff, none⟩, rc⟩ ⟨some ⟨cb, coff, none⟩, cc⟩ ps).c.a S.cans.length (SSl.mk ⟨some ⟨rb, roff, none⟩, rc⟩ ⟨some ⟨cb, coff, none⟩, cc⟩ ps).c.cap, .int .i64 S.rlo, .int .i64 S.rhi, .slice (SSl.mk ⟨some ⟨rb, roff, none⟩, rc⟩ ⟨some ⟨cb, coff, none⟩, cc⟩ ps).p.a S.steps.length (SSl.mk ⟨some ⟨rb, roff, none⟩, rc⟩ ⟨some ⟨cb, coff, none⟩, cc⟩ ps).p.cap], .slice ka M.length kc, .int .i64 (c : Int), .int .i64 (h : Int)] W fun e w' => e = .returned (.agg #[.int .i64 T.lo, .int .i64 T.hi]) ∧ Below W.heap.size W w') := Lib.hid fun W hW => by
        rw [hT]
        exact ownR_any (s := SSl.mk ⟨some ⟨rb, roff, none⟩, rc⟩ ⟨some ⟨cb, coff, none⟩, cc⟩ ps) (sl := ⟨ka, kc⟩) (HS.out.below (below_ext HB7.out hW)) (HL.out.below (below_ext HB7.out hW)) HCK.out HM.out hc (by omega)
      have HMY : Hid (∀ W, Ext2 w7 W → Calls Tryz.prog 64 #[.agg #[.slice (SSl.mk ⟨some ⟨rb, roff, none⟩, rc⟩ ⟨some ⟨cb, coff, none⟩, cc⟩ ps).r.a S.rooms.length (SSl.mk ⟨some ⟨rb, roff, none⟩, rc⟩ ⟨some ⟨cb, coff, none⟩, cc⟩ ps).r.cap, .slice (SSl.mk ⟨some ⟨rb, roff, none⟩, rc⟩ ⟨some ⟨cb, coff, none⟩, cc⟩ ps).c.a S.cans.length (SSl.mk ⟨some ⟨rb, roff, none⟩, rc⟩ ⟨some ⟨cb, coff, none⟩, cc⟩ ps).c.cap, .int .i64 S.rlo, .int .i64 S.rhi, .slice (SSl.mk ⟨some ⟨rb, roff, none⟩, rc⟩ ⟨some ⟨cb, coff, none⟩, cc⟩ ps).p.a S.steps.length (SSl.mk ⟨some ⟨rb, roff, none⟩, rc⟩ ⟨some ⟨cb, coff, none⟩, cc⟩ ps).p.cap], .agg #[.int .i64 T.lo, .int .i64 T.hi], .int .i64 (t : Int)] W fun e w' => e = .returned (.bool my) ∧ Below W.heap.size W w') := Lib.hid fun W hW => by
        rw [hmy, HRR.out]
        exact mayR_any (s := SSl.mk ⟨some ⟨rb, roff, none⟩, rc⟩ ⟨some ⟨cb, coff, none⟩, cc⟩ ps) (HS.out.below (below_ext HB7.out hW)) ht (HCK.out.room ht).1 hti
      have HLAST : Hid (WV = if my then 135 else 0) := Lib.hid (by
        rw [HW.out, if_neg HP1.out, ← HA.out, if_neg HP2.out, if_neg HP3.out, if_neg HP4.out, if_neg (by rw [← HWH.out]; exact fun hh => hh HP5.out), ← hT, ← hmy])
      have q3c := cell_blk x3
      have q3f := frz_blk x3
      have q5c := cell_blk x5
      have q5f := frz_blk x5
      clear x3 x5 hti hT hmy
      go_wp2_with (fail)
      refine region_ev [] [0, 1, 2, 3, 4, 5, 6, 7, 8, 9, 10] [] [] (by kernel_rfl) (by kernel_rfl) (by intro c a d v w h; cases d <;> exact h) ?_
      simp only [picks, List.drop_succ_cons, List.drop_zero]
      repeat (refine wpQ0_step (fun K hK => ?_); go_simp; (refine hK _ ?_; clear hK K))
      refine wpQ0_nil ?_
      repeat ((with_reducible refine wpQ2_step (fun K hK => ?_)); go_simp; first | ((with_reducible refine hK _ ?_); clear hK K) | (apply Exists.intro; refine ⟨fun x => ?_, hK _ ?_⟩; (first | (with_reducible exact HOW.out x.1 x.2) | (with_reducible exact HMY.out x.1 x.2)); clear hK K))
      refine wpQ2_nil ?_
      refine Events.none_ fun w8 hg8 => ?_
      simp only [picks, List.drop_succ_cons, List.drop_zero]
      have HB8 := Lib.hid (below_ext HB7.out hg8)
      clear hg8 q3c q3f q5c q5f
      cases my
      · go_wp2_with (fail)
        go_ret
        exact ⟨ret_int (by rw [HLAST.out]; simp), HB8.out⟩
      · go_wp2_with (fail)
        go_ret
        exact ⟨ret_int (by rw [HLAST.out]; simp), HB8.out⟩
end Go.Proofs.YtfpaihjcbpaneaaGreatDoor
