/-
  law.BenchFound, walked.
-/
import Derived.Test.YtfcpiemapekffaaGreatDoorBAwk
import Derived.Test.YtfcpiemapekffaaGreatDoorBPlW
namespace Go.Proofs.YtfcpiemapekffaaGreatDoor
open Go.RowKit D
set_option linter.unusedVariables false
set_option linter.unusedSimpArgs false
attribute [local go_sem high] run_minI run_maxI
attribute [local go_sem] upon2 cls_cell cls_frozen forall_const exists_eq_left'
theorem ite_undef {c : Prop} [Decidable c] {A B : Prop} (hc : ¬ c) (h : B) : if c then A else B := by rw [if_neg hc]; exact h
attribute [local go_sem] FirstUpon atBlk_cell
set_option maxRecDepth 100000 in
set_option maxHeartbeats 8000000 in
theorem lawFound_any {T : Task} {t : TSl} {x y : Int} {w : World} (hT : TaskAt w T t) (hm : MaxAt w) : Calls Tryz.prog 9 #[.agg #[.string T.reel.name, .int .i64 T.reel.gauge, .int .i64 T.reel.base, .int .i64 T.reel.frames, .int .i64 T.reel.ylo, .int .i64 T.reel.yhi, .int .i64 T.reel.keep, .slice t.r.m.a T.reel.marks.length t.r.m.cap, .slice t.r.s.a T.reel.syms.length t.r.s.cap, .slice t.r.l.a T.reel.lens.length t.r.l.cap, .int .i64 T.whole.lo, .int .i64 T.whole.hi, .slice t.n.a T.notes.length t.n.cap], .agg #[.int .i64 x, .int .i64 y]] w fun e w' => e = .returned (.bool true) ∧ Below w.heap.size w w' := by
  have HFN := Lib.hid fun (W : World) (hW : Ext2 w W) => findF_any (wh := y) (hT.below hW) (hm.below hW)
  have HPL := Lib.hid fun (W : World) (hW : Ext2 w W) => placeF_any (f := x) (hT.below hW) (hm.below hW)
  have HA := Lib.hid fun (W : World) (hW : Ext2 w W) => awake_any (hm.below hW)
  have hno := find_no (T := T) (wh := y)
  have hfa := fun h => found_all (T := T) (wh := y) h x
  obtain ⟨⟨L, e1⟩, hL⟩ : ∃ p, p = findAns T y := ⟨_, rfl⟩
  obtain ⟨⟨⟨pl, ph⟩, pe⟩, hP⟩ : ∃ p, p = placeAns T x := ⟨_, rfl⟩
  rw [← hL] at HFN hno hfa; rw [← hP] at HPL hfa
  unfold FndOut at HFN; unfold PlcOut at HPL
  obtain ⟨n, hn⟩ : ∃ n, n = L.length := ⟨_, rfl⟩
  dsimp only at HFN HPL hno hfa
  rw [← hn] at HFN
  have HN := Lib.hid hn; have HNO := Lib.hid hno; have HFA := Lib.hid hfa
  clear hT hm hno hfa hL hP hn
  go_enter Tryz.func9, Tryz.ntmps9
  go_upto_region 1 with (fail)
  refine wp_name ?_
  intro w3 hw3
  obtain ⟨n2, hn2⟩ : ∃ n, n = w.heap.size := ⟨_, rfl⟩
  obtain ⟨n3, hn3⟩ : ∃ n, n = n2 + 1 := ⟨_, rfl⟩
  have x2 : w3.heap[n2]? = some (Obj.cells #[.string T.reel.name, .int .i64 T.reel.gauge, .int .i64 T.reel.base, .int .i64 T.reel.frames, .int .i64 T.reel.ylo, .int .i64 T.reel.yhi, .int .i64 T.reel.keep, .slice t.r.m.a T.reel.marks.length t.r.m.cap, .slice t.r.s.a T.reel.syms.length t.r.s.cap, .slice t.r.l.a T.reel.lens.length t.r.l.cap, .int .i64 T.whole.lo, .int .i64 T.whole.hi, .slice t.n.a T.notes.length t.n.cap] 38) := by rw [hw3, hn2]; exact blk_alloc (blk_new _ _) _
  have x3 : w3.heap[n3]? = some (.cells #[.int .i64 x, .int .i64 y] 48 (0, 0)) := by rw [hw3, hn3, hn2]; exact blk_new' _ _ (by simp)
  have hE3 : Ext2 w w3 := by rw [hw3]; exact ext_trans (below_alloc' _ _) (below_alloc' _ _)
  rw [← hn2, ← hn3]
  have HE3 := Lib.hid hE3; have X2 := Lib.hid x2; have X3 := Lib.hid x3
  clear hw3 hn2 hn3 hE3
  have q2c := cell_blk x2
  have q2f := frz_blk x2
  have q3c := cell_blk x3
  have q3f := frz_blk x3
  clear x2 x3
  go_wp2_with (fail)
  (with_reducible refine (HFN.out _ HE3.out).mono ?_)
  rintro e w4 ⟨⟨⟨la, lc⟩, rfl, hl⟩, hE4⟩
  have x2 := Ext2.blk hE4 X2.out; have x3 := Ext2.blk hE4 X3.out
  have HE4 := Lib.hid (ext_trans HE3.out hE4)
  have HW4 := Lib.hid hE4
  have hlc := hl.le; have hlm := hl.max
  dsimp only at hlc hlm
  rw [← HN.out] at hlc
  have HL := Lib.hid hl
  clear q2c q2f q3c q3f hE4 hl
  have q2c := cell_blk x2
  have q2f := frz_blk x2
  have q3c := cell_blk x3
  have q3f := frz_blk x3
  by_cases he : e1 = 0
  case neg =>
    have hb : (e1 != 0) = true := by simpa using he
    have hn0 : n = 0 := by rw [HN.out, HNO.out he]; rfl
    subst hn0
    have HA4 := Lib.hid (HA.out _ HE4.out)
    clear he hlc
    go_wp2_with (fail)
    (with_reducible refine HA4.out.mono ?_)
    rintro e w5 ⟨rfl, hE5⟩
    have HE5 := Lib.hid (ext_trans HE4.out hE5)
    clear hE5
    go_wp2_with (fail)
    go_ret
    exact ⟨rfl, HE5.out⟩
  have HFO := Lib.hid (HFA.out he)
  subst he
  clear x2 x3
  go_wp2_with (fail)
  (with_reducible refine (HPL.out _ HE4.out).mono ?_)
  rintro e w5 ⟨rfl, hE5⟩
  have HE5 := Lib.hid (ext_trans HE4.out hE5)
  have HW5 := Lib.hid (ext_trans HW4.out hE5)
  have HL5 := Lib.hid (RowS.below HL.out hE5)
  clear q2c q2f q3c q3f hE5
  go_upto_region 5 with (fail)
  refine wp_name ?_
  intro w6 hw6
  obtain ⟨n7, hn7⟩ : ∃ n, n = w5.heap.size := ⟨_, rfl⟩
  have x7 : w6.heap[n7]? = some (Obj.cells #[.int .i64 (pl), .int .i64 (ph)] 31) := by rw [hw6, hn7]; exact blk_new _ _
  have hE6 : Ext2 w5 w6 := by rw [hw6]; exact below_alloc' _ _
  have HE6 := Lib.hid (ext_trans HE5.out hE6)
  have HL6 := Lib.hid (RowS.below HL5.out hE6)
  have X36 := Lib.hid (Ext2.blk (ext_trans HW5.out hE6) X3.out); have X7 := Lib.hid x7
  rw [← hn7]
  clear hw6 hn7 hE6 x7 HL HL5 HE4 HW4 HW5 HE5
  go_wp2_with (fail)
  go_loopw [8, 9] (fun fv iv wr => ∃ k : Nat, iv = .int .i64 k ∧ fv = .bool ((L.take k).any (hitB x)) ∧ k ≤ n ∧ Ext2 w6 wr) (fun _ i _ => n - (intOf i).toNat)
  case atStart => exact ⟨0, rfl, rfl, by omega, Below.refl _ _⟩
  case round =>
    obtain ⟨k, rfl, rfl, hk, hE⟩ := hrel
    have HE := Lib.hid hE
    have x3 := hE.blk X36.out
    clear hE
    have q3c := cell_blk x3
    have q3f := frz_blk x3
    clear x3
    by_cases hlt : k < n
    · go_light
      have hkl : k < L.length := by rw [← HN.out]; exact hlt
      have hat := any_take (p := hitB x) (d := default) hkl
      have hor := HFO.out.ord k hkl
      obtain ⟨b, off, hla, c0, c1⟩ := sp_cells (RowS.below HL6.out HE.out) hkl
      dsimp only at hla
      subst hla
      have hfar : 0 < k → ∃ z : Span, (w6.cell? ⟨b, off + (k - 1) * 2 + 1, none⟩ = some (.int .i64 z.hi)) ∧ z.hi + 1 < (spD L k).lo ∧ 0 ≤ z.hi ∧ z.hi ≤ 200000 := fun h0 => by
        obtain ⟨b', off', hla', -, d1⟩ := sp_cells HL6.out (i := k - 1) (by omega)
        cases hla'
        have h1 := HFO.out.ord (k - 1) (by omega)
        exact ⟨spD L (k - 1), d1, HFO.out.far k h0 hkl, by omega, h1.2.2⟩
      obtain ⟨z, hz⟩ : ∃ z, z = spD L k := ⟨_, rfl⟩
      rw [show L.getD k default = z from hz.symm] at hat
      rw [← hz] at c0 c1 hor hfar
      obtain ⟨fd, hfd⟩ : ∃ f, f = (L.take k).any (hitB x) := ⟨_, rfl⟩
      rw [← hfd] at hat ⊢
      rw [show hitB x z = (decide (z.lo ≤ x) && decide (x ≤ z.hi)) from rfl] at hat
      have HAT0 := Lib.hid hat; have HFR := Lib.hid hfar
      have h0 : (0 : Int) ≤ (k : Int) := by omega
      have h1 : (k : Int) < (n : Int) := by omega
      have d0 : decide ((0 : Int) ≤ (k : Int)) = true := decide_eq_true h0
      have d1 : decide ((k : Int) < (n : Int)) = true := decide_eq_true h1
      have w1' : IntKind.i64.wrap ((k : Int) + 1) = (k : Int) + 1 := IntWalk.i64_in _ (by omega)
      have C0 := Lib.hid c0; have C1 := Lib.hid c1
      clear hat hfar hz hfd hkl
      have g0 : decide (z.hi < z.lo) = false := decide_eq_false (by omega)
      go_upto_region 9 with (fail)
      clear c0 c1
      have c0 := C0.out; have c1 := C1.out
      cases fd with
      | true =>
        have HNF : Hid ((L.take (k + 1)).any (hitB x) = true) := Lib.hid (by rw [HAT0.out]; rfl)
        refine region_ev [] [0, 1, 2, 3, 4, 5, 6, 7, 8, 9, 10, 11, 12, 13, 14, 15, 16, 17, 18, 19, 20, 21] [] [] (by kernel_rfl) (by kernel_rfl) (by intro c a d v w h; cases d <;> exact h) ?_
        simp only [picks, List.drop_succ_cons, List.drop_zero]
        repeat (refine wpQ0_step (fun K hK => ?_); go_simp; (refine hK _ ?_; clear hK K))
        refine wpQ0_nil ?_
        repeat ((with_reducible refine wpQ2_step (fun K hK => ?_)); go_simp; first | ((with_reducible refine hK _ ?_); clear hK K) | (apply Exists.intro; refine ⟨fun x => ?_, hK _ ?_⟩; (fail); clear hK K) | (refine ite_undef (fun h => (by have h_ : (none : Option Bool) = some _ := h; cases h_)) ?_; (with_reducible refine hK _ ?_); clear hK K))
        (with_reducible refine wpQ2_nil ?_)
        refine Events.none_ fun w7 hg7 => ?_
        simp only [picks, List.drop_succ_cons, List.drop_zero]
        have c0 := ext_cell' hg7 C0.out; have c1 := ext_cell' hg7 C1.out
        have HE7 := Lib.hid (ext_trans HE.out hg7)
        clear hg7
        go_wp2_with (fail)
        by_cases hk0 : k = 0
        · have e0 : decide ((0 : Int) < (k : Int)) = false := decide_eq_false (by omega)
          have e1 : decide (0 < k) = false := decide_eq_false (by omega)
          clear hk0
          refine region_ev [] [0, 1, 2, 3, 4, 5, 6, 7, 8, 9, 10, 11, 12, 13, 14, 15, 16, 17, 18, 19, 20, 21, 22, 23, 24, 25, 26, 27, 28, 29] [] [] (by kernel_rfl) (by kernel_rfl) (by intro c a d v w h; cases d <;> exact h) ?_
          simp only [picks, List.drop_succ_cons, List.drop_zero]
          repeat (refine wpQ0_step (fun K hK => ?_); go_simp; (refine hK _ ?_; clear hK K))
          refine wpQ0_nil ?_
          repeat ((with_reducible refine wpQ2_step (fun K hK => ?_)); go_simp; first | ((with_reducible refine hK _ ?_); clear hK K) | (apply Exists.intro; refine ⟨fun x => ?_, hK _ ?_⟩; (fail); clear hK K) | (refine ite_undef (fun h => (by have h_ : (none : Option Bool) = some _ := h; cases h_)) ?_; (with_reducible refine hK _ ?_); clear hK K))
          (with_reducible refine wpQ2_nil ?_)
          refine Events.none_ fun w8 hg8 => ?_
          simp only [picks, List.drop_succ_cons, List.drop_zero]
          have HE8 := Lib.hid (ext_trans HE7.out hg8)
          clear c0 c1 hg8 q3c q3f
          go_wp2_with (fail)
          go_roundw
          case rel => exact ⟨k + 1, by go_num, by rw [HNF.out], by omega, HE8.out⟩
          case measure => simp [intOf]; omega
        · obtain ⟨zz, dz, hz1, hz2, hz3⟩ := HFR.out (by omega)
          obtain ⟨q, hq⟩ : ∃ q : Nat, k = q + 1 := ⟨k - 1, by omega⟩
          rw [show k - 1 = q by omega] at dz
          have dz := ext_cell' HE7.out dz
          have e0 : decide ((0 : Int) < (k : Int)) = true := decide_eq_true (by omega)
          have e1 : decide (0 < k) = true := decide_eq_true (by omega)
          have e2 : IntKind.i64.wrap ((k : Int) - 1) = (q : Int) := by rw [IntWalk.i64_in _ (by omega)]; omega
          have e3 : (0 : Int) ≤ (q : Int) := by omega
          have e4 : (q : Int) < (n : Int) := by omega
          have e5 : decide ((0 : Int) ≤ (q : Int)) = true := decide_eq_true e3
          have e6 : decide ((q : Int) < (n : Int)) = true := decide_eq_true e4
          have e7 : IntKind.i64.wrap (zz.hi + 1) = zz.hi + 1 := IntWalk.i64_in _ (by omega)
          have e8 : decide (z.lo ≤ zz.hi + 1) = false := decide_eq_false (by omega)
          clear hk0 hq
          refine region_ev [] [0, 1, 2, 3, 4, 5, 6, 7, 8, 9, 10, 11, 12, 13, 14, 15, 16, 17, 18, 19, 20, 21, 22, 23, 24, 25, 26, 27, 28, 29] [] [] (by kernel_rfl) (by kernel_rfl) (by intro c a d v w h; cases d <;> exact h) ?_
          simp only [picks, List.drop_succ_cons, List.drop_zero]
          repeat (refine wpQ0_step (fun K hK => ?_); go_simp; (refine hK _ ?_; clear hK K))
          refine wpQ0_nil ?_
          repeat ((with_reducible refine wpQ2_step (fun K hK => ?_)); go_simp; first | ((with_reducible refine hK _ ?_); clear hK K) | (apply Exists.intro; refine ⟨fun x => ?_, hK _ ?_⟩; (fail); clear hK K) | (refine ite_undef (fun h => (by have h_ : (none : Option Bool) = some _ := h; cases h_)) ?_; (with_reducible refine hK _ ?_); clear hK K))
          (with_reducible refine wpQ2_nil ?_)
          refine Events.none_ fun w8 hg8 => ?_
          simp only [picks, List.drop_succ_cons, List.drop_zero]
          have HE8 := Lib.hid (ext_trans HE7.out hg8)
          clear c0 c1 hg8 q3c q3f dz
          go_wp2_with (fail)
          go_roundw
          case rel => exact ⟨k + 1, by go_num, by rw [HNF.out], by omega, HE8.out⟩
          case measure => simp [intOf]; omega
      | false =>
      by_cases b1 : z.lo ≤ x
      · have f1 : decide (z.lo ≤ x) = true := decide_eq_true b1
        by_cases b2 : x ≤ z.hi
        · have f2 : decide (x ≤ z.hi) = true := decide_eq_true b2
          have HNF : Hid ((L.take (k + 1)).any (hitB x) = true) := Lib.hid (by rw [HAT0.out, f1, f2]; rfl)
          clear b1 b2
          refine region_ev [] [0, 1, 2, 3, 4, 5, 6, 7, 8, 9, 10, 11, 12, 13, 14, 15, 16, 17, 18, 19, 20, 21] [] [] (by kernel_rfl) (by kernel_rfl) (by intro c a d v w h; cases d <;> exact h) ?_
          simp only [picks, List.drop_succ_cons, List.drop_zero]
          repeat (refine wpQ0_step (fun K hK => ?_); go_simp; (refine hK _ ?_; clear hK K))
          refine wpQ0_nil ?_
          repeat ((with_reducible refine wpQ2_step (fun K hK => ?_)); go_simp; first | ((with_reducible refine hK _ ?_); clear hK K) | (apply Exists.intro; refine ⟨fun x => ?_, hK _ ?_⟩; (fail); clear hK K) | (refine ite_undef (fun h => (by have h_ : (none : Option Bool) = some _ := h; cases h_)) ?_; (with_reducible refine hK _ ?_); clear hK K))
          (with_reducible refine wpQ2_nil ?_)
          refine Events.none_ fun w7 hg7 => ?_
          simp only [picks, List.drop_succ_cons, List.drop_zero]
          have c0 := ext_cell' hg7 C0.out; have c1 := ext_cell' hg7 C1.out
          have HE7 := Lib.hid (ext_trans HE.out hg7)
          clear hg7
          go_wp2_with (fail)
          by_cases hk0 : k = 0
          · have e0 : decide ((0 : Int) < (k : Int)) = false := decide_eq_false (by omega)
            have e1 : decide (0 < k) = false := decide_eq_false (by omega)
            clear hk0
            refine region_ev [] [0, 1, 2, 3, 4, 5, 6, 7, 8, 9, 10, 11, 12, 13, 14, 15, 16, 17, 18, 19, 20, 21, 22, 23, 24, 25, 26, 27, 28, 29] [] [] (by kernel_rfl) (by kernel_rfl) (by intro c a d v w h; cases d <;> exact h) ?_
            simp only [picks, List.drop_succ_cons, List.drop_zero]
            repeat (refine wpQ0_step (fun K hK => ?_); go_simp; (refine hK _ ?_; clear hK K))
            refine wpQ0_nil ?_
            repeat ((with_reducible refine wpQ2_step (fun K hK => ?_)); go_simp; first | ((with_reducible refine hK _ ?_); clear hK K) | (apply Exists.intro; refine ⟨fun x => ?_, hK _ ?_⟩; (fail); clear hK K) | (refine ite_undef (fun h => (by have h_ : (none : Option Bool) = some _ := h; cases h_)) ?_; (with_reducible refine hK _ ?_); clear hK K))
            (with_reducible refine wpQ2_nil ?_)
            refine Events.none_ fun w8 hg8 => ?_
            simp only [picks, List.drop_succ_cons, List.drop_zero]
            have HE8 := Lib.hid (ext_trans HE7.out hg8)
            clear c0 c1 hg8 q3c q3f
            go_wp2_with (fail)
            go_roundw
            case rel => exact ⟨k + 1, by go_num, by rw [HNF.out], by omega, HE8.out⟩
            case measure => simp [intOf]; omega
          · obtain ⟨zz, dz, hz1, hz2, hz3⟩ := HFR.out (by omega)
            obtain ⟨q, hq⟩ : ∃ q : Nat, k = q + 1 := ⟨k - 1, by omega⟩
            rw [show k - 1 = q by omega] at dz
            have dz := ext_cell' HE7.out dz
            have e0 : decide ((0 : Int) < (k : Int)) = true := decide_eq_true (by omega)
            have e1 : decide (0 < k) = true := decide_eq_true (by omega)
            have e2 : IntKind.i64.wrap ((k : Int) - 1) = (q : Int) := by rw [IntWalk.i64_in _ (by omega)]; omega
            have e3 : (0 : Int) ≤ (q : Int) := by omega
            have e4 : (q : Int) < (n : Int) := by omega
            have e5 : decide ((0 : Int) ≤ (q : Int)) = true := decide_eq_true e3
            have e6 : decide ((q : Int) < (n : Int)) = true := decide_eq_true e4
            have e7 : IntKind.i64.wrap (zz.hi + 1) = zz.hi + 1 := IntWalk.i64_in _ (by omega)
            have e8 : decide (z.lo ≤ zz.hi + 1) = false := decide_eq_false (by omega)
            clear hk0 hq
            refine region_ev [] [0, 1, 2, 3, 4, 5, 6, 7, 8, 9, 10, 11, 12, 13, 14, 15, 16, 17, 18, 19, 20, 21, 22, 23, 24, 25, 26, 27, 28, 29] [] [] (by kernel_rfl) (by kernel_rfl) (by intro c a d v w h; cases d <;> exact h) ?_
            simp only [picks, List.drop_succ_cons, List.drop_zero]
            repeat (refine wpQ0_step (fun K hK => ?_); go_simp; (refine hK _ ?_; clear hK K))
            refine wpQ0_nil ?_
            repeat ((with_reducible refine wpQ2_step (fun K hK => ?_)); go_simp; first | ((with_reducible refine hK _ ?_); clear hK K) | (apply Exists.intro; refine ⟨fun x => ?_, hK _ ?_⟩; (fail); clear hK K) | (refine ite_undef (fun h => (by have h_ : (none : Option Bool) = some _ := h; cases h_)) ?_; (with_reducible refine hK _ ?_); clear hK K))
            (with_reducible refine wpQ2_nil ?_)
            refine Events.none_ fun w8 hg8 => ?_
            simp only [picks, List.drop_succ_cons, List.drop_zero]
            have HE8 := Lib.hid (ext_trans HE7.out hg8)
            clear c0 c1 hg8 q3c q3f dz
            go_wp2_with (fail)
            go_roundw
            case rel => exact ⟨k + 1, by go_num, by rw [HNF.out], by omega, HE8.out⟩
            case measure => simp [intOf]; omega
        · have f2 : decide (x ≤ z.hi) = false := decide_eq_false b2
          have HNF : Hid ((L.take (k + 1)).any (hitB x) = false) := Lib.hid (by rw [HAT0.out, f1, f2]; rfl)
          clear b1 b2
          refine region_ev [] [0, 1, 2, 3, 4, 5, 6, 7, 8, 9, 10, 11, 12, 13, 14, 15, 16, 17, 18, 19, 20, 21] [] [] (by kernel_rfl) (by kernel_rfl) (by intro c a d v w h; cases d <;> exact h) ?_
          simp only [picks, List.drop_succ_cons, List.drop_zero]
          repeat (refine wpQ0_step (fun K hK => ?_); go_simp; (refine hK _ ?_; clear hK K))
          refine wpQ0_nil ?_
          repeat ((with_reducible refine wpQ2_step (fun K hK => ?_)); go_simp; first | ((with_reducible refine hK _ ?_); clear hK K) | (apply Exists.intro; refine ⟨fun x => ?_, hK _ ?_⟩; (fail); clear hK K) | (refine ite_undef (fun h => (by have h_ : (none : Option Bool) = some _ := h; cases h_)) ?_; (with_reducible refine hK _ ?_); clear hK K))
          (with_reducible refine wpQ2_nil ?_)
          refine Events.none_ fun w7 hg7 => ?_
          simp only [picks, List.drop_succ_cons, List.drop_zero]
          have c0 := ext_cell' hg7 C0.out; have c1 := ext_cell' hg7 C1.out
          have HE7 := Lib.hid (ext_trans HE.out hg7)
          clear hg7
          go_wp2_with (fail)
          by_cases hk0 : k = 0
          · have e0 : decide ((0 : Int) < (k : Int)) = false := decide_eq_false (by omega)
            have e1 : decide (0 < k) = false := decide_eq_false (by omega)
            clear hk0
            refine region_ev [] [0, 1, 2, 3, 4, 5, 6, 7, 8, 9, 10, 11, 12, 13, 14, 15, 16, 17, 18, 19, 20, 21, 22, 23, 24, 25, 26, 27, 28, 29] [] [] (by kernel_rfl) (by kernel_rfl) (by intro c a d v w h; cases d <;> exact h) ?_
            simp only [picks, List.drop_succ_cons, List.drop_zero]
            repeat (refine wpQ0_step (fun K hK => ?_); go_simp; (refine hK _ ?_; clear hK K))
            refine wpQ0_nil ?_
            repeat ((with_reducible refine wpQ2_step (fun K hK => ?_)); go_simp; first | ((with_reducible refine hK _ ?_); clear hK K) | (apply Exists.intro; refine ⟨fun x => ?_, hK _ ?_⟩; (fail); clear hK K) | (refine ite_undef (fun h => (by have h_ : (none : Option Bool) = some _ := h; cases h_)) ?_; (with_reducible refine hK _ ?_); clear hK K))
            (with_reducible refine wpQ2_nil ?_)
            refine Events.none_ fun w8 hg8 => ?_
            simp only [picks, List.drop_succ_cons, List.drop_zero]
            have HE8 := Lib.hid (ext_trans HE7.out hg8)
            clear c0 c1 hg8 q3c q3f
            go_wp2_with (fail)
            go_roundw
            case rel => exact ⟨k + 1, by go_num, by rw [HNF.out], by omega, HE8.out⟩
            case measure => simp [intOf]; omega
          · obtain ⟨zz, dz, hz1, hz2, hz3⟩ := HFR.out (by omega)
            obtain ⟨q, hq⟩ : ∃ q : Nat, k = q + 1 := ⟨k - 1, by omega⟩
            rw [show k - 1 = q by omega] at dz
            have dz := ext_cell' HE7.out dz
            have e0 : decide ((0 : Int) < (k : Int)) = true := decide_eq_true (by omega)
            have e1 : decide (0 < k) = true := decide_eq_true (by omega)
            have e2 : IntKind.i64.wrap ((k : Int) - 1) = (q : Int) := by rw [IntWalk.i64_in _ (by omega)]; omega
            have e3 : (0 : Int) ≤ (q : Int) := by omega
            have e4 : (q : Int) < (n : Int) := by omega
            have e5 : decide ((0 : Int) ≤ (q : Int)) = true := decide_eq_true e3
            have e6 : decide ((q : Int) < (n : Int)) = true := decide_eq_true e4
            have e7 : IntKind.i64.wrap (zz.hi + 1) = zz.hi + 1 := IntWalk.i64_in _ (by omega)
            have e8 : decide (z.lo ≤ zz.hi + 1) = false := decide_eq_false (by omega)
            clear hk0 hq
            refine region_ev [] [0, 1, 2, 3, 4, 5, 6, 7, 8, 9, 10, 11, 12, 13, 14, 15, 16, 17, 18, 19, 20, 21, 22, 23, 24, 25, 26, 27, 28, 29] [] [] (by kernel_rfl) (by kernel_rfl) (by intro c a d v w h; cases d <;> exact h) ?_
            simp only [picks, List.drop_succ_cons, List.drop_zero]
            repeat (refine wpQ0_step (fun K hK => ?_); go_simp; (refine hK _ ?_; clear hK K))
            refine wpQ0_nil ?_
            repeat ((with_reducible refine wpQ2_step (fun K hK => ?_)); go_simp; first | ((with_reducible refine hK _ ?_); clear hK K) | (apply Exists.intro; refine ⟨fun x => ?_, hK _ ?_⟩; (fail); clear hK K) | (refine ite_undef (fun h => (by have h_ : (none : Option Bool) = some _ := h; cases h_)) ?_; (with_reducible refine hK _ ?_); clear hK K))
            (with_reducible refine wpQ2_nil ?_)
            refine Events.none_ fun w8 hg8 => ?_
            simp only [picks, List.drop_succ_cons, List.drop_zero]
            have HE8 := Lib.hid (ext_trans HE7.out hg8)
            clear c0 c1 hg8 q3c q3f dz
            go_wp2_with (fail)
            go_roundw
            case rel => exact ⟨k + 1, by go_num, by rw [HNF.out], by omega, HE8.out⟩
            case measure => simp [intOf]; omega
      · have f1 : decide (z.lo ≤ x) = false := decide_eq_false b1
        have HNF : Hid ((L.take (k + 1)).any (hitB x) = false) := Lib.hid (by rw [HAT0.out, f1]; rfl)
        clear b1
        refine region_ev [] [0, 1, 2, 3, 4, 5, 6, 7, 8, 9, 10, 11, 12, 13, 14, 15, 16, 17, 18, 19, 20, 21] [] [] (by kernel_rfl) (by kernel_rfl) (by intro c a d v w h; cases d <;> exact h) ?_
        simp only [picks, List.drop_succ_cons, List.drop_zero]
        repeat (refine wpQ0_step (fun K hK => ?_); go_simp; (refine hK _ ?_; clear hK K))
        refine wpQ0_nil ?_
        repeat ((with_reducible refine wpQ2_step (fun K hK => ?_)); go_simp; first | ((with_reducible refine hK _ ?_); clear hK K) | (apply Exists.intro; refine ⟨fun x => ?_, hK _ ?_⟩; (fail); clear hK K) | (refine ite_undef (fun h => (by have h_ : (none : Option Bool) = some _ := h; cases h_)) ?_; (with_reducible refine hK _ ?_); clear hK K))
        (with_reducible refine wpQ2_nil ?_)
        refine Events.none_ fun w7 hg7 => ?_
        simp only [picks, List.drop_succ_cons, List.drop_zero]
        have c0 := ext_cell' hg7 C0.out; have c1 := ext_cell' hg7 C1.out
        have HE7 := Lib.hid (ext_trans HE.out hg7)
        clear hg7
        go_wp2_with (fail)
        by_cases hk0 : k = 0
        · have e0 : decide ((0 : Int) < (k : Int)) = false := decide_eq_false (by omega)
          have e1 : decide (0 < k) = false := decide_eq_false (by omega)
          clear hk0
          refine region_ev [] [0, 1, 2, 3, 4, 5, 6, 7, 8, 9, 10, 11, 12, 13, 14, 15, 16, 17, 18, 19, 20, 21, 22, 23, 24, 25, 26, 27, 28, 29] [] [] (by kernel_rfl) (by kernel_rfl) (by intro c a d v w h; cases d <;> exact h) ?_
          simp only [picks, List.drop_succ_cons, List.drop_zero]
          repeat (refine wpQ0_step (fun K hK => ?_); go_simp; (refine hK _ ?_; clear hK K))
          refine wpQ0_nil ?_
          repeat ((with_reducible refine wpQ2_step (fun K hK => ?_)); go_simp; first | ((with_reducible refine hK _ ?_); clear hK K) | (apply Exists.intro; refine ⟨fun x => ?_, hK _ ?_⟩; (fail); clear hK K) | (refine ite_undef (fun h => (by have h_ : (none : Option Bool) = some _ := h; cases h_)) ?_; (with_reducible refine hK _ ?_); clear hK K))
          (with_reducible refine wpQ2_nil ?_)
          refine Events.none_ fun w8 hg8 => ?_
          simp only [picks, List.drop_succ_cons, List.drop_zero]
          have HE8 := Lib.hid (ext_trans HE7.out hg8)
          clear c0 c1 hg8 q3c q3f
          go_wp2_with (fail)
          go_roundw
          case rel => exact ⟨k + 1, by go_num, by rw [HNF.out], by omega, HE8.out⟩
          case measure => simp [intOf]; omega
        · obtain ⟨zz, dz, hz1, hz2, hz3⟩ := HFR.out (by omega)
          obtain ⟨q, hq⟩ : ∃ q : Nat, k = q + 1 := ⟨k - 1, by omega⟩
          rw [show k - 1 = q by omega] at dz
          have dz := ext_cell' HE7.out dz
          have e0 : decide ((0 : Int) < (k : Int)) = true := decide_eq_true (by omega)
          have e1 : decide (0 < k) = true := decide_eq_true (by omega)
          have e2 : IntKind.i64.wrap ((k : Int) - 1) = (q : Int) := by rw [IntWalk.i64_in _ (by omega)]; omega
          have e3 : (0 : Int) ≤ (q : Int) := by omega
          have e4 : (q : Int) < (n : Int) := by omega
          have e5 : decide ((0 : Int) ≤ (q : Int)) = true := decide_eq_true e3
          have e6 : decide ((q : Int) < (n : Int)) = true := decide_eq_true e4
          have e7 : IntKind.i64.wrap (zz.hi + 1) = zz.hi + 1 := IntWalk.i64_in _ (by omega)
          have e8 : decide (z.lo ≤ zz.hi + 1) = false := decide_eq_false (by omega)
          clear hk0 hq
          refine region_ev [] [0, 1, 2, 3, 4, 5, 6, 7, 8, 9, 10, 11, 12, 13, 14, 15, 16, 17, 18, 19, 20, 21, 22, 23, 24, 25, 26, 27, 28, 29] [] [] (by kernel_rfl) (by kernel_rfl) (by intro c a d v w h; cases d <;> exact h) ?_
          simp only [picks, List.drop_succ_cons, List.drop_zero]
          repeat (refine wpQ0_step (fun K hK => ?_); go_simp; (refine hK _ ?_; clear hK K))
          refine wpQ0_nil ?_
          repeat ((with_reducible refine wpQ2_step (fun K hK => ?_)); go_simp; first | ((with_reducible refine hK _ ?_); clear hK K) | (apply Exists.intro; refine ⟨fun x => ?_, hK _ ?_⟩; (fail); clear hK K) | (refine ite_undef (fun h => (by have h_ : (none : Option Bool) = some _ := h; cases h_)) ?_; (with_reducible refine hK _ ?_); clear hK K))
          (with_reducible refine wpQ2_nil ?_)
          refine Events.none_ fun w8 hg8 => ?_
          simp only [picks, List.drop_succ_cons, List.drop_zero]
          have HE8 := Lib.hid (ext_trans HE7.out hg8)
          clear c0 c1 hg8 q3c q3f dz
          go_wp2_with (fail)
          go_roundw
          case rel => exact ⟨k + 1, by go_num, by rw [HNF.out], by omega, HE8.out⟩
          case measure => simp [intOf]; omega
    · obtain rfl : n = k := by omega
      have heq := HFO.out.eq
      rw [show L.take n = L by rw [HN.out, List.take_length]]
      dsimp only at heq
      obtain ⟨fd, hfd⟩ : ∃ f, f = L.any (hitB x) := ⟨_, rfl⟩
      rw [← hfd] at heq ⊢
      have HA5 := Lib.hid (HA.out _ (ext_trans HE6.out HE.out))
      have x7 := HE.out.blk X7.out
      have q7c := cell_blk x7
      have q7f := frz_blk x7
      clear x7 hfd
      have HEE := Lib.hid (ext_trans HE6.out HE.out)
      clear hlt
      by_cases hp : pe = 0
      · have d0 : decide (pe = 0) = true := decide_eq_true hp
        have g0 : (pe == 0) = true := by simp [hp]
        clear hp
        by_cases h1 : pl ≤ y
        · have d1 : decide (pl ≤ y) = true := decide_eq_true h1
          by_cases h2 : y ≤ ph
          · have d2 : decide (y ≤ ph) = true := decide_eq_true h2
            rw [d0, d1, d2] at heq
            obtain rfl : fd = true := heq
            clear h1 h2 d0
            go_wp2_with (fail)
            (with_reducible refine HA5.out.mono ?_)
            rintro e wa ⟨rfl, hEa⟩
            have HEa := Lib.hid (ext_trans HEE.out hEa)
            clear hEa
            go_wp2_with (fail)
            go_ret
            exact ⟨rfl, HEa.out⟩
          · have d2 : decide (y ≤ ph) = false := decide_eq_false h2
            rw [d0, d1, d2] at heq
            obtain rfl : fd = false := heq
            clear h1 h2 d0
            go_wp2_with (fail)
            (with_reducible refine HA5.out.mono ?_)
            rintro e wa ⟨rfl, hEa⟩
            have HEa := Lib.hid (ext_trans HEE.out hEa)
            clear hEa
            go_wp2_with (fail)
            go_ret
            exact ⟨rfl, HEa.out⟩
        · have d1 : decide (pl ≤ y) = false := decide_eq_false h1
          rw [d0, d1] at heq
          obtain rfl : fd = false := heq
          clear h1 d0
          go_wp2_with (fail)
          (with_reducible refine HA5.out.mono ?_)
          rintro e wa ⟨rfl, hEa⟩
          have HEa := Lib.hid (ext_trans HEE.out hEa)
          clear hEa
          go_wp2_with (fail)
          go_ret
          exact ⟨rfl, HEa.out⟩
      · have d0 : decide (pe = 0) = false := decide_eq_false hp
        have g0 : (pe == 0) = false := by simpa using hp
        rw [d0] at heq
        obtain rfl : fd = false := heq
        clear hp d0
        go_wp2_with (fail)
        (with_reducible refine HA5.out.mono ?_)
        rintro e wa ⟨rfl, hEa⟩
        have HEa := Lib.hid (ext_trans HEE.out hEa)
        clear hEa
        go_wp2_with (fail)
        go_ret
        exact ⟨rfl, HEa.out⟩
end Go.Proofs.YtfcpiemapekffaaGreatDoor
