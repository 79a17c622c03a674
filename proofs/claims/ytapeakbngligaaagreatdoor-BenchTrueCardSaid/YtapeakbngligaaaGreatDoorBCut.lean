/-
  bench.out, long.
  bench.made.
  bench.After, with the function value that turns the frame; slices.IndexFunc and ContainsFunc over cuts.
-/
import Derived.Test.YtapeakbngligaaaGreatDoorBKit
import Derived.Test.YtapeakbngligaaaGreatDoorBPlA
import Derived.Shelf.Abstract
import Derived.Deep.Light
namespace Go.Proofs.YtapeakbngligaaaGreatDoor
open Go.RowKit D
set_option linter.unusedVariables false
set_option linter.unusedSimpArgs false
attribute [local go_sem high] run_minI run_maxI
theorem out_any (n lo hi : Int) (w : World) : Calls Tryz.prog 30 #[.int .i64 n, .int .i64 lo, .int .i64 hi] w fun e w' => e = .returned (.bool (outB n lo hi)) ∧ w = w' := by
  by_cases h1 : n < lo
  · go_enter Tryz.func30, Tryz.ntmps30
    go_wp2
    go_ret
    exact ⟨ret_bool (by simp [outB]; omega), rfl⟩
  · go_enter Tryz.func30, Tryz.ntmps30
    go_wp2
    go_ret
    exact ⟨ret_bool (by simp [outB]; omega), rfl⟩
theorem long_any (c : Cut) (w : World) (h1 : -1000000000 ≤ c.from_ ∧ c.from_ ≤ 1000000000) (h2 : -1000000000 ≤ c.until_ ∧ c.until_ ≤ 1000000000) : Calls Tryz.prog 44 #[.agg #[.int .i64 c.from_, .int .i64 c.until_]] w fun e w' => e = .returned (.int .i64 (long c)) ∧ Below w.heap.size w w' := by
  obtain ⟨a, b⟩ := c
  dsimp only at h1 h2 ⊢
  go_enter Tryz.func44, Tryz.ntmps44
  go_wp2
  go_ret
  exact ⟨ret_int rfl, below_alloc _ _⟩
end Go.Proofs.YtapeakbngligaaaGreatDoor
namespace Go.Proofs.YtapeakbngligaaaGreatDoor
open Go.RowKit D
def cutC (l : List Cut) (i j : Nat) : Value := if j = 0 then .int .i64 (ctD l i).from_ else .int .i64 (ctD l i).until_
abbrev CutsS (w : World) (s : Sl) (l : List Cut) : Prop := RowS w s 2 l.length (cutC l)
theorem cut_cells {w : World} {s : Sl} {l : List Cut} (h : CutsS w s l) {i : Nat} (hi : i < l.length) : ∃ b off, s.a = some ⟨b, off, none⟩ ∧ w.cell? ⟨b, off + i * 2, none⟩ = some (.int .i64 (ctD l i).from_) ∧ w.cell? ⟨b, off + i * 2 + 1, none⟩ = some (.int .i64 (ctD l i).until_) := by
  obtain ⟨b, off, ha, h0⟩ := h.cell i 0 hi (by omega)
  obtain ⟨b', off', ha', h1⟩ := h.cell i 1 hi (by omega)
  rw [ha] at ha'
  obtain ⟨rfl, rfl⟩ : b = b' ∧ off = off' := by simpa using ha'
  exact ⟨b, off, ha, h0, h1⟩
end Go.Proofs.YtapeakbngligaaaGreatDoor
namespace Go.Proofs.YtapeakbngligaaaGreatDoor
open Go.RowKit D
set_option linter.unusedVariables false
set_option linter.unusedSimpArgs false
attribute [local go_sem high] run_minI run_maxI
attribute [local go_sem] upon2 cls_cell cls_frozen forall_const exists_eq_left'
attribute [local go_sem] FirstUpon
theorem out_b (n lo hi : Int) (W : World) : Calls Tryz.prog 30 #[.int .i64 n, .int .i64 lo, .int .i64 hi] W fun e w' => e = .returned (.bool (outB n lo hi)) ∧ W = w' := out_any n lo hi W
theorem made_any {l : List Cut} {s : Sl} {f : Int} {w : World} (h : CutsS w s l) : Calls Tryz.prog 42 #[.int .i64 f, .slice s.a l.length s.cap] w fun e w' => e = .returned (.tuple #[.int .i64 (madeV f l).1, .int .i64 (madeV f l).2]) ∧ Ext2 w w' := by
  have HS := Lib.hid h
  have hle := h.le; have hmx := h.max
  obtain ⟨sa, sc⟩ := s
  dsimp only at hle hmx
  clear h
  obtain ⟨m, hm⟩ : ∃ m, m = l.length := ⟨_, rfl⟩
  have HM := Lib.hid hm
  rw [← hm] at hle ⊢
  clear hm
  have H1 := fun W => out_b f 1 200000 W
  by_cases hf : inB f 1 200000 = false
  · have hv : madeV f l = (0, 7) := by unfold madeV; rw [if_pos hf]
    have ho : outB f 1 200000 = true := by rw [outB_in, hf]; rfl
    rw [hv]
    rw [ho] at H1
    go_enter Tryz.func42, Tryz.ntmps42
    go_wp2_with (fail)
    (with_reducible refine (H1 _).mono ?_)
    rintro e w' ⟨rfl, rfl⟩
    go_wp2_with (fail)
    go_ret2
    exact ⟨rfl, Below.refl _ _⟩
  have ho : outB f 1 200000 = false := by rw [outB_in]; simpa using hf
  rw [ho] at H1
  by_cases hl : 30 < m
  · have hv : madeV f l = (0, 3) := by unfold madeV; rw [if_neg hf, if_pos (by rw [← HM.out]; exact hl)]
    rw [hv]
    have hl' : (30 : Int) < (m : Int) := by omega
    go_enter Tryz.func42, Tryz.ntmps42
    go_wp2_with (fail)
    (with_reducible refine (H1 _).mono ?_)
    rintro e w' ⟨rfl, rfl⟩
    go_wp2_with (fail)
    go_ret2
    exact ⟨rfl, Below.refl _ _⟩
  have hg : madeV f l = madeK f l := by unfold madeV; rw [if_neg hf, if_neg (by rw [← HM.out]; exact hl)]
  rw [hg]
  have hl' : ¬ (30 : Int) < (m : Int) := by omega
  have hf2 := inB_iff.1 (by simpa using hf : inB f 1 200000 = true)
  have HG := Lib.hid hg
  clear hf ho hg
  go_enter Tryz.func42, Tryz.ntmps42
  go_wp2_with (fail)
  (with_reducible refine (H1 _).mono ?_)
  rintro e w' ⟨rfl, rfl⟩
  go_wp2_with (fail)
  go_loopw [0, 17] (fun v p wr => ∃ (k : Nat) (F : Int), v = .int .i64 F ∧ p = .int .i64 (k : Int) ∧ k ≤ m ∧ Ext2 w wr ∧ madeK f l = madeK F (l.drop k) ∧ 0 ≤ F ∧ F ≤ 200000) (fun _ p _ => m - (intOf p).toNat)
  case atStart => exact ⟨0, f, rfl, rfl, by omega, Below.refl _ _, rfl, by omega, by omega⟩
  case round =>
    obtain ⟨k, F, rfl, rfl, hk, hE, hD, hF0, hF1⟩ := hrel
    by_cases hlt : k < m
    · go_light
      obtain ⟨b, off, ha, c0, c1⟩ := cut_cells (HS.out.below hE) (i := k) (by have := HM.out; omega)
      dsimp only at ha
      subst ha
      have hD2 : madeK F (l.drop k) = if (inB (ctD l k).from_ 0 (F - 1) && inB (ctD l k).until_ 0 (F - 1)) = false then (0, 7) else if (ctD l k).until_ < (ctD l k).from_ then (0, 2) else madeK (F - long (ctD l k)) (l.drop (k + 1)) := by
        have e : l.drop k = ctD l k :: l.drop (k + 1) := by
          have hk' : k < l.length := by rw [← HM.out]; exact hlt
          rw [List.drop_eq_getElem_cons hk']
          unfold ctD; rw [List.getD_eq_getElem?_getD, List.getElem?_eq_getElem hk']; rfl
        rw [e, madeK]
      rw [hD2] at hD
      obtain ⟨c, hc⟩ : ∃ c, c = ctD l k := ⟨_, rfl⟩
      rw [← hc] at hD c0 c1
      have HD := Lib.hid hD
      have h0 : (0 : Int) ≤ (k : Int) := by omega
      have h1 : (k : Int) < (m : Int) := by omega
      have w1' : IntKind.i64.wrap (F - 1) = F - 1 := IntWalk.i64_in _ (by omega)
      have w2' : IntKind.i64.wrap ((k : Int) + 1) = (k : Int) + 1 := IntWalk.i64_in _ (by omega)
      clear hD hD2 hc
      go_upto_region 8 with (fail)
      refine wp_name ?_
      intro w3 hw3
      obtain ⟨n3, hn3⟩ : ∃ n, n = wr.heap.size := ⟨_, rfl⟩
      have x3 : w3.heap[n3]? = some (Obj.cells #[.int .i64 c.from_, .int .i64 c.until_] 79) := by rw [hw3, hn3]; exact blk_new _ _
      have hE3 : Ext2 wr w3 := by rw [hw3]; exact below_alloc' _ _
      have hE3 := ext_trans hE hE3
      have HE3 := Lib.hid hE3
      rw [← hn3]
      clear hw3 hn3 hE hE3
      have q3c := cell_blk x3
      have q3f := frz_blk x3
      clear H1
      have HO : Hid (∀ n W, Calls Tryz.prog 30 #[.int .i64 n, .int .i64 0, .int .i64 (F - 1)] W fun e w' => e = .returned (.bool (!inB n 0 (F - 1))) ∧ W = w') := Lib.hid fun n W => by rw [← outB_in]; exact out_any _ _ _ W
      cases hv1 : inB c.from_ 0 (F - 1) with
      | false =>
        have hF : madeK f l = (0, 7) := by rw [HD.out, hv1]; rfl
        have HF := Lib.hid hF
        have H1 := HO.out c.from_; rw [hv1, Bool.not_false] at H1
        clear hF
        go_wp2_with (fail)
        (with_reducible refine (H1 _).mono ?_)
        rintro e w' ⟨rfl, rfl⟩
        go_wp2_with (fail)
        go_ret2
        exact ⟨by rw [HF.out]; rfl, HE3.out⟩
      | true =>
      have H1 := HO.out c.from_; rw [hv1, Bool.not_true] at H1
      cases hv2 : inB c.until_ 0 (F - 1) with
      | false =>
        have hF : madeK f l = (0, 7) := by rw [HD.out, hv1, hv2]; rfl
        have HF := Lib.hid hF
        have H2 := HO.out c.until_; rw [hv2, Bool.not_false] at H2
        clear hF
        go_wp2_with (fail)
        (with_reducible refine (H1 _).mono ?_)
        rintro e w' ⟨rfl, rfl⟩
        go_wp2_with (fail)
        (with_reducible refine (H2 _).mono ?_)
        rintro e w' ⟨rfl, rfl⟩
        go_wp2_with (fail)
        go_ret2
        exact ⟨by rw [HF.out]; rfl, HE3.out⟩
      | true =>
      have H2 := HO.out c.until_; rw [hv2, Bool.not_true] at H2
      have i1 := inB_iff.1 hv1; have i2 := inB_iff.1 hv2
      by_cases hlt2 : c.until_ < c.from_
      · have hF : madeK f l = (0, 2) := by rw [HD.out, hv1, hv2, if_neg (by simp), if_pos hlt2]
        have HF := Lib.hid hF
        clear hF
        go_wp2_with (fail)
        (with_reducible refine (H1 _).mono ?_)
        rintro e w' ⟨rfl, rfl⟩
        go_wp2_with (fail)
        (with_reducible refine (H2 _).mono ?_)
        rintro e w' ⟨rfl, rfl⟩
        go_wp2_with (fail)
        go_ret2
        exact ⟨by rw [HF.out]; rfl, HE3.out⟩
      · have hF : madeK f l = madeK (F - long c) (l.drop (k + 1)) := by rw [HD.out, hv1, hv2, if_neg (by simp), if_neg hlt2]
        have HF := Lib.hid hF
        have HL := Lib.hid fun W => long_any c W (by omega) (by omega)
        have hlg : long c = c.until_ - c.from_ + 1 := rfl
        obtain ⟨F2, hF2⟩ : ∃ F2, F2 = F - long c := ⟨_, rfl⟩
        have hb2 : 0 ≤ F2 ∧ F2 ≤ 200000 := by omega
        obtain ⟨L, hL⟩ : ∃ L, L = long c := ⟨_, rfl⟩
        rw [← hL] at HL hF2
        have w3' : wrap64 (F - L) = F2 := by rw [← hF2]; exact IntWalk.wrap64_in _ (by omega)
        have HF2 := Lib.hid (hF2.trans (by rw [hL]))
        clear hF hlg hF2 hL
        go_wp2_with (fail)
        (with_reducible refine (H1 _).mono ?_)
        rintro e w' ⟨rfl, rfl⟩
        go_wp2_with (fail)
        (with_reducible refine (H2 _).mono ?_)
        rintro e w' ⟨rfl, rfl⟩
        go_wp2_with (fail)
        (with_reducible refine (HL.out _).mono ?_)
        rintro e w4 ⟨rfl, hb4⟩
        have hE4 := ext_trans HE3.out hb4
        have HE4 := Lib.hid hE4
        clear hb4 hE4
        go_wp2_with (fail)
        go_roundw
        case rel => exact ⟨k + 1, F2, congrArg (Value.int .i64) w3', by go_num, by omega, HE4.out, by rw [HF.out, ← HF2.out], hb2.1, hb2.2⟩
        case measure => simp [intOf]; omega
    · obtain rfl : k = m := by omega
      have hD2 : madeK f l = (F, 0) := by rw [hD, List.drop_of_length_le (by rw [HM.out]; omega)]; rfl
      have HDD := Lib.hid hD2
      clear hD hD2
      go_wp2_with (fail)
      go_ret2
      exact ⟨by rw [HDD.out]; rfl, hE⟩
end Go.Proofs.YtapeakbngligaaaGreatDoor
namespace Go.Proofs.YtapeakbngligaaaGreatDoor
open Go.RowKit D
set_option linter.unusedVariables false
set_option linter.unusedSimpArgs false
attribute [local go_sem high] run_minI run_maxI
attribute [local go_sem] upon2 cls_cell cls_frozen forall_const exists_eq_left'
attribute [local go_sem] FirstUpon
/-- All blocks but one stay. -/
structure Bx (b : Nat) (W W' : World) : Prop where
  os : W'.os = W.os
  tape : W'.tape = W.tape
  output : W'.output = W.output
  size : W.heap.size ≤ W'.heap.size
  block : ∀ i, i < W.heap.size → i ≠ b → W'.heap[i]? = W.heap[i]?
theorem Bx.refl (b : Nat) (W : World) : Bx b W W := ⟨rfl, rfl, rfl, Nat.le_refl _, fun _ _ _ => rfl⟩
theorem Bx.trans {b : Nat} {W W1 W2 : World} (h : Bx b W W1) (g : Bx b W1 W2) : Bx b W W2 := ⟨g.os.trans h.os, g.tape.trans h.tape, g.output.trans h.output, Nat.le_trans h.size g.size, fun i hi hn => (g.block i (Nat.lt_of_lt_of_le hi h.size) hn).trans (h.block i hi hn)⟩
theorem Bx.ext {b : Nat} {W W' : World} (h : Ext2 W W') : Bx b W W' := ⟨h.os, h.tape, h.output, h.size, fun i hi _ => h.block i hi⟩
theorem Bx.set {b : Nat} {W : World} {o : Nat} (v : Value) : Bx b W (W.setCell ⟨b, o, none⟩ v) := by
  have h := below_set (B := b) (Below.refl b W) (Nat.le_refl b) (o := o) (v := v)
  refine ⟨h.os, h.tape, h.output, h.size, fun i hi hn => ?_⟩
  simp [World.setCell, Array.getElem?_modify, Ne.symm hn]
theorem Bx.below {b B : Nat} {W W' : World} (h : Bx b W W') (hB : B ≤ b) (hW : B ≤ W.heap.size) : Below B W W' := ⟨h.os, h.tape, h.output, h.size, fun i hi => h.block i (by omega) (by omega)⟩
def goneF (c : Cut) (f : Int) : Int := if c.until_ < f then f - long c else f
def goneB (c : Cut) (f : Int) : Bool := if c.until_ < f then false else decide (c.from_ ≤ f)
set_option maxRecDepth 100000 in
set_option maxHeartbeats 2000000 in
theorem gone_any {c : Cut} {f : Int} {bf : Nat} {w : World} (hc : 0 ≤ c.from_ ∧ c.from_ ≤ c.until_ ∧ c.until_ ≤ 200000) (hf : 0 ≤ f ∧ f ≤ 200000) (hb : w.heap[bf]? = some (.cells #[.int .i64 f] 3 (0, 0))) :
    Calls Tryz.prog 43 (#[.agg #[.int .i64 c.from_, .int .i64 c.until_]] ++ #[.pointer (some ⟨bf, 0, none⟩)]) w fun e w' => e = .returned (.bool (goneB c f)) ∧ w'.heap[bf]? = some (.cells #[.int .i64 (goneF c f)] 3 (0, 0)) ∧ Bx bf w w' := by
  have hlt := blk_lt hb
  have hne : ¬ bf = w.heap.size := by omega
  have HB := Lib.hid hb
  by_cases h : c.until_ < f
  · have e1 : goneB c f = false := by unfold goneB; rw [if_pos h]
    have e2 : goneF c f = f - long c := by unfold goneF; rw [if_pos h]
    rw [e1, e2]
    have hlg : long c = c.until_ - c.from_ + 1 := rfl
    have HL : Hid (∀ W, Calls Tryz.prog 44 #[.agg #[.int .i64 c.from_, .int .i64 c.until_]] W fun e w' => e = .returned (.int .i64 (long c)) ∧ Below W.heap.size W w') := Lib.hid fun W => long_any c W (by omega) (by omega)
    obtain ⟨L, hL⟩ : ∃ L, L = long c := ⟨_, rfl⟩
    rw [← hL] at HL hlg ⊢
    have w1' : IntKind.i64.wrap (f - L) = f - L := IntWalk.i64_in _ (by omega)
    clear hb e1 e2 hL hlg
    go_enter Tryz.func43, Tryz.ntmps43
    go_upto_region 1 with (fail)
    refine wp_name ?_
    intro w3 hw3
    obtain ⟨n3, hn3⟩ : ∃ n, n = w.heap.size := ⟨_, rfl⟩
    have x3 : w3.heap[n3]? = some (Obj.cells #[.int .i64 c.from_, .int .i64 c.until_] 79) := by rw [hw3, hn3]; exact blk_new _ _
    have hE3 : Ext2 w w3 := by rw [hw3]; exact below_alloc' _ _
    have xb := hE3.blk HB.out
    have HE3 := Lib.hid hE3
    rw [← hn3]
    clear hw3 hn3
    have q3c := cell_blk x3
    have q3f := frz_blk x3
    have qbc := cell_blk xb
    have qbf := frz_blk xb
    go_upto_region 2 with (fail)
    refine region_ev [] [0, 1, 2, 3] [] [4] (by kernel_rfl) (by kernel_rfl) (by intro c a d v w h; cases d <;> exact h) ?_
    simp only [picks, List.drop_succ_cons, List.drop_zero]
    repeat (refine wpQ0_step (fun K hK => ?_); go_simp; (refine hK _ ?_; clear hK K))
    refine wpQ0_nil ?_
    repeat ((with_reducible refine wpQ2_step (fun K hK => ?_)); go_simp; first | ((with_reducible refine hK _ ?_); clear hK K) | (apply Exists.intro; refine ⟨fun x => ?_, hK _ ?_⟩; ((with_reducible exact HL.out x.1)); clear hK K))
    refine wpQ2_nil ?_
    refine Events.none_ fun w4 hg4 => ?_
    simp only [picks, List.drop_succ_cons, List.drop_zero]
    have xb := hg4.blk xb
    have HE4 := Lib.hid (ext_trans hE3 hg4)
    clear qbc qbf q3c q3f hE3
    have qbc := cell_blk xb
    have qbf := frz_blk xb
    go_wp2_with (fail)
    go_ret
    exact ⟨rfl, blk_set xb _ _, (Bx.ext HE4.out).trans (Bx.set _)⟩
  · have e1 : goneB c f = decide (c.from_ ≤ f) := by unfold goneB; rw [if_neg h]
    have e2 : goneF c f = f := by unfold goneF; rw [if_neg h]
    rw [e1, e2]
    clear e1 e2 hb
    have xb := HB.out
    have qbc := cell_blk xb
    have qbf := frz_blk xb
    go_enter Tryz.func43, Tryz.ntmps43
    go_wp2_with (fail)
    go_ret
    exact ⟨ret_bool (by simp), blk_alloc HB.out _, Bx.ext (below_alloc' _ _)⟩
def CutsIn (l : List Cut) : Prop := ∀ i, i < l.length → 0 ≤ (ctD l i).from_ ∧ (ctD l i).from_ ≤ (ctD l i).until_ ∧ (ctD l i).until_ ≤ 200000
theorem aft_drop {l : List Cut} {k : Nat} (hk : k < l.length) (F : Int) : aft (l.drop k) F = if goneB (ctD l k) F = true then none else aft (l.drop (k + 1)) (goneF (ctD l k) F) := by
  have e : l.drop k = ctD l k :: l.drop (k + 1) := by
    rw [List.drop_eq_getElem_cons hk]
    unfold ctD; rw [List.getD_eq_getElem?_getD, List.getElem?_eq_getElem hk]; rfl
  rw [e, aft]
  unfold goneB goneF
  by_cases h1 : (ctD l k).until_ < F
  · rw [if_neg (by omega), if_pos h1, if_pos h1]; simp
  · rw [if_neg h1, if_neg h1]
    by_cases h2 : (ctD l k).from_ ≤ F
    · rw [if_pos (by omega), decide_eq_true h2]; simp
    · rw [if_neg (by omega), decide_eq_false h2]; simp
theorem goneF_in {c : Cut} {f : Int} (hc : 0 ≤ c.from_ ∧ c.from_ ≤ c.until_ ∧ c.until_ ≤ 200000) (hf : 0 ≤ f ∧ f ≤ 200000) : 0 ≤ goneF c f ∧ goneF c f ≤ 200000 := by
  unfold goneF long; split <;> omega
def IdxPost (l : List Cut) (f : Int) (bf : Nat) (w : World) (r : Int) (w' : World) : Prop := ∃ F, w'.heap[bf]? = some (.cells #[.int .i64 F] 3 (0, 0)) ∧ Bx bf w w' ∧ ((aft l f = some F ∧ r = -1) ∨ (aft l f = none ∧ 0 ≤ r))
set_option maxRecDepth 100000 in
set_option maxHeartbeats 2000000 in
theorem idxC_any {f : Int} {bf : Nat} {s : Sl} {l : List Cut} {w : World} (hs : CutsS w s l) (hsb : ∀ b off, s.a = some ⟨b, off, none⟩ → 0 < l.length → 0 < 2 → b < bf) (hl : CutsIn l) (hf : 0 ≤ f ∧ f ≤ 200000) (hb : w.heap[bf]? = some (.cells #[.int .i64 f] 3 (0, 0))) :
    Calls Tryz.prog 62 #[.slice s.a l.length s.cap, .func (.func 43) #[] #[.pointer (some ⟨bf, 0, none⟩)]] w fun e w' => ∃ r : Int, e = .returned (.int .i64 r) ∧ IdxPost l f bf w r w' := by
  have hbl := blk_lt hb
  have hc := hs.le
  have hm := hs.max
  obtain ⟨sa, sc⟩ := s
  dsimp only at hc hm hsb
  have HS := Lib.hid hs; clear hs
  obtain ⟨n, hn'⟩ : ∃ n, n = l.length := ⟨_, rfl⟩
  rw [← hn'] at hc ⊢
  have HN := Lib.hid hn'; clear hn'
  have HB0 := Lib.hid hb; have HSB := Lib.hid hsb; have HL := Lib.hid hl
  have eg : ∀ args w, (callFunc 43 args).run Tryz.prog w = .ok (.enter 43 args) w := enters_of Tryz.func43 (by kernel_rfl) rfl
  clear hb hsb hl
  go_enter Tryz.func62, Tryz.ntmps62
  go_wp2_with (fail)
  go_loopw [8] (fun i wr => ∃ (k : Nat) (F : Int), k ≤ n ∧ i = .int .i64 k ∧ aft l f = aft (l.drop k) F ∧ 0 ≤ F ∧ F ≤ 200000 ∧ wr.heap[bf]? = some (.cells #[.int .i64 F] 3 (0, 0)) ∧ Bx bf w wr) (fun i _ => n - (intOf i).toNat)
  case atStart => exact ⟨0, f, Nat.zero_le _, rfl, rfl, hf.1, hf.2, HB0.out, Bx.refl _ _⟩
  case round =>
    obtain ⟨k, F, hk, rfl, ha, hF0, hF1, xb, hB⟩ := hrel
    have HA := Lib.hid ha; have HB := Lib.hid hB; have XB := Lib.hid xb
    clear ha xb
    by_cases hlt : k < n
    · have hkl : k < l.length := by rw [← HN.out]; exact hlt
      obtain ⟨b, off, hsa, c0, c1⟩ := cut_cells (RowS.kept HS.out HSB.out (hB.below (Nat.le_refl _) (by omega))) hkl
      dsimp only at hsa
      subst hsa
      have hci := HL.out k hkl
      have had := aft_drop hkl F
      obtain ⟨c, hc'⟩ : ∃ c, c = ctD l k := ⟨_, rfl⟩
      rw [← hc'] at c0 c1 hci had
      have HG := Lib.hid (gone_any (w := wr) hci ⟨hF0, hF1⟩ XB.out)
      have hgi := goneF_in hci ⟨hF0, hF1⟩
      obtain ⟨F2, hF2⟩ : ∃ F2, F2 = goneF c F := ⟨_, rfl⟩
      rw [← hF2] at HG had hgi
      have HAD := Lib.hid had
      have h0 : (0 : Int) ≤ (k : Int) := by omega
      have h1 : (k : Int) < (n : Int) := by omega
      clear had hF2 hc' hB hci hkl
      go_wp2_with (fail)
      refine HG.out.mono ?_
      rintro e w1 ⟨rfl, x1, hB1⟩
      have HB1 := Lib.hid (HB.out.trans hB1); have X1 := Lib.hid x1
      clear x1 hB1 c0 c1
      cases hv : goneB c F with
      | true =>
        have hN : aft l f = none := by rw [HA.out, HAD.out, hv]; rfl
        have HNN := Lib.hid hN
        clear hN hv
        go_wp2_with (fail)
        go_ret
        exact ⟨(k : Int), rfl, F2, X1.out, HB1.out, .inr ⟨HNN.out, by omega⟩⟩
      | false =>
        have hN : aft l f = aft (l.drop (k + 1)) F2 := by rw [HA.out, HAD.out, hv]; rfl
        have HNN := Lib.hid hN
        clear hN hv
        go_wp2_with (fail)
        go_roundw
        case rel => exact ⟨k + 1, F2, by omega, by go_num, HNN.out, hgi.1, hgi.2, X1.out, HB1.out⟩
        case measure => simp [intOf]; omega
    · obtain rfl : k = n := by omega
      have hN : aft l f = some F := by rw [HA.out, List.drop_of_length_le (by rw [HN.out]; exact Nat.le_refl _)]; rfl
      have HNN := Lib.hid hN
      clear hN hB
      go_wp2_with (fail)
      go_ret
      exact ⟨-1, rfl, F, XB.out, HB.out, .inl ⟨HNN.out, rfl⟩⟩
set_option maxRecDepth 100000 in
set_option maxHeartbeats 2000000 in
theorem contC_any {f : Int} {bf : Nat} {s : Sl} {l : List Cut} {w : World} (hs : CutsS w s l) (hsb : ∀ b off, s.a = some ⟨b, off, none⟩ → 0 < l.length → 0 < 2 → b < bf) (hl : CutsIn l) (hf : 0 ≤ f ∧ f ≤ 200000) (hb : w.heap[bf]? = some (.cells #[.int .i64 f] 3 (0, 0))) :
    Calls Tryz.prog 45 #[.slice s.a l.length s.cap, .func (.func 43) #[] #[.pointer (some ⟨bf, 0, none⟩)]] w fun e w' => ∃ p : Bool, e = .returned (.bool p) ∧ ∃ F, w'.heap[bf]? = some (.cells #[.int .i64 F] 3 (0, 0)) ∧ Bx bf w w' ∧ ((aft l f = some F ∧ p = false) ∨ (aft l f = none ∧ p = true)) := by
  have HC := Lib.hid (idxC_any hs hsb hl hf hb)
  clear hs hsb hl hf hb
  go_enter Tryz.func45, Tryz.ntmps45
  go_wp2_with (fail)
  (with_reducible refine HC.out.mono ?_)
  rintro e w1 ⟨r, rfl, F, h1, h2, h3⟩
  have H3 := Lib.hid h3
  clear h3
  go_wp2_with (fail)
  go_ret
  refine ⟨decide (0 ≤ r), rfl, F, h1, h2, ?_⟩
  rcases H3.out with ⟨a, b⟩ | ⟨a, b⟩
  · exact .inl ⟨a, decide_eq_false (by omega)⟩
  · exact .inr ⟨a, decide_eq_true b⟩
theorem D.CutsOk.inn : ∀ {l : List Cut} {f g : Int}, CutsOk f l g → f ≤ 200000 → CutsIn l
  | _, _, _, .nil f, _ => fun i hi => absurd hi (Nat.not_lt_zero i)
  | _, _, _, .cons (c := c) (l := l) h0 h1 h2 h, hf => fun i hi => by
    cases i with
    | zero => exact ⟨h0, h1, by show c.until_ ≤ _; omega⟩
    | succ i => exact h.inn (by unfold long; omega) i (by simpa using hi)
set_option maxRecDepth 100000 in
set_option maxHeartbeats 2000000 in
theorem after_any {l : List Cut} {s : Sl} {f x : Int} {w : World} (h : CutsS w s l) : Calls Tryz.prog 20 #[.int .i64 f, .slice s.a l.length s.cap, .int .i64 x] w fun e w' => e = .returned (.tuple #[.int .i64 (afterV f l x).1, .int .i64 (afterV f l x).2]) ∧ Ext2 w w' := by
  have HS := Lib.hid h
  have HMA := Lib.hid fun (W : World) (hW : Ext2 w W) => made_any (f := f) (h.below hW)
  have hle := h.le; have hmx := h.max
  have hok : (madeV f l).2 = 0 → (1 ≤ f ∧ f ≤ 200000) ∧ CutsIn l := fun h0 => by
    unfold madeV at h0
    split at h0
    · cases h0
    · rename_i h1
      have h2 := inB_iff.1 (by simpa using h1 : inB f 1 200000 = true)
      split at h0
      · cases h0
      · exact ⟨h2, (madeK_ok h0).inn h2.2⟩
  obtain ⟨m1, hm1⟩ : ∃ m, m = (madeV f l).1 := ⟨_, rfl⟩
  obtain ⟨m2, hm2⟩ : ∃ m, m = (madeV f l).2 := ⟨_, rfl⟩
  have hA : afterV f l x = if m2 ≠ 0 then (0, m2) else if inB x 0 (f - 1) = false then (0, 7) else match aft l x with | none => (0, 4) | some a => (a, 0) := by rw [hm2]; rfl
  rw [← hm1, ← hm2] at HMA
  rw [← hm2] at hok
  have HA := Lib.hid hA
  obtain ⟨⟨sa, sc⟩, hsq⟩ : ∃ s', s' = s := ⟨_, rfl⟩
  subst hsq
  dsimp only at hle hmx
  clear h hm1 hm2 hA
  by_cases he : m2 = 0
  · obtain ⟨hf, hin⟩ := hok he
    subst he
    have HIN := Lib.hid hin
    have w1' : IntKind.i64.wrap (f - 1) = f - 1 := IntWalk.i64_in _ (by omega)
    have HO : Hid (∀ W, Calls Tryz.prog 30 #[.int .i64 x, .int .i64 0, .int .i64 (f - 1)] W fun e w' => e = .returned (.bool (!inB x 0 (f - 1))) ∧ W = w') := Lib.hid fun W => by rw [← outB_in]; exact out_any _ _ _ W
    clear hin hok
    go_enter Tryz.func20, Tryz.ntmps20
    go_upto_region 1 with (fail)
    refine wp_name ?_
    intro w3 hw3
    obtain ⟨n3, hn3⟩ : ∃ n, n = w.heap.size := ⟨_, rfl⟩
    have x3 : w3.heap[n3]? = some (.cells #[.int .i64 x] 3 (0, 0)) := by rw [hw3, hn3]; exact blk_new _ _
    have hE3 : Ext2 w w3 := by rw [hw3]; exact below_alloc' _ _
    have hlw : w.heap.size ≤ n3 := by omega
    rw [← hn3]
    have HE3 := Lib.hid hE3; have X3 := Lib.hid x3
    clear hw3 hn3 hE3 x3
    go_wp2_with (fail)
    (with_reducible refine (HMA.out w3 HE3.out).mono ?_)
    rintro e w4 ⟨rfl, hE4⟩
    have x4 := hE4.blk X3.out
    have HE4 := Lib.hid (ext_trans HE3.out hE4); have X4 := Lib.hid x4
    clear hE4
    have q4c := cell_blk x4
    have q4f := frz_blk x4
    clear x4
    cases hv : inB x 0 (f - 1) with
    | false =>
      have hF : afterV f l x = (0, 7) := by rw [HA.out, hv]; rfl
      have HF := Lib.hid hF
      have H1 := HO.out; rw [hv, Bool.not_false] at H1
      clear hF HO
      go_wp2_with (fail)
      (with_reducible refine (H1 _).mono ?_)
      rintro e w' ⟨rfl, rfl⟩
      go_wp2_with (fail)
      go_ret2
      exact ⟨by rw [HF.out]; rfl, HE4.out⟩
    | true =>
      have H1 := HO.out; rw [hv, Bool.not_true] at H1
      have hx := inB_iff.1 hv
      have HF : Hid (afterV f l x = match aft l x with | none => (0, 4) | some a => (a, 0)) := Lib.hid (by rw [HA.out, hv]; rfl)
      have HC := Lib.hid (contC_any (w := w4) (HS.out.below HE4.out) (fun b off ha hn hz => Nat.lt_of_lt_of_le (HS.out.block ha hn hz) hlw) HIN.out ⟨hx.1, by omega⟩ X4.out)
      clear HO hv
      go_wp2_with (fail)
      (with_reducible refine (H1 _).mono ?_)
      rintro e w' ⟨rfl, rfl⟩
      go_wp2_with (fail)
      (with_reducible refine HC.out.mono ?_)
      rintro e w5 ⟨p, rfl, F, x5, hB5, h5⟩
      have HE5 := Lib.hid (HE4.out.trans (hB5.below hlw HE4.out.size))
      rcases h5 with ⟨h5, rfl⟩ | ⟨h5, rfl⟩
      · have hF : afterV f l x = (F, 0) := by rw [HF.out, h5]
        have HFF := Lib.hid hF
        clear q4c q4f hF h5 hB5
        have q5c := cell_blk x5
        have q5f := frz_blk x5
        go_wp2_with (fail)
        go_ret2
        exact ⟨by rw [HFF.out]; rfl, HE5.out⟩
      · have hF : afterV f l x = (0, 4) := by rw [HF.out, h5]
        have HFF := Lib.hid hF
        clear q4c q4f hF h5 hB5
        go_wp2_with (fail)
        go_ret2
        exact ⟨by rw [HFF.out]; rfl, HE5.out⟩
  · have hF : afterV f l x = (0, m2) := by rw [HA.out, if_pos he]
    have HF := Lib.hid hF
    clear hF hok
    go_enter Tryz.func20, Tryz.ntmps20
    go_upto_region 1 with (fail)
    refine wp_name ?_
    intro w3 hw3
    have hE3 : Ext2 w w3 := by rw [hw3]; exact below_alloc' _ _
    have HE3 := Lib.hid hE3
    clear hw3 hE3
    go_wp2_with (fail)
    (with_reducible refine (HMA.out w3 HE3.out).mono ?_)
    rintro e w4 ⟨rfl, hE4⟩
    have HE4 := Lib.hid (ext_trans HE3.out hE4)
    clear hE4
    have hne : (m2 != 0) = true := by simpa using he
    go_wp2_with (fail)
    go_ret2
    exact ⟨by rw [HF.out]; rfl, HE4.out⟩
end Go.Proofs.YtapeakbngligaaaGreatDoor
