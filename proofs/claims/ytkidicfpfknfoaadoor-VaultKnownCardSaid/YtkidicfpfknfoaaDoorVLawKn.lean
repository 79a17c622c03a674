/-
  The law VaultKnown, walked.
-/
import Derived.Test.YtkidicfpfknfoaaDoorVKnP
namespace Go.Proofs.YtkidicfpfknfoaaDoor
open Go.RowKit D
set_option linter.unusedVariables false
set_option linter.unusedSimpArgs false
attribute [local go_sem high] run_minI run_maxI
attribute [local go_sem] upon2 cls_cell cls_frozen forall_const exists_eq_left'
attribute [local go_sem] FirstUpon
theorem knWh {h : Int} {l : List Int} (he : whereE exS exM h = 0) (hl : whereA exS exM h = l) {W : World} {s : SSl} {sl : Sl} (hS : SiteAt W exS s) (hM : MovesS W sl exM) (hm : MaxAt W) : Calls Tryd.prog 19 #[.agg #[.slice s.r.a exS.rooms.length s.r.cap, .slice s.c.a exS.cans.length s.c.cap, .int .i64 exS.rlo, .int .i64 exS.rhi, .slice s.p.a exS.steps.length s.p.cap], .slice sl.a exM.length sl.cap, .int .i64 h] W fun e w' => ∃ q : Sl, e = .returned (.tuple #[.slice q.a l.length q.cap, .int .i64 0]) ∧ IntsS w' q l ∧ Below W.heap.size W w' := by
  have h1 := whereA_any (h := h) hS hM hm
  unfold WhereOut at h1
  rw [he, hl] at h1
  exact h1
theorem knTp {W : World} {s : SSl} {sl : Sl} (hS : SiteAt W exS s) (hM : MovesS W sl exM) (hm : MaxAt W) : Calls Tryd.prog 26 #[.agg #[.slice s.r.a exS.rooms.length s.r.cap, .slice s.c.a exS.cans.length s.c.cap, .int .i64 exS.rlo, .int .i64 exS.rhi, .slice s.p.a exS.steps.length s.p.cap], .slice sl.a exM.length sl.cap, .int .i64 0, .int .i64 24] W fun e w' => e = .returned (.tuple #[.agg #[.int .i64 184, .int .i64 218], .int .i64 0]) ∧ Below W.heap.size W w' := by
  have h1 := tempA_any (c := 0) (h := 24) hS hM hm
  rw [knT1.1, knT1.2] at h1
  exact h1
theorem own_rowK {w : World} {base : Nat} {e : TypeId} {sz : Nat} {v : Value} {n : Nat} {c : Nat → Nat → Value} (h : OwnR w base e sz v n c) : ∃ q : Sl, v = .slice q.a n q.cap ∧ RowS w q sz n c := by
  rcases h.forms with ⟨rfl, rfl⟩ | ⟨g, cap, rfl, -, hn, hc, hr, -, -⟩
  · exact ⟨⟨none, 0⟩, rfl, Nat.le_refl _, by decide, fun i j hi _ => absurd hi (Nat.not_lt_zero i)⟩
  · exact ⟨⟨some ⟨g, 0, none⟩, cap⟩, rfl, hn, hc, fun i j hi hj => ⟨g, 0, rfl, hr.2 i j hi hj⟩⟩
theorem join_key2 {G : Prop} {α β : Type} {C : α → β → World → Prop} {Q : Exit → Act → World → Prop} {A : α → β → Act} (h : (∀ n m u, C n m u → Q .normal (A n m) u) → G) (k : ∀ n m u, C n m u → Q .normal (A n m) u) : G := h k
theorem knSw {t : Span} {r : Int} {o : Bool × Bool × Int} (ho : sweatO exS t r = o) {w W : World} {s : SSl} (hS : SiteAt w exS s) (hm : MaxAt w) (hE : Ext2 w W) : Calls Tryd.prog 31 #[.agg #[.slice s.r.a exS.rooms.length s.r.cap, .slice s.c.a exS.cans.length s.c.cap, .int .i64 exS.rlo, .int .i64 exS.rhi, .slice s.p.a exS.steps.length s.p.cap], .agg #[.int .i64 t.lo, .int .i64 t.hi], .int .i64 r] W fun e' w' => e' = .returned (.tuple #[.bool o.1, .bool o.2.1, .int .i64 o.2.2]) ∧ Below W.heap.size W w' := by
  subst ho; exact sweats_any (hS.below hE) (hm.below hE)
theorem knWm {t : Span} {r h : Int} {o : Span × Int} (ho : warmO exS t r h = o) {w W : World} {s : SSl} (hS : SiteAt w exS s) (hm : MaxAt w) (hE : Ext2 w W) : Calls Tryd.prog 33 #[.agg #[.slice s.r.a exS.rooms.length s.r.cap, .slice s.c.a exS.cans.length s.c.cap, .int .i64 exS.rlo, .int .i64 exS.rhi, .slice s.p.a exS.steps.length s.p.cap], .agg #[.int .i64 t.lo, .int .i64 t.hi], .int .i64 r, .int .i64 h] W fun e' w' => e' = .returned (.tuple #[.agg #[.int .i64 o.1.lo, .int .i64 o.1.hi], .int .i64 o.2]) ∧ Below W.heap.size W w' := by
  subst ho; exact warmA_any (hS.below hE) (hm.below hE)
theorem knWt {t : Span} {r nx : Int} {o : Int × Span × Int} (ho : waitO exS t r nx = o) {w W : World} {s : SSl} (hS : SiteAt w exS s) (hm : MaxAt w) (hE : Ext2 w W) : Calls Tryd.prog 36 #[.agg #[.slice s.r.a exS.rooms.length s.r.cap, .slice s.c.a exS.cans.length s.c.cap, .int .i64 exS.rlo, .int .i64 exS.rhi, .slice s.p.a exS.steps.length s.p.cap], .agg #[.int .i64 t.lo, .int .i64 t.hi], .int .i64 r, .int .i64 nx] W fun e' w' => e' = .returned (.tuple #[.int .i64 o.1, .agg #[.int .i64 o.2.1.lo, .int .i64 o.2.1.hi], .int .i64 o.2.2]) ∧ Below W.heap.size W w' := by
  subst ho; exact waitA_any (hS.below hE) (hm.below hE)
theorem join_key {G : Prop} {α : Type} {C : α → World → Prop} {Q : Exit → Act → World → Prop} {A : α → Act} (h : (∀ n u, C n u → Q .normal (A n) u) → G) (k : ∀ n u, C n u → Q .normal (A n) u) : G := h k
set_option maxRecDepth 100000 in
set_option maxHeartbeats 8000000 in
theorem lawKnown_any {w : World} (hm : MaxAt w) : Calls Tryd.prog 12 #[] w fun e w' => e = .returned (.bool true) ∧ Below w.heap.size w w' := by
  have HM := Lib.hid hm
  clear hm
  go_enter Tryd.func12, Tryd.ntmps12
  go_wp2_with (fail)
  refine (siteL_any _).mono ?_
  rintro e w0 ⟨⟨s, rfl, hS⟩, hb0⟩
  have HS0 := Lib.hid hS; have HB0 := Lib.hid hb0
  clear hS hb0
  go_wp2_with (fail)
  refine wp_name ?_
  intro w1 hw1
  obtain ⟨n1, hn1⟩ : ∃ n, n = w0.heap.size := ⟨_, rfl⟩
  obtain ⟨bt, hbt⟩ : ∃ n, n = n1 + 1 := ⟨_, rfl⟩
  obtain ⟨ba, hba⟩ : ∃ n, n = bt + 1 := ⟨_, rfl⟩
  have hE1 : Ext2 w0 w1 := by rw [hw1]; exact ext_trans (ext_trans (below_alloc' _ _) (below_alloc' _ _)) (below_alloc' _ _)
  have X1 : Hid (w1.heap[n1]? = some (Obj.cells #[.slice s.r.a exS.rooms.length s.r.cap, .slice s.c.a exS.cans.length s.c.cap, .int .i64 exS.rlo, .int .i64 exS.rhi, .slice s.p.a exS.steps.length s.p.cap] 28)) := Lib.hid (by rw [hw1, hn1]; exact blk_alloc (blk_alloc (blk_new _ _) _) _)
  have xt : w1.heap[bt]? = some (.cells #[.int .i64 0, .int .i64 20, .int .i64 (-275), .int .i64 600] 3 (0, 0)) := by rw [hw1, hbt, hn1]; exact blk_alloc (blk_new' _ _ (by simp)) _
  have xa : w1.heap[ba]? = some (.cells #[.int .i64 4850, .int .i64 5630, .int .i64 575, .int .i64 130200] 3 (0, 0)) := by rw [hw1, hba, hbt, hn1]; exact blk_new' _ _ (by simp)
  have HT : Hid (IntsS w1 ⟨some ⟨bt, 0, none⟩, 4⟩ knT) := Lib.hid (rows_blk xt (by decide) (fun i j hi hj => by
    obtain rfl : j = 0 := by omega
    rcases (show i = 0 ∨ i = 1 ∨ i = 2 ∨ i = 3 by have : i < 4 := hi; omega) with rfl | rfl | rfl | rfl <;> rfl))
  have HA : Hid (IntsS w1 ⟨some ⟨ba, 0, none⟩, 4⟩ knA) := Lib.hid (rows_blk xa (by decide) (fun i j hi hj => by
    obtain rfl : j = 0 := by omega
    rcases (show i = 0 ∨ i = 1 ∨ i = 2 ∨ i = 3 by have : i < 4 := hi; omega) with rfl | rfl | rfl | rfl <;> rfl))
  have HS1 := Lib.hid (HS0.out.below hE1)
  have HB1 := Lib.hid (below_ext HB0.out hE1)
  have HSP : Hid (∀ (a b : Int) W, Calls Tryd.prog 35 #[.int .i64 a, .int .i64 b] W fun e w' => e = .returned (.agg #[.int .i64 a, .int .i64 b]) ∧ Below W.heap.size W w') := Lib.hid spanL_b
  rw [← hn1, ← hbt, ← hba]
  clear hw1 hn1 hbt hba hE1 HS0 HB0 xt xa
  go_loopw [4] (fun z wr => ∃ i : Nat, z = .int .i64 (i : Int) ∧ i ≤ 4 ∧ Ext2 w1 wr) (fun z _ => 4 - (intOf z).toNat)
  case atStart => exact ⟨0, rfl, by omega, Below.refl _ _⟩
  case round =>
    obtain ⟨i, rfl, hi, hE⟩ := hrel
    have HE := Lib.hid hE
    by_cases hlt : i < 4
    · go_light
      obtain ⟨b0, o0, h0, c0⟩ := int_cell (HT.out.below hE) (i := i) hlt
      obtain ⟨rfl, rfl⟩ : bt = b0 ∧ 0 = o0 := by simpa using h0
      rw [Nat.zero_add] at c0
      obtain ⟨k1, k2⟩ := kn_vap hlt
      obtain ⟨t, ht⟩ : ∃ t, t = intD knT i := ⟨_, rfl⟩
      obtain ⟨A, hA⟩ : ∃ A, A = intD knA i := ⟨_, rfl⟩
      rw [← ht] at c0 k1 k2
      rw [← hA] at k2
      have HV : Hid (∀ W, Calls Tryd.prog 20 #[.int .i64 t] W fun e w' => e = .returned (.tuple #[.int .i64 A, .int .i64 0]) ∧ Below W.heap.size W w') := Lib.hid fun W => by
        have h := vapourA_any (t := t) W
        rw [k1, k2] at h; exact h
      have HA' := Lib.hid hA
      have p0 : (0 : Int) ≤ (i : Int) := by omega
      have p1 : (i : Int) < 4 := by omega
      have p2 : IntKind.i64.wrap ((i : Int) + 1) = (i : Int) + 1 := IntWalk.i64_in _ (by omega)
      have b1 : (A != A) = false := by simp
      clear hE h0 k1 k2 ht hA
      go_wp2_with (fail)
      (with_reducible refine (HV.out _).mono ?_)
      rintro e w2 ⟨rfl, hb2⟩
      have HE2 := Lib.hid (ext_trans HE.out hb2)
      obtain ⟨b0, o0, h0, c1⟩ := int_cell (HA.out.below HE2.out) (i := i) hlt
      obtain ⟨rfl, rfl⟩ : ba = b0 ∧ 0 = o0 := by simpa using h0
      rw [Nat.zero_add, ← HA'.out] at c1
      clear hb2 c0 h0
      go_wp2_with (fail)
      go_roundw
      case rel => exact ⟨i + 1, by go_num, by omega, HE2.out⟩
      case measure => simp [intOf]; omega
    · obtain rfl : i = 4 := by omega
      have HEl := Lib.hid hE
      clear hE hlt hi
      go_wp2_with (fail)
      have hD : ∀ W, Calls Tryd.prog 22 #[.int .i64 40, .int .i64 400] W fun e w' => e = .returned (.tuple #[.int .i64 (-90), .int .i64 0]) ∧ Below W.heap.size W w' := fun W => by
        have h := dew_any (t := 40) (d := 400) W
        rw [knD.1, knD.2] at h; exact h
      refine (hD _).mono ?_
      clear hD
      rintro e w2 ⟨rfl, hb2⟩
      have HE2 := Lib.hid (ext_trans HEl.out hb2)
      have x1 := Ext2.blk HE2.out X1.out
      clear hb2
      have q1c := cell_blk x1
      have q1f := frz_blk x1
      clear x1
      go_wp2_with (fail)
      have HSW := HS1
      have HMW := Lib.hid (HM.out.below HB1.out)
      have HEw2 := HE2
      have H10 : Hid (∀ W, Ext2 w2 W → Calls Tryd.prog 31 #[.agg #[.slice s.r.a exS.rooms.length s.r.cap, .slice s.c.a exS.cans.length s.c.cap, .int .i64 exS.rlo, .int .i64 exS.rhi, .slice s.p.a exS.steps.length s.p.cap], .agg #[.int .i64 20, .int .i64 40], .int .i64 2] W fun e' w' => e' = .returned (.tuple #[.bool true, .bool true, .int .i64 0]) ∧ Below W.heap.size W w') := Lib.hid fun W hW => knSw knS1 HSW.out HMW.out (ext_trans HEw2.out hW)
      refine region_ev [] [0, 1, 2, 3, 4, 5, 6, 7, 8, 9] [] [] (by kernel_rfl) (by kernel_rfl) (by intro c a d v w h; cases d <;> exact h) ?_
      simp only [picks, List.drop_succ_cons, List.drop_zero]
      repeat (refine wpQ0_step (fun K hK => ?_); go_simp; (refine hK _ ?_; clear hK K))
      refine wpQ0_nil ?_
      repeat (refine wpQ2_step (fun K hK => ?_); go_simp; first | (refine hK _ ?_; clear hK K) | (apply Exists.intro; refine ⟨fun x => ?_, hK _ ?_⟩; (first | (with_reducible exact HSP.out _ _ x.1) | (with_reducible exact H10.out x.1 x.2)); clear hK K))
      refine wpQ2_nil ?_
      refine Events.none_ fun w3 hg_ => ?_
      simp only [picks, List.drop_succ_cons, List.drop_zero]
      have HEw3 := Lib.hid (ext_trans HEw2.out hg_)
      have x1 := Ext2.blk HEw3.out X1.out
      clear hg_ q1c q1f
      have q1c := cell_blk x1
      have q1f := frz_blk x1
      clear x1
      clear H10
      go_wp2_with (fail)
      have H11 : Hid (∀ W, Ext2 w3 W → Calls Tryd.prog 31 #[.agg #[.slice s.r.a exS.rooms.length s.r.cap, .slice s.c.a exS.cans.length s.c.cap, .int .i64 exS.rlo, .int .i64 exS.rhi, .slice s.p.a exS.steps.length s.p.cap], .agg #[.int .i64 20, .int .i64 40], .int .i64 1] W fun e' w' => e' = .returned (.tuple #[.bool false, .bool false, .int .i64 0]) ∧ Below W.heap.size W w') := Lib.hid fun W hW => knSw knS2 HSW.out HMW.out (ext_trans HEw3.out hW)
      refine region_ev [] [0, 1, 2, 3, 4, 5, 6, 7, 8, 9] [] [] (by kernel_rfl) (by kernel_rfl) (by intro c a d v w h; cases d <;> exact h) ?_
      simp only [picks, List.drop_succ_cons, List.drop_zero]
      repeat (refine wpQ0_step (fun K hK => ?_); go_simp; (refine hK _ ?_; clear hK K))
      refine wpQ0_nil ?_
      repeat (refine wpQ2_step (fun K hK => ?_); go_simp; first | (refine hK _ ?_; clear hK K) | (apply Exists.intro; refine ⟨fun x => ?_, hK _ ?_⟩; (first | (with_reducible exact HSP.out _ _ x.1) | (with_reducible exact H11.out x.1 x.2)); clear hK K))
      refine wpQ2_nil ?_
      refine Events.none_ fun w4 hg_ => ?_
      simp only [picks, List.drop_succ_cons, List.drop_zero]
      have HEw4 := Lib.hid (ext_trans HEw3.out hg_)
      have x1 := Ext2.blk HEw4.out X1.out
      clear hg_ q1c q1f
      have q1c := cell_blk x1
      have q1f := frz_blk x1
      clear x1
      clear H11
      go_wp2_with (fail)
      have H12 : Hid (∀ W, Ext2 w4 W → Calls Tryd.prog 31 #[.agg #[.slice s.r.a exS.rooms.length s.r.cap, .slice s.c.a exS.cans.length s.c.cap, .int .i64 exS.rlo, .int .i64 exS.rhi, .slice s.p.a exS.steps.length s.p.cap], .agg #[.int .i64 60, .int .i64 110], .int .i64 2] W fun e' w' => e' = .returned (.tuple #[.bool false, .bool true, .int .i64 0]) ∧ Below W.heap.size W w') := Lib.hid fun W hW => knSw knS3 HSW.out HMW.out (ext_trans HEw4.out hW)
      refine region_ev [] [0, 1, 2, 3, 4, 5, 6, 7, 8, 9] [] [] (by kernel_rfl) (by kernel_rfl) (by intro c a d v w h; cases d <;> exact h) ?_
      simp only [picks, List.drop_succ_cons, List.drop_zero]
      repeat (refine wpQ0_step (fun K hK => ?_); go_simp; (refine hK _ ?_; clear hK K))
      refine wpQ0_nil ?_
      repeat (refine wpQ2_step (fun K hK => ?_); go_simp; first | (refine hK _ ?_; clear hK K) | (apply Exists.intro; refine ⟨fun x => ?_, hK _ ?_⟩; (first | (with_reducible exact HSP.out _ _ x.1) | (with_reducible exact H12.out x.1 x.2)); clear hK K))
      refine wpQ2_nil ?_
      refine Events.none_ fun w5 hg_ => ?_
      simp only [picks, List.drop_succ_cons, List.drop_zero]
      have HEw5 := Lib.hid (ext_trans HEw4.out hg_)
      have x1 := Ext2.blk HEw5.out X1.out
      clear hg_ q1c q1f
      have q1c := cell_blk x1
      have q1f := frz_blk x1
      clear x1
      clear H12
      go_wp2_with (fail)
      have H15 : Hid (∀ W, Ext2 w5 W → Calls Tryd.prog 33 #[.agg #[.slice s.r.a exS.rooms.length s.r.cap, .slice s.c.a exS.cans.length s.c.cap, .int .i64 exS.rlo, .int .i64 exS.rhi, .slice s.p.a exS.steps.length s.p.cap], .agg #[.int .i64 20, .int .i64 40], .int .i64 1, .int .i64 1] W fun e' w' => e' = .returned (.tuple #[.agg #[.int .i64 36, .int .i64 64], .int .i64 0]) ∧ Below W.heap.size W w') := Lib.hid fun W hW => knWm knW1 HSW.out HMW.out (ext_trans HEw5.out hW)
      refine region_ev [] [0, 1, 2, 3, 4, 5] [(6, 18, some 7)] [8] (by kernel_rfl) (by kernel_rfl) (by intro c a d v w h; cases d <;> exact h) ?_
      simp only [picks, List.drop_succ_cons, List.drop_zero]
      repeat (refine wpQ0_step (fun K hK => ?_); go_simp; (refine hK _ ?_; clear hK K))
      refine wpQ0_nil ?_
      repeat (refine wpQ2_step (fun K hK => ?_); go_simp; first | (refine hK _ ?_; clear hK K) | (apply Exists.intro; refine ⟨fun x => ?_, hK _ ?_⟩; (first | (with_reducible exact HSP.out _ _ x.1) | (with_reducible exact H15.out x.1 x.2)); clear hK K))
      refine wpQ2_nil ?_
      refine Events.fill1 (fun b => .pointer (some ⟨b, 0, none⟩)) (Obj.cells #[.int .i64 0, .int .i64 0] 25) (Obj.cells #[.int .i64 36, .int .i64 64] 25) ⟨_, rfl, rfl, rfl, fun W => by kernel_rfl⟩ ⟨_, rfl, rfl, rfl, fun b W hb => ?_⟩ fun n18 w6 hn18 hg_ nn18 => ?_
      · have hbc := cell_blk hb; have hbf := frz_blk hb; go_simp; exact turn_two hb _ _
      simp only [picks, List.drop_succ_cons, List.drop_zero]
      have HEw6 := Lib.hid (ext_trans HEw5.out hg_)
      have Yn18w6 := Lib.hid nn18
      have x1 := Ext2.blk HEw6.out X1.out
      have HGw6 := Lib.hid hg_
      clear hg_ q1c q1f nn18
      have q1c := cell_blk x1
      have q1f := frz_blk x1
      clear x1
      clear H15
      go_wp2_with (fail)
      have H16 : Hid (∀ W, Ext2 w6 W → Calls Tryd.prog 33 #[.agg #[.slice s.r.a exS.rooms.length s.r.cap, .slice s.c.a exS.cans.length s.c.cap, .int .i64 exS.rlo, .int .i64 exS.rhi, .slice s.p.a exS.steps.length s.p.cap], .agg #[.int .i64 20, .int .i64 40], .int .i64 1, .int .i64 2] W fun e' w' => e' = .returned (.tuple #[.agg #[.int .i64 48, .int .i64 81], .int .i64 0]) ∧ Below W.heap.size W w') := Lib.hid fun W hW => knWm knW2 HSW.out HMW.out (ext_trans HEw6.out hW)
      refine region_ev [] [0, 1, 2, 3, 4, 5] [(6, 19, some 7)] [8] (by kernel_rfl) (by kernel_rfl) (by intro c a d v w h; cases d <;> exact h) ?_
      simp only [picks, List.drop_succ_cons, List.drop_zero]
      repeat (refine wpQ0_step (fun K hK => ?_); go_simp; (refine hK _ ?_; clear hK K))
      refine wpQ0_nil ?_
      repeat (refine wpQ2_step (fun K hK => ?_); go_simp; first | (refine hK _ ?_; clear hK K) | (apply Exists.intro; refine ⟨fun x => ?_, hK _ ?_⟩; (first | (with_reducible exact HSP.out _ _ x.1) | (with_reducible exact H16.out x.1 x.2)); clear hK K))
      refine wpQ2_nil ?_
      refine Events.fill1 (fun b => .pointer (some ⟨b, 0, none⟩)) (Obj.cells #[.int .i64 0, .int .i64 0] 25) (Obj.cells #[.int .i64 48, .int .i64 81] 25) ⟨_, rfl, rfl, rfl, fun W => by kernel_rfl⟩ ⟨_, rfl, rfl, rfl, fun b W hb => ?_⟩ fun n19 w7 hn19 hg_ nn19 => ?_
      · have hbc := cell_blk hb; have hbf := frz_blk hb; go_simp; exact turn_two hb _ _
      simp only [picks, List.drop_succ_cons, List.drop_zero]
      have HEw7 := Lib.hid (ext_trans HEw6.out hg_)
      have Yn19w7 := Lib.hid nn19
      have x1 := Ext2.blk HEw7.out X1.out
      have HGw7 := Lib.hid hg_
      clear hg_ q1c q1f nn19
      have q1c := cell_blk x1
      have q1f := frz_blk x1
      clear x1
      clear H16
      go_wp2_with (fail)
      have Yn18w7 := Lib.hid (Ext2.blk HGw7.out Yn18w6.out)
      have HSPX : Hid (∀ W, Ext2 w7 W → Calls Tryd.prog 35 #[.int .i64 20, .int .i64 40] W fun e w' => e = .returned (.agg #[.int .i64 20, .int .i64 40]) ∧ Below W.heap.size W w') := Lib.hid fun W _ => spanL_b 20 40 W
      have H17 : Hid (∀ W, Ext2 w7 W → Calls Tryd.prog 36 #[.agg #[.slice s.r.a exS.rooms.length s.r.cap, .slice s.c.a exS.cans.length s.c.cap, .int .i64 exS.rlo, .int .i64 exS.rhi, .slice s.p.a exS.steps.length s.p.cap], .agg #[.int .i64 20, .int .i64 40], .int .i64 1, .int .i64 2] W fun e' w' => e' = .returned (.tuple #[.int .i64 10, .agg #[.int .i64 89, .int .i64 119], .int .i64 0]) ∧ Below W.heap.size W w') := Lib.hid fun W hW => knWt knO1 HSW.out HMW.out (ext_trans HEw7.out hW)
      refine join_key (C := fun (n : Nat) u => Ext2 w7 u ∧ u.heap[n]? = some (Obj.cells #[.int .i64 89, .int .i64 119] 25) ∧ w7.heap.size ≤ n) (Q := ?qq17) (A := ?ax17) (fun key => ?tr17) ?ke17
      case tr17 =>
        refine region_treeU (Ext2 w7) (.flt [0] (.two 1 (.two 2 (.flt [3, 4, 5, 6] (.one 7 (.one 8 (.one 9 (.one 10 .leaf))))) 7 (.one 2 (.flt [3, 4, 5, 6] (.one 8 (.one 9 (.one 10 .leaf)))))) 7 (.one 1 (.one 2 (.flt [3, 4, 5, 6] (.one 8 (.one 9 (.one 10 .leaf)))))))) (fun W h => h) (by kernel_rfl) (by kernel_rfl) (by intro c a d v w h; cases d <;> exact h) ?_
        intro u0 hE
        refine wpU_flt ?_
        simp only [picks, List.drop_succ_cons, List.drop_zero]
        repeat ((with_reducible refine wpQS_step (fun K hK => ?_)); go_simp; ((with_reducible refine hK _ ?_); clear hK K))
        (with_reducible refine wpQS_nil ?_)
        refine wpU_two ?pa17 ?pb17
        case' pa17 =>
          simp only [picks, List.drop_succ_cons, List.drop_zero]
          go_wp2_with (fail)
          refine (HSPX.out _ hE).mono ?_
          rintro e u1 ⟨rfl, hb_⟩
          replace hE := ext_trans hE hb_
          try replace hN := Ext2.blk hb_ hN
          clear hb_
          go_wp2_with (fail)
          refine ⟨hE, ?_⟩
          refine wpU_two ?qa17 ?qb17
          case' qa17 =>
            simp only [picks, List.drop_succ_cons, List.drop_zero]
            go_wp2_with (fail)
            refine (H17.out _ hE).mono ?_
            rintro e u2 ⟨rfl, hb_⟩
            replace hE := ext_trans hE hb_
            try replace hN := Ext2.blk hb_ hN
            clear hb_
            go_wp2_with (fail)
            refine ⟨hE, ?_⟩
            refine wpU_flt ?_
            simp only [picks, List.drop_succ_cons, List.drop_zero]
            repeat ((with_reducible refine wpQS_step (fun K hK => ?_)); go_simp; ((with_reducible refine hK _ ?_); clear hK K))
            (with_reducible refine wpQS_nil ?_)
            refine wpU_one ?_
            simp only [picks, List.drop_succ_cons, List.drop_zero]
            go_wp2_with (fail)
            refine andU_name (fun u3 hu_ => ?_)
            obtain ⟨n_, hn_⟩ : ∃ b, b = u2.heap.size := ⟨_, rfl⟩
            have hN : u3.heap[n_]? = some (Obj.cells #[.int .i64 0, .int .i64 0] 25) := by rw [hu_, hn_]; exact blk_new _ _
            have l_ : w7.heap.size ≤ n_ := by rw [hn_]; exact hE.size
            replace hE : Ext2 w7 u3 := by rw [hu_]; exact ext_trans hE (below_alloc' _ _)
            try replace hM := RowS.below hM (show Below u2.heap.size u2 u3 by rw [hu_]; exact below_alloc' _ _)
            rw [← hn_]
            clear hu_ hn_
            refine ⟨hE, ?_⟩
          case' qb17 =>
            simp only [picks, List.drop_succ_cons, List.drop_zero]
            go_wp2_with (fail)
            refine andU_name (fun u2 hu_ => ?_)
            obtain ⟨n_, hn_⟩ : ∃ b, b = u1.heap.size := ⟨_, rfl⟩
            have hN : u2.heap[n_]? = some (Obj.cells #[.int .i64 0, .int .i64 0] 25) := by rw [hu_, hn_]; exact blk_new _ _
            have l_ : w7.heap.size ≤ n_ := by rw [hn_]; exact hE.size
            replace hE : Ext2 w7 u2 := by rw [hu_]; exact ext_trans hE (below_alloc' _ _)
            try replace hM := RowS.below hM (show Below u1.heap.size u1 u2 by rw [hu_]; exact below_alloc' _ _)
            rw [← hn_]
            clear hu_ hn_
            refine ⟨hE, ?_⟩
            refine wpU_one ?_
            simp only [picks, List.drop_succ_cons, List.drop_zero]
            go_wp2_with (fail)
            refine (H17.out _ hE).mono ?_
            rintro e u3 ⟨rfl, hb_⟩
            replace hE := ext_trans hE hb_
            try replace hN := Ext2.blk hb_ hN
            clear hb_
            go_wp2_with (fail)
            refine ⟨hE, ?_⟩
            refine wpU_flt ?_
            simp only [picks, List.drop_succ_cons, List.drop_zero]
            repeat ((with_reducible refine wpQS_step (fun K hK => ?_)); go_simp; ((with_reducible refine hK _ ?_); clear hK K))
            (with_reducible refine wpQS_nil ?_)
        case' pb17 =>
          simp only [picks, List.drop_succ_cons, List.drop_zero]
          go_wp2_with (fail)
          refine andU_name (fun u1 hu_ => ?_)
          obtain ⟨n_, hn_⟩ : ∃ b, b = u0.heap.size := ⟨_, rfl⟩
          have hN : u1.heap[n_]? = some (Obj.cells #[.int .i64 0, .int .i64 0] 25) := by rw [hu_, hn_]; exact blk_new _ _
          have l_ : w7.heap.size ≤ n_ := by rw [hn_]; exact hE.size
          replace hE : Ext2 w7 u1 := by rw [hu_]; exact ext_trans hE (below_alloc' _ _)
          try replace hM := RowS.below hM (show Below u0.heap.size u0 u1 by rw [hu_]; exact below_alloc' _ _)
          rw [← hn_]
          clear hu_ hn_
          refine ⟨hE, ?_⟩
          refine wpU_one ?_
          simp only [picks, List.drop_succ_cons, List.drop_zero]
          go_wp2_with (fail)
          refine (HSPX.out _ hE).mono ?_
          rintro e u2 ⟨rfl, hb_⟩
          replace hE := ext_trans hE hb_
          try replace hN := Ext2.blk hb_ hN
          clear hb_
          go_wp2_with (fail)
          refine ⟨hE, ?_⟩
          refine wpU_one ?_
          simp only [picks, List.drop_succ_cons, List.drop_zero]
          go_wp2_with (fail)
          refine (H17.out _ hE).mono ?_
          rintro e u3 ⟨rfl, hb_⟩
          replace hE := ext_trans hE hb_
          try replace hN := Ext2.blk hb_ hN
          clear hb_
          go_wp2_with (fail)
          refine ⟨hE, ?_⟩
          refine wpU_flt ?_
          simp only [picks, List.drop_succ_cons, List.drop_zero]
          repeat ((with_reducible refine wpQS_step (fun K hK => ?_)); go_simp; ((with_reducible refine hK _ ?_); clear hK K))
          (with_reducible refine wpQS_nil ?_)
        all_goals
          refine wpU_one ?_
          simp only [picks, List.drop_succ_cons, List.drop_zero]
          go_wp2_with (fail)
          refine ⟨hE, ?_⟩
          refine wpU_one ?_
          have x_ := hN
          have q_c := cell_blk x_
          have q_f := frz_blk x_
          clear x_
          simp only [picks, List.drop_succ_cons, List.drop_zero]
          go_wp2_with (fail)
          refine andU_name (fun u4 hu_ => ?_)
          replace hN : u4.heap[n_]? = some (Obj.cells #[.int .i64 89, .int .i64 119] 25) := by rw [hu_]; exact Eq.trans (blk_set (blk_set hN 0 _) 1 _) rfl
          replace hE : Ext2 w7 u4 := by rw [hu_]; exact below_set (below_set hE l_) l_
          clear hu_ q_c q_f
          refine ⟨hE, ?_⟩
          refine wpU_one ?_
          simp only [picks, List.drop_succ_cons, List.drop_zero]
          go_wp2_with (fail)
          refine ⟨hE, ?_⟩
          refine wpU_leaf ?_
          exact key _ _ ⟨hE, hN, l_⟩
      rintro n21 w8 ⟨hE8, hN8, -⟩
      have hw8E := hE8
      clear hE8
      have HEw8 := Lib.hid (ext_trans HEw7.out hw8E)
      have Yn18w8 := Lib.hid (Ext2.blk hw8E Yn18w7.out)
      have Yn19w8 := Lib.hid (Ext2.blk hw8E Yn19w7.out)
      have Yn21w8 := Lib.hid hN8
      have x1 := Ext2.blk HEw8.out X1.out
      clear hw8E hN8 q1c q1f
      have q1c := cell_blk x1
      have q1f := frz_blk x1
      clear x1
      go_wp2_with (fail)
      clear HSPX H17
      have HSPX : Hid (∀ W, Ext2 w8 W → Calls Tryd.prog 35 #[.int .i64 20, .int .i64 40] W fun e w' => e = .returned (.agg #[.int .i64 20, .int .i64 40]) ∧ Below W.heap.size W w') := Lib.hid fun W _ => spanL_b 20 40 W
      have H18 : Hid (∀ W, Ext2 w8 W → Calls Tryd.prog 36 #[.agg #[.slice s.r.a exS.rooms.length s.r.cap, .slice s.c.a exS.cans.length s.c.cap, .int .i64 exS.rlo, .int .i64 exS.rhi, .slice s.p.a exS.steps.length s.p.cap], .agg #[.int .i64 20, .int .i64 40], .int .i64 0, .int .i64 1] W fun e' w' => e' = .returned (.tuple #[.int .i64 0, .agg #[.int .i64 20, .int .i64 40], .int .i64 0]) ∧ Below W.heap.size W w') := Lib.hid fun W hW => knWt knO2 HSW.out HMW.out (ext_trans HEw8.out hW)
      refine join_key (C := fun (n : Nat) u => Ext2 w8 u ∧ u.heap[n]? = some (Obj.cells #[.int .i64 20, .int .i64 40] 25) ∧ w8.heap.size ≤ n) (Q := ?qq18) (A := ?ax18) (fun key => ?tr18) ?ke18
      case tr18 =>
        refine region_treeU (Ext2 w8) (.flt [0] (.two 1 (.two 2 (.flt [3, 4, 5, 6] (.one 7 (.one 8 (.one 9 (.one 10 .leaf))))) 7 (.one 2 (.flt [3, 4, 5, 6] (.one 8 (.one 9 (.one 10 .leaf)))))) 7 (.one 1 (.one 2 (.flt [3, 4, 5, 6] (.one 8 (.one 9 (.one 10 .leaf)))))))) (fun W h => h) (by kernel_rfl) (by kernel_rfl) (by intro c a d v w h; cases d <;> exact h) ?_
        intro u0 hE
        refine wpU_flt ?_
        simp only [picks, List.drop_succ_cons, List.drop_zero]
        repeat ((with_reducible refine wpQS_step (fun K hK => ?_)); go_simp; ((with_reducible refine hK _ ?_); clear hK K))
        (with_reducible refine wpQS_nil ?_)
        refine wpU_two ?pa18 ?pb18
        case' pa18 =>
          simp only [picks, List.drop_succ_cons, List.drop_zero]
          go_wp2_with (fail)
          refine (HSPX.out _ hE).mono ?_
          rintro e u1 ⟨rfl, hb_⟩
          replace hE := ext_trans hE hb_
          try replace hN := Ext2.blk hb_ hN
          clear hb_
          go_wp2_with (fail)
          refine ⟨hE, ?_⟩
          refine wpU_two ?qa18 ?qb18
          case' qa18 =>
            simp only [picks, List.drop_succ_cons, List.drop_zero]
            go_wp2_with (fail)
            refine (H18.out _ hE).mono ?_
            rintro e u2 ⟨rfl, hb_⟩
            replace hE := ext_trans hE hb_
            try replace hN := Ext2.blk hb_ hN
            clear hb_
            go_wp2_with (fail)
            refine ⟨hE, ?_⟩
            refine wpU_flt ?_
            simp only [picks, List.drop_succ_cons, List.drop_zero]
            repeat ((with_reducible refine wpQS_step (fun K hK => ?_)); go_simp; ((with_reducible refine hK _ ?_); clear hK K))
            (with_reducible refine wpQS_nil ?_)
            refine wpU_one ?_
            simp only [picks, List.drop_succ_cons, List.drop_zero]
            go_wp2_with (fail)
            refine andU_name (fun u3 hu_ => ?_)
            obtain ⟨n_, hn_⟩ : ∃ b, b = u2.heap.size := ⟨_, rfl⟩
            have hN : u3.heap[n_]? = some (Obj.cells #[.int .i64 0, .int .i64 0] 25) := by rw [hu_, hn_]; exact blk_new _ _
            have l_ : w8.heap.size ≤ n_ := by rw [hn_]; exact hE.size
            replace hE : Ext2 w8 u3 := by rw [hu_]; exact ext_trans hE (below_alloc' _ _)
            try replace hM := RowS.below hM (show Below u2.heap.size u2 u3 by rw [hu_]; exact below_alloc' _ _)
            rw [← hn_]
            clear hu_ hn_
            refine ⟨hE, ?_⟩
          case' qb18 =>
            simp only [picks, List.drop_succ_cons, List.drop_zero]
            go_wp2_with (fail)
            refine andU_name (fun u2 hu_ => ?_)
            obtain ⟨n_, hn_⟩ : ∃ b, b = u1.heap.size := ⟨_, rfl⟩
            have hN : u2.heap[n_]? = some (Obj.cells #[.int .i64 0, .int .i64 0] 25) := by rw [hu_, hn_]; exact blk_new _ _
            have l_ : w8.heap.size ≤ n_ := by rw [hn_]; exact hE.size
            replace hE : Ext2 w8 u2 := by rw [hu_]; exact ext_trans hE (below_alloc' _ _)
            try replace hM := RowS.below hM (show Below u1.heap.size u1 u2 by rw [hu_]; exact below_alloc' _ _)
            rw [← hn_]
            clear hu_ hn_
            refine ⟨hE, ?_⟩
            refine wpU_one ?_
            simp only [picks, List.drop_succ_cons, List.drop_zero]
            go_wp2_with (fail)
            refine (H18.out _ hE).mono ?_
            rintro e u3 ⟨rfl, hb_⟩
            replace hE := ext_trans hE hb_
            try replace hN := Ext2.blk hb_ hN
            clear hb_
            go_wp2_with (fail)
            refine ⟨hE, ?_⟩
            refine wpU_flt ?_
            simp only [picks, List.drop_succ_cons, List.drop_zero]
            repeat ((with_reducible refine wpQS_step (fun K hK => ?_)); go_simp; ((with_reducible refine hK _ ?_); clear hK K))
            (with_reducible refine wpQS_nil ?_)
        case' pb18 =>
          simp only [picks, List.drop_succ_cons, List.drop_zero]
          go_wp2_with (fail)
          refine andU_name (fun u1 hu_ => ?_)
          obtain ⟨n_, hn_⟩ : ∃ b, b = u0.heap.size := ⟨_, rfl⟩
          have hN : u1.heap[n_]? = some (Obj.cells #[.int .i64 0, .int .i64 0] 25) := by rw [hu_, hn_]; exact blk_new _ _
          have l_ : w8.heap.size ≤ n_ := by rw [hn_]; exact hE.size
          replace hE : Ext2 w8 u1 := by rw [hu_]; exact ext_trans hE (below_alloc' _ _)
          try replace hM := RowS.below hM (show Below u0.heap.size u0 u1 by rw [hu_]; exact below_alloc' _ _)
          rw [← hn_]
          clear hu_ hn_
          refine ⟨hE, ?_⟩
          refine wpU_one ?_
          simp only [picks, List.drop_succ_cons, List.drop_zero]
          go_wp2_with (fail)
          refine (HSPX.out _ hE).mono ?_
          rintro e u2 ⟨rfl, hb_⟩
          replace hE := ext_trans hE hb_
          try replace hN := Ext2.blk hb_ hN
          clear hb_
          go_wp2_with (fail)
          refine ⟨hE, ?_⟩
          refine wpU_one ?_
          simp only [picks, List.drop_succ_cons, List.drop_zero]
          go_wp2_with (fail)
          refine (H18.out _ hE).mono ?_
          rintro e u3 ⟨rfl, hb_⟩
          replace hE := ext_trans hE hb_
          try replace hN := Ext2.blk hb_ hN
          clear hb_
          go_wp2_with (fail)
          refine ⟨hE, ?_⟩
          refine wpU_flt ?_
          simp only [picks, List.drop_succ_cons, List.drop_zero]
          repeat ((with_reducible refine wpQS_step (fun K hK => ?_)); go_simp; ((with_reducible refine hK _ ?_); clear hK K))
          (with_reducible refine wpQS_nil ?_)
        all_goals
          refine wpU_one ?_
          simp only [picks, List.drop_succ_cons, List.drop_zero]
          go_wp2_with (fail)
          refine ⟨hE, ?_⟩
          refine wpU_one ?_
          have x_ := hN
          have q_c := cell_blk x_
          have q_f := frz_blk x_
          clear x_
          simp only [picks, List.drop_succ_cons, List.drop_zero]
          go_wp2_with (fail)
          refine andU_name (fun u4 hu_ => ?_)
          replace hN : u4.heap[n_]? = some (Obj.cells #[.int .i64 20, .int .i64 40] 25) := by rw [hu_]; exact Eq.trans (blk_set (blk_set hN 0 _) 1 _) rfl
          replace hE : Ext2 w8 u4 := by rw [hu_]; exact below_set (below_set hE l_) l_
          clear hu_ q_c q_f
          refine ⟨hE, ?_⟩
          refine wpU_one ?_
          simp only [picks, List.drop_succ_cons, List.drop_zero]
          go_wp2_with (fail)
          refine ⟨hE, ?_⟩
          refine wpU_leaf ?_
          exact key _ _ ⟨hE, hN, l_⟩
      rintro n23 w9 ⟨hw9E, hN9, -⟩
      have HEw9 := Lib.hid (ext_trans HEw8.out hw9E)
      have Yn18w9 := Lib.hid (Ext2.blk hw9E Yn18w8.out)
      have Yn19w9 := Lib.hid (Ext2.blk hw9E Yn19w8.out)
      have Yn21w9 := Lib.hid (Ext2.blk hw9E Yn21w8.out)
      have Yn23w9 := Lib.hid hN9
      have x1 := Ext2.blk HEw9.out X1.out
      clear hw9E hN9 q1c q1f
      have q1c := cell_blk x1
      have q1f := frz_blk x1
      clear x1
      go_wp2_with (fail)
      clear HSPX H18
      have HSPX : Hid (∀ W, Ext2 w9 W → Calls Tryd.prog 35 #[.int .i64 20, .int .i64 40] W fun e w' => e = .returned (.agg #[.int .i64 20, .int .i64 40]) ∧ Below W.heap.size W w') := Lib.hid fun W _ => spanL_b 20 40 W
      have H19 : Hid (∀ W, Ext2 w9 W → Calls Tryd.prog 36 #[.agg #[.slice s.r.a exS.rooms.length s.r.cap, .slice s.c.a exS.cans.length s.c.cap, .int .i64 exS.rlo, .int .i64 exS.rhi, .slice s.p.a exS.steps.length s.p.cap], .agg #[.int .i64 20, .int .i64 40], .int .i64 0, .int .i64 2] W fun e' w' => e' = .returned (.tuple #[.int .i64 0, .agg #[.int .i64 0, .int .i64 0], .int .i64 9]) ∧ Below W.heap.size W w') := Lib.hid fun W hW => knWt knO3 HSW.out HMW.out (ext_trans HEw9.out hW)
      refine join_key (C := fun (n : Nat) u => Ext2 w9 u ∧ u.heap[n]? = some (Obj.cells #[.int .i64 0, .int .i64 0] 25) ∧ w9.heap.size ≤ n) (Q := ?qq19) (A := ?ax19) (fun key => ?tr19) ?ke19
      case tr19 =>
        refine region_treeU (Ext2 w9) (.flt [0] (.two 1 (.two 2 (.flt [3, 4, 5, 6] (.one 7 (.one 8 (.one 9 (.one 10 .leaf))))) 7 (.one 2 (.flt [3, 4, 5, 6] (.one 8 (.one 9 (.one 10 .leaf)))))) 7 (.one 1 (.one 2 (.flt [3, 4, 5, 6] (.one 8 (.one 9 (.one 10 .leaf)))))))) (fun W h => h) (by kernel_rfl) (by kernel_rfl) (by intro c a d v w h; cases d <;> exact h) ?_
        intro u0 hE
        refine wpU_flt ?_
        simp only [picks, List.drop_succ_cons, List.drop_zero]
        repeat ((with_reducible refine wpQS_step (fun K hK => ?_)); go_simp; ((with_reducible refine hK _ ?_); clear hK K))
        (with_reducible refine wpQS_nil ?_)
        refine wpU_two ?pa19 ?pb19
        case' pa19 =>
          simp only [picks, List.drop_succ_cons, List.drop_zero]
          go_wp2_with (fail)
          refine (HSPX.out _ hE).mono ?_
          rintro e u1 ⟨rfl, hb_⟩
          replace hE := ext_trans hE hb_
          try replace hN := Ext2.blk hb_ hN
          clear hb_
          go_wp2_with (fail)
          refine ⟨hE, ?_⟩
          refine wpU_two ?qa19 ?qb19
          case' qa19 =>
            simp only [picks, List.drop_succ_cons, List.drop_zero]
            go_wp2_with (fail)
            refine (H19.out _ hE).mono ?_
            rintro e u2 ⟨rfl, hb_⟩
            replace hE := ext_trans hE hb_
            try replace hN := Ext2.blk hb_ hN
            clear hb_
            go_wp2_with (fail)
            refine ⟨hE, ?_⟩
            refine wpU_flt ?_
            simp only [picks, List.drop_succ_cons, List.drop_zero]
            repeat ((with_reducible refine wpQS_step (fun K hK => ?_)); go_simp; ((with_reducible refine hK _ ?_); clear hK K))
            (with_reducible refine wpQS_nil ?_)
            refine wpU_one ?_
            simp only [picks, List.drop_succ_cons, List.drop_zero]
            go_wp2_with (fail)
            refine andU_name (fun u3 hu_ => ?_)
            obtain ⟨n_, hn_⟩ : ∃ b, b = u2.heap.size := ⟨_, rfl⟩
            have hN : u3.heap[n_]? = some (Obj.cells #[.int .i64 0, .int .i64 0] 25) := by rw [hu_, hn_]; exact blk_new _ _
            have l_ : w9.heap.size ≤ n_ := by rw [hn_]; exact hE.size
            replace hE : Ext2 w9 u3 := by rw [hu_]; exact ext_trans hE (below_alloc' _ _)
            try replace hM := RowS.below hM (show Below u2.heap.size u2 u3 by rw [hu_]; exact below_alloc' _ _)
            rw [← hn_]
            clear hu_ hn_
            refine ⟨hE, ?_⟩
          case' qb19 =>
            simp only [picks, List.drop_succ_cons, List.drop_zero]
            go_wp2_with (fail)
            refine andU_name (fun u2 hu_ => ?_)
            obtain ⟨n_, hn_⟩ : ∃ b, b = u1.heap.size := ⟨_, rfl⟩
            have hN : u2.heap[n_]? = some (Obj.cells #[.int .i64 0, .int .i64 0] 25) := by rw [hu_, hn_]; exact blk_new _ _
            have l_ : w9.heap.size ≤ n_ := by rw [hn_]; exact hE.size
            replace hE : Ext2 w9 u2 := by rw [hu_]; exact ext_trans hE (below_alloc' _ _)
            try replace hM := RowS.below hM (show Below u1.heap.size u1 u2 by rw [hu_]; exact below_alloc' _ _)
            rw [← hn_]
            clear hu_ hn_
            refine ⟨hE, ?_⟩
            refine wpU_one ?_
            simp only [picks, List.drop_succ_cons, List.drop_zero]
            go_wp2_with (fail)
            refine (H19.out _ hE).mono ?_
            rintro e u3 ⟨rfl, hb_⟩
            replace hE := ext_trans hE hb_
            try replace hN := Ext2.blk hb_ hN
            clear hb_
            go_wp2_with (fail)
            refine ⟨hE, ?_⟩
            refine wpU_flt ?_
            simp only [picks, List.drop_succ_cons, List.drop_zero]
            repeat ((with_reducible refine wpQS_step (fun K hK => ?_)); go_simp; ((with_reducible refine hK _ ?_); clear hK K))
            (with_reducible refine wpQS_nil ?_)
        case' pb19 =>
          simp only [picks, List.drop_succ_cons, List.drop_zero]
          go_wp2_with (fail)
          refine andU_name (fun u1 hu_ => ?_)
          obtain ⟨n_, hn_⟩ : ∃ b, b = u0.heap.size := ⟨_, rfl⟩
          have hN : u1.heap[n_]? = some (Obj.cells #[.int .i64 0, .int .i64 0] 25) := by rw [hu_, hn_]; exact blk_new _ _
          have l_ : w9.heap.size ≤ n_ := by rw [hn_]; exact hE.size
          replace hE : Ext2 w9 u1 := by rw [hu_]; exact ext_trans hE (below_alloc' _ _)
          try replace hM := RowS.below hM (show Below u0.heap.size u0 u1 by rw [hu_]; exact below_alloc' _ _)
          rw [← hn_]
          clear hu_ hn_
          refine ⟨hE, ?_⟩
          refine wpU_one ?_
          simp only [picks, List.drop_succ_cons, List.drop_zero]
          go_wp2_with (fail)
          refine (HSPX.out _ hE).mono ?_
          rintro e u2 ⟨rfl, hb_⟩
          replace hE := ext_trans hE hb_
          try replace hN := Ext2.blk hb_ hN
          clear hb_
          go_wp2_with (fail)
          refine ⟨hE, ?_⟩
          refine wpU_one ?_
          simp only [picks, List.drop_succ_cons, List.drop_zero]
          go_wp2_with (fail)
          refine (H19.out _ hE).mono ?_
          rintro e u3 ⟨rfl, hb_⟩
          replace hE := ext_trans hE hb_
          try replace hN := Ext2.blk hb_ hN
          clear hb_
          go_wp2_with (fail)
          refine ⟨hE, ?_⟩
          refine wpU_flt ?_
          simp only [picks, List.drop_succ_cons, List.drop_zero]
          repeat ((with_reducible refine wpQS_step (fun K hK => ?_)); go_simp; ((with_reducible refine hK _ ?_); clear hK K))
          (with_reducible refine wpQS_nil ?_)
        all_goals
          refine wpU_one ?_
          simp only [picks, List.drop_succ_cons, List.drop_zero]
          go_wp2_with (fail)
          refine ⟨hE, ?_⟩
          refine wpU_one ?_
          have x_ := hN
          have q_c := cell_blk x_
          have q_f := frz_blk x_
          clear x_
          simp only [picks, List.drop_succ_cons, List.drop_zero]
          go_wp2_with (fail)
          refine andU_name (fun u4 hu_ => ?_)
          replace hN : u4.heap[n_]? = some (Obj.cells #[.int .i64 0, .int .i64 0] 25) := by rw [hu_]; exact Eq.trans (blk_set (blk_set hN 0 _) 1 _) rfl
          replace hE : Ext2 w9 u4 := by rw [hu_]; exact below_set (below_set hE l_) l_
          clear hu_ q_c q_f
          refine ⟨hE, ?_⟩
          refine wpU_one ?_
          simp only [picks, List.drop_succ_cons, List.drop_zero]
          go_wp2_with (fail)
          refine ⟨hE, ?_⟩
          refine wpU_leaf ?_
          exact key _ _ ⟨hE, hN, l_⟩
      rintro n25 w10 ⟨hw10E, hN10, -⟩
      have HEw10 := Lib.hid (ext_trans HEw9.out hw10E)
      have Yn18w10 := Lib.hid (Ext2.blk hw10E Yn18w9.out)
      have Yn19w10 := Lib.hid (Ext2.blk hw10E Yn19w9.out)
      have Yn21w10 := Lib.hid (Ext2.blk hw10E Yn21w9.out)
      have Yn25w10 := Lib.hid hN10
      have x1 := Ext2.blk HEw10.out X1.out
      clear hw10E hN10 q1c q1f
      have q1c := cell_blk x1
      have q1f := frz_blk x1
      clear x1
      go_wp2_with (fail)
      clear HSPX H19
      have y18 := Yn18w10.out; have y19 := Yn19w10.out; have y21 := Yn21w10.out
      have q18c := cell_blk y18
      have q18f := frz_blk y18
      have q19c := cell_blk y19
      have q19f := frz_blk y19
      have q21c := cell_blk y21
      have q21f := frz_blk y21
      clear y18 y19 y21
      refine region_ev [] [0, 1, 2, 3, 4, 5, 6, 7, 8, 9, 10, 11, 12, 13, 14, 15, 16, 17, 18, 19, 20, 21, 22, 23, 24, 25, 26, 27, 28, 29, 30, 31, 32, 33, 34, 35, 36, 37, 38, 39, 40] [] [] (by kernel_rfl) (by kernel_rfl) (by intro c a d v w h; cases d <;> exact h) ?_
      simp only [picks, List.drop_succ_cons, List.drop_zero]
      repeat (refine wpQ0_step (fun K hK => ?_); go_simp; (refine hK _ ?_; clear hK K))
      refine wpQ0_nil ?_
      repeat ((with_reducible refine wpQ2_step (fun K hK => ?_)); go_simp; first | ((with_reducible refine hK _ ?_); clear hK K) | (refine ite_undef (fun h => (by have h_ : (none : Option Bool) = some _ := h; cases h_)) ?_; (with_reducible refine hK _ ?_); clear hK K) | (apply Exists.intro; refine ⟨fun x => ?_, hK _ ?_⟩; (first | (with_reducible exact HSP.out _ _ x.1)); clear hK K))
      (with_reducible refine wpQ2_nil ?_)
      refine Events.none_ fun w11 hw11E => ?_
      simp only [picks, List.drop_succ_cons, List.drop_zero]
      clear q18c q18f q19c q19f q21c q21f
      have HEw11 := Lib.hid (ext_trans HEw10.out hw11E)
      have x1 := Ext2.blk HEw11.out X1.out
      clear hw11E  q1c q1f
      have q1c := cell_blk x1
      have q1f := frz_blk x1
      clear x1
      go_wp2_with (fail)
      refine calls_name ?_
      intro w12 hw12
      obtain ⟨bp, hbp⟩ : ∃ b, b = w11.heap.size := ⟨_, rfl⟩
      have hEp : Ext2 w11 w12 := by rw [hw12]; exact below_alloc' _ _
      have np : w12.heap[bp]? = some (.cells #[.int .i64 0, .int .i64 1] 3 (0, 0)) := by rw [hw12, hbp]; exact blk_new _ _
      have HEw12 := Lib.hid (ext_trans HEw11.out hEp)
      rw [← hbp]
      have h := nearA_any (sl := ⟨some ⟨bp, 0, none⟩, 2⟩) (wh := [0, 1]) (HSW.out.below HEw12.out) (ints_two np) (HMW.out.below HEw12.out)
      refine h.mono ?_
      clear h
      rintro e w13 ⟨vp, rfl, hOp, hbb⟩
      rw [knN1.1, if_pos rfl, knN1.2] at hOp
      rw [knN1.1]
      obtain ⟨⟨vap, vcp⟩, rfl, hRp⟩ := own_rowK hOp
      have HRp := Lib.hid hRp
      have HEw13 := Lib.hid (ext_trans HEw12.out hbb)
      have HXw13 := Lib.hid (ext_trans hEp hbb)
      have x1 := Ext2.blk HEw13.out X1.out
      clear hw12 hbp np hOp hRp hEp hbb q1c q1f
      have q1c := cell_blk x1
      have q1f := frz_blk x1
      clear x1
      go_wp2_with (fail)
      refine calls_name ?_
      intro w14 hw14
      obtain ⟨bq, hbq⟩ : ∃ b, b = w13.heap.size := ⟨_, rfl⟩
      have hEq : Ext2 w13 w14 := by rw [hw14]; exact below_alloc' _ _
      have nq : w14.heap[bq]? = some (.cells #[.int .i64 1, .int .i64 1] 3 (0, 0)) := by rw [hw14, hbq]; exact blk_new _ _
      have HEw14 := Lib.hid (ext_trans HEw13.out hEq)
      rw [← hbq]
      have h := nearA_any (sl := ⟨some ⟨bq, 0, none⟩, 2⟩) (wh := [1, 1]) (HSW.out.below HEw14.out) (ints_two nq) (HMW.out.below HEw14.out)
      refine h.mono ?_
      clear h
      rintro e w15 ⟨vq, rfl, hOq, hbb⟩
      rw [knN2.1, if_pos rfl, knN2.2] at hOq
      rw [knN2.1]
      obtain ⟨⟨vaq, vcq⟩, rfl, hRq⟩ := own_rowK hOq
      have HRq := Lib.hid hRq
      have HEw15 := Lib.hid (ext_trans HEw14.out hbb)
      have HXw15 := Lib.hid (ext_trans hEq hbb)
      have x1 := Ext2.blk HEw15.out X1.out
      clear hw14 hbq nq hOq hRq hEq hbb q1c q1f
      have q1c := cell_blk x1
      have q1f := frz_blk x1
      clear x1
      go_wp2_with (fail)
      refine calls_name ?_
      intro w16 hw16
      obtain ⟨br, hbr⟩ : ∃ b, b = w15.heap.size := ⟨_, rfl⟩
      have hEr : Ext2 w15 w16 := by rw [hw16]; exact below_alloc' _ _
      have nr : w16.heap[br]? = some (.cells #[.int .i64 1, .int .i64 2] 99 (0, 0)) := by rw [hw16, hbr]; exact blk_new _ _
      rw [← hbr]
      have hRr : RowS w16 ⟨some ⟨br, 0, none⟩, 1⟩ 2 [(⟨1, 2⟩ : Nr)].length (nrC [⟨1, 2⟩]) := rows_blk nr (by decide) (fun i j hi hj => by
        obtain rfl : i = 0 := by have : i < 1 := hi; omega
        rcases (by omega : j = 0 ∨ j = 1) with rfl | rfl <;> rfl)
      have h := nrs_any (RowS.below HRq.out hEr) hRr
      refine h.mono ?_
      clear h
      rintro e w17 ⟨rfl, hb17⟩
      simp only [decide_true]
      have HEw17 := Lib.hid (ext_trans HEw15.out (ext_trans hEr hb17))
      have x1 := Ext2.blk HEw17.out X1.out
      clear hw16 hbr nr hRr hEr hb17 q1c q1f
      have q1c := cell_blk x1
      have q1f := frz_blk x1
      clear x1
      go_wp2_with (fail)
      refine region_treeU (Ext2 w17) (.flt [0] (.one 1 (.one 2 (.flt [3, 4, 5, 6, 7] .leaf)))) (fun W h => h) (by kernel_rfl) (by kernel_rfl) (by intro c a d v w h; cases d <;> exact h) ?_
      intro u0 hE
      refine wpU_flt ?_
      simp only [picks, List.drop_succ_cons, List.drop_zero]
      repeat ((with_reducible refine wpQS_step (fun K hK => ?_)); go_simp; ((with_reducible refine hK _ ?_); clear hK K))
      (with_reducible refine wpQS_nil ?_)
      refine wpU_one ?_
      simp only [picks, List.drop_succ_cons, List.drop_zero]
      go_wp2_with (fail)
      refine (movesL_any _).mono ?_
      rintro e u1 ⟨⟨sm, rfl, hM⟩, hb1⟩
      have hE1 := ext_trans hE hb1
      clear hE hb1
      go_wp2_with (fail)
      refine ⟨hE1, wpU_one ?_⟩
      simp only [picks, List.drop_succ_cons, List.drop_zero]
      go_wp2_with (fail)
      refine (knWh knH1.1 knH1.2 (HSW.out.below (ext_trans HEw17.out hE1)) hM (HMW.out.below (ext_trans HEw17.out hE1))).mono ?_
      rintro e w18 ⟨sA, rfl, hI, hb2⟩
      have hE2 := ext_trans hE1 hb2
      clear hb2 hM hE1
      go_wp2_with (fail)
      refine ⟨hE2, ?_⟩
      refine wpU_flt ?_
      simp only [picks, List.drop_succ_cons, List.drop_zero]
      repeat ((with_reducible refine wpQS_step (fun K hK => ?_)); go_simp; ((with_reducible refine hK _ ?_); clear hK K))
      (with_reducible refine wpQS_nil ?_)
      refine wpU_leaf ?_
      have HEw18 := Lib.hid (ext_trans HEw17.out hE2)
      have HXw18 := Lib.hid hE2
      have HIw18 := Lib.hid hI
      have x1 := Ext2.blk HEw18.out X1.out
      clear hE2 hI q1c q1f
      have q1c := cell_blk x1
      have q1f := frz_blk x1
      clear x1
      go_wp2_with (fail)
      refine region_treeU (Ext2 w18) (.flt [0] (.one 1 (.one 2 (.flt [3, 4, 5, 6, 7] .leaf)))) (fun W h => h) (by kernel_rfl) (by kernel_rfl) (by intro c a d v w h; cases d <;> exact h) ?_
      intro u0 hE
      refine wpU_flt ?_
      simp only [picks, List.drop_succ_cons, List.drop_zero]
      repeat ((with_reducible refine wpQS_step (fun K hK => ?_)); go_simp; ((with_reducible refine hK _ ?_); clear hK K))
      (with_reducible refine wpQS_nil ?_)
      refine wpU_one ?_
      simp only [picks, List.drop_succ_cons, List.drop_zero]
      go_wp2_with (fail)
      refine (movesL_any _).mono ?_
      rintro e u1 ⟨⟨sm, rfl, hM⟩, hb1⟩
      have hE1 := ext_trans hE hb1
      clear hE hb1
      go_wp2_with (fail)
      refine ⟨hE1, wpU_one ?_⟩
      simp only [picks, List.drop_succ_cons, List.drop_zero]
      go_wp2_with (fail)
      refine (knWh knH2.1 knH2.2 (HSW.out.below (ext_trans HEw18.out hE1)) hM (HMW.out.below (ext_trans HEw18.out hE1))).mono ?_
      rintro e w19 ⟨sB, rfl, hI, hb2⟩
      have hE2 := ext_trans hE1 hb2
      clear hb2 hM hE1
      go_wp2_with (fail)
      refine ⟨hE2, ?_⟩
      refine wpU_flt ?_
      simp only [picks, List.drop_succ_cons, List.drop_zero]
      repeat ((with_reducible refine wpQS_step (fun K hK => ?_)); go_simp; ((with_reducible refine hK _ ?_); clear hK K))
      (with_reducible refine wpQS_nil ?_)
      refine wpU_leaf ?_
      have HEw19 := Lib.hid (ext_trans HEw18.out hE2)
      have HXw19 := Lib.hid hE2
      have HIw19 := Lib.hid hI
      have x1 := Ext2.blk HEw19.out X1.out
      clear hE2 hI q1c q1f
      have q1c := cell_blk x1
      have q1f := frz_blk x1
      clear x1
      go_wp2_with (fail)
      refine join_key2 (C := fun (n : Nat) (sm : Sl) u => Ext2 w19 u ∧ u.heap[n]? = some (Obj.cells #[.int .i64 184, .int .i64 218] 25) ∧ w19.heap.size ≤ n) (Q := ?qq28) (A := ?ax28) (fun key => ?tr28) ?ke28
      case tr28 =>
        refine region_treeU (Ext2 w19) (.flt [0] (.two 1 (.two 2 (.flt [3, 4, 5] (.one 6 (.one 7 (.one 8 .leaf)))) 6 (.one 2 (.flt [3, 4, 5] (.one 7 (.one 8 .leaf))))) 6 (.one 1 (.one 2 (.flt [3, 4, 5] (.one 7 (.one 8 .leaf))))))) (fun W h => h) (by kernel_rfl) (by kernel_rfl) (by intro c a d v w h; cases d <;> exact h) ?_
        intro u0 hE
        refine wpU_flt ?_
        simp only [picks, List.drop_succ_cons, List.drop_zero]
        repeat ((with_reducible refine wpQS_step (fun K hK => ?_)); go_simp; ((with_reducible refine hK _ ?_); clear hK K))
        (with_reducible refine wpQS_nil ?_)
        refine wpU_two ?pa28 ?pb28
        case' pa28 =>
          simp only [picks, List.drop_succ_cons, List.drop_zero]
          go_wp2_with (fail)
          refine (movesL_any _).mono ?_
          rintro e u1 ⟨⟨sm, rfl, hM⟩, hb_⟩
          replace hE := ext_trans hE hb_
          try replace hN := Ext2.blk hb_ hN
          clear hb_
          go_wp2_with (fail)
          refine ⟨hE, ?_⟩
          refine wpU_two ?qa28 ?qb28
          case' qa28 =>
            simp only [picks, List.drop_succ_cons, List.drop_zero]
            go_wp2_with (fail)
            refine (knTp (HSW.out.below (ext_trans HEw19.out hE)) hM (HMW.out.below (ext_trans HEw19.out hE))).mono ?_
            rintro e u2 ⟨rfl, hb_⟩
            replace hE := ext_trans hE hb_
            try replace hN := Ext2.blk hb_ hN
            clear hb_
            go_wp2_with (fail)
            refine ⟨hE, ?_⟩
            refine wpU_flt ?_
            simp only [picks, List.drop_succ_cons, List.drop_zero]
            repeat ((with_reducible refine wpQS_step (fun K hK => ?_)); go_simp; ((with_reducible refine hK _ ?_); clear hK K))
            (with_reducible refine wpQS_nil ?_)
            refine wpU_one ?_
            simp only [picks, List.drop_succ_cons, List.drop_zero]
            go_wp2_with (fail)
            refine andU_name (fun u3 hu_ => ?_)
            obtain ⟨n_, hn_⟩ : ∃ b, b = u2.heap.size := ⟨_, rfl⟩
            have hN : u3.heap[n_]? = some (Obj.cells #[.int .i64 0, .int .i64 0] 25) := by rw [hu_, hn_]; exact blk_new _ _
            have l_ : w19.heap.size ≤ n_ := by rw [hn_]; exact hE.size
            replace hE : Ext2 w19 u3 := by rw [hu_]; exact ext_trans hE (below_alloc' _ _)
            try replace hM := RowS.below hM (show Below u2.heap.size u2 u3 by rw [hu_]; exact below_alloc' _ _)
            rw [← hn_]
            clear hu_ hn_
            refine ⟨hE, ?_⟩
          case' qb28 =>
            simp only [picks, List.drop_succ_cons, List.drop_zero]
            go_wp2_with (fail)
            refine andU_name (fun u2 hu_ => ?_)
            obtain ⟨n_, hn_⟩ : ∃ b, b = u1.heap.size := ⟨_, rfl⟩
            have hN : u2.heap[n_]? = some (Obj.cells #[.int .i64 0, .int .i64 0] 25) := by rw [hu_, hn_]; exact blk_new _ _
            have l_ : w19.heap.size ≤ n_ := by rw [hn_]; exact hE.size
            replace hE : Ext2 w19 u2 := by rw [hu_]; exact ext_trans hE (below_alloc' _ _)
            try replace hM := RowS.below hM (show Below u1.heap.size u1 u2 by rw [hu_]; exact below_alloc' _ _)
            rw [← hn_]
            clear hu_ hn_
            refine ⟨hE, ?_⟩
            refine wpU_one ?_
            simp only [picks, List.drop_succ_cons, List.drop_zero]
            go_wp2_with (fail)
            refine (knTp (HSW.out.below (ext_trans HEw19.out hE)) hM (HMW.out.below (ext_trans HEw19.out hE))).mono ?_
            rintro e u3 ⟨rfl, hb_⟩
            replace hE := ext_trans hE hb_
            try replace hN := Ext2.blk hb_ hN
            clear hb_
            go_wp2_with (fail)
            refine ⟨hE, ?_⟩
            refine wpU_flt ?_
            simp only [picks, List.drop_succ_cons, List.drop_zero]
            repeat ((with_reducible refine wpQS_step (fun K hK => ?_)); go_simp; ((with_reducible refine hK _ ?_); clear hK K))
            (with_reducible refine wpQS_nil ?_)
        case' pb28 =>
          simp only [picks, List.drop_succ_cons, List.drop_zero]
          go_wp2_with (fail)
          refine andU_name (fun u1 hu_ => ?_)
          obtain ⟨n_, hn_⟩ : ∃ b, b = u0.heap.size := ⟨_, rfl⟩
          have hN : u1.heap[n_]? = some (Obj.cells #[.int .i64 0, .int .i64 0] 25) := by rw [hu_, hn_]; exact blk_new _ _
          have l_ : w19.heap.size ≤ n_ := by rw [hn_]; exact hE.size
          replace hE : Ext2 w19 u1 := by rw [hu_]; exact ext_trans hE (below_alloc' _ _)
          try replace hM := RowS.below hM (show Below u0.heap.size u0 u1 by rw [hu_]; exact below_alloc' _ _)
          rw [← hn_]
          clear hu_ hn_
          refine ⟨hE, ?_⟩
          refine wpU_one ?_
          simp only [picks, List.drop_succ_cons, List.drop_zero]
          go_wp2_with (fail)
          refine (movesL_any _).mono ?_
          rintro e u2 ⟨⟨sm, rfl, hM⟩, hb_⟩
          replace hE := ext_trans hE hb_
          try replace hN := Ext2.blk hb_ hN
          clear hb_
          go_wp2_with (fail)
          refine ⟨hE, ?_⟩
          refine wpU_one ?_
          simp only [picks, List.drop_succ_cons, List.drop_zero]
          go_wp2_with (fail)
          refine (knTp (HSW.out.below (ext_trans HEw19.out hE)) hM (HMW.out.below (ext_trans HEw19.out hE))).mono ?_
          rintro e u3 ⟨rfl, hb_⟩
          replace hE := ext_trans hE hb_
          try replace hN := Ext2.blk hb_ hN
          clear hb_
          go_wp2_with (fail)
          refine ⟨hE, ?_⟩
          refine wpU_flt ?_
          simp only [picks, List.drop_succ_cons, List.drop_zero]
          repeat ((with_reducible refine wpQS_step (fun K hK => ?_)); go_simp; ((with_reducible refine hK _ ?_); clear hK K))
          (with_reducible refine wpQS_nil ?_)
        all_goals
          refine wpU_one ?_
          have x_ := hN
          have q_c := cell_blk x_
          have q_f := frz_blk x_
          clear x_
          simp only [picks, List.drop_succ_cons, List.drop_zero]
          go_wp2_with (fail)
          refine andU_name (fun u4 hu_ => ?_)
          replace hN : u4.heap[n_]? = some (Obj.cells #[.int .i64 184, .int .i64 218] 25) := by rw [hu_]; exact Eq.trans (blk_set (blk_set hN 0 _) 1 _) rfl
          replace hE : Ext2 w19 u4 := by rw [hu_]; exact below_set (below_set hE l_) l_
          clear hu_ q_c q_f
          refine ⟨hE, ?_⟩
          refine wpU_one ?_
          simp only [picks, List.drop_succ_cons, List.drop_zero]
          go_wp2_with (fail)
          refine ⟨hE, ?_⟩
          refine wpU_leaf ?_
          exact key n_ sm _ ⟨hE, hN, l_⟩
      rintro n31 sm w20 ⟨hE20, hN20, -⟩
      have HIA := Lib.hid (RowS.below HIw18.out (ext_trans HXw19.out hE20))
      have HIB := Lib.hid (RowS.below HIw19.out hE20)
      have HEw20 := Lib.hid (ext_trans HEw19.out hE20)
      have Y31 := Lib.hid hN20
      clear hE20 hN20 q1c q1f
      go_wp2_with (fail)
      have HAW : Hid (∀ W, Ext2 w1 W → Calls Tryd.prog 15 #[] W fun e w' => e = .returned (.bool true) ∧ Below W.heap.size W w') := Lib.hid fun W hW => awake_any (HMW.out.below hW)
      refine region_st [⟨[], [0, 1, 2, 3, 4, 5, 6, 7, 8, 9, 10], []⟩, ⟨[11], [], [12]⟩, ⟨[], [13, 14, 15], []⟩, ⟨[16], [], [17]⟩, ⟨[], [18, 19, 20, 21, 22, 23, 24, 25, 26, 27, 28], []⟩] (by kernel_rfl) (by kernel_rfl) (by intro c a d v w h; cases d <;> exact h) ?_
      refine wpSt_cons ?_
      simp only [picks, List.drop_succ_cons, List.drop_zero]
      repeat ((with_reducible refine wpQ0_step (fun K hK => ?_)); go_simp; ((with_reducible refine hK _ ?_); clear hK K))
      refine wpQ0_nil ?_
      repeat ((with_reducible refine wpQ2_step (fun K hK => ?_)); go_simp; first | ((with_reducible refine hK _ ?_); clear hK K) | (apply Exists.intro; refine ⟨fun x => ?_, hK _ ?_⟩; (fail); clear hK K))
      refine wpQ2_nil ?_
      intro w21 hw21
      refine wpTl_nil ?_
      refine wpSt_name ?_
      intro w22 hw22
      subst hw22
      refine wpSt_cons ?_
      simp only [picks, List.drop_succ_cons, List.drop_zero]
      repeat ((with_reducible refine wpQ0_step (fun K hK => ?_)); go_simp; ((with_reducible refine hK _ ?_); clear hK K))
      refine wpQ0_nil ?_
      repeat ((with_reducible refine wpQ2_step (fun K hK => ?_)); go_simp; first | ((with_reducible refine hK _ ?_); clear hK K) | (apply Exists.intro; refine ⟨fun x => ?_, hK _ ?_⟩; (fail); clear hK K))
      refine wpQ2_nil ?_
      intro w23 hw23
      refine wpTl_cons ?_
      go_wp2_with (fail)
      refine wpTl_nil ?_
      refine wpSt_name ?_
      intro w24 hw24
      have HE23 := Lib.hid (ext_trans hw21 hw23)
      obtain ⟨ka, hka⟩ : ∃ b, b = w23.heap.size := ⟨_, rfl⟩
      have nka : w24.heap[ka]? = some (.cells #[.int .i64 1, .int .i64 0] 3 (0, 0)) := by rw [hw24, hka]; exact blk_new _ _
      have hE24 : Ext2 w23 w24 := by rw [hw24]; exact below_alloc' _ _
      rw [← hka]
      have HE24 := Lib.hid (ext_trans HE23.out hE24)
      have hRk : IntsS w24 ⟨some ⟨ka, 0, none⟩, 2⟩ [1, 0] := ints_two nka
      have HI1 : Hid (∀ W, Ext2 w24 W → Calls Tryd.prog 39 #[.slice sA.a 2 sA.cap, .slice (some ⟨ka, 0, none⟩) 2 2] W fun e w' => e = .returned (.bool true) ∧ Below W.heap.size W w') := Lib.hid fun W hW => by
        have h := ints1_any (s := sA) (t := ⟨some ⟨ka, 0, none⟩, 2⟩) (l := [1, 0]) (m := [1, 0]) (RowS.below HIA.out (ext_trans HE24.out hW)) (RowS.below hRk hW)
        rw [decide_eq_true rfl] at h
        exact h
      clear hw24 hka nka hE24 hRk hw23 hw21
      refine wpSt_cons ?_
      simp only [picks, List.drop_succ_cons, List.drop_zero]
      repeat ((with_reducible refine wpQ0_step (fun K hK => ?_)); go_simp; ((with_reducible refine hK _ ?_); clear hK K))
      refine wpQ0_nil ?_
      repeat ((with_reducible refine wpQ2_step (fun K hK => ?_)); go_simp; first | ((with_reducible refine hK _ ?_); clear hK K) | (apply Exists.intro; refine ⟨fun x => ?_, hK _ ?_⟩; ((with_reducible exact HI1.out x.1 x.2)); clear hK K))
      refine wpQ2_nil ?_
      intro w25 hw25
      refine wpTl_nil ?_
      refine wpSt_name ?_
      intro w26 hw26
      subst hw26
      refine wpSt_cons ?_
      simp only [picks, List.drop_succ_cons, List.drop_zero]
      repeat ((with_reducible refine wpQ0_step (fun K hK => ?_)); go_simp; ((with_reducible refine hK _ ?_); clear hK K))
      refine wpQ0_nil ?_
      repeat ((with_reducible refine wpQ2_step (fun K hK => ?_)); go_simp; first | ((with_reducible refine hK _ ?_); clear hK K) | (apply Exists.intro; refine ⟨fun x => ?_, hK _ ?_⟩; (fail); clear hK K))
      refine wpQ2_nil ?_
      intro w27 hw27
      refine wpTl_cons ?_
      go_wp2_with (fail)
      refine wpTl_nil ?_
      refine wpSt_name ?_
      intro w28 hw28
      have HE27 := Lib.hid (ext_trans HE24.out (ext_trans hw25 hw27))
      obtain ⟨kb, hkb⟩ : ∃ b, b = w27.heap.size := ⟨_, rfl⟩
      have nkb : w28.heap[kb]? = some (.cells #[.int .i64 2, .int .i64 0] 3 (0, 0)) := by rw [hw28, hkb]; exact blk_new _ _
      have hE28 : Ext2 w27 w28 := by rw [hw28]; exact below_alloc' _ _
      rw [← hkb]
      have HE28 := Lib.hid (ext_trans HE27.out hE28)
      have hRk : IntsS w28 ⟨some ⟨kb, 0, none⟩, 2⟩ [2, 0] := ints_two nkb
      have HI2 : Hid (∀ W, Ext2 w28 W → Calls Tryd.prog 39 #[.slice sB.a 2 sB.cap, .slice (some ⟨kb, 0, none⟩) 2 2] W fun e w' => e = .returned (.bool true) ∧ Below W.heap.size W w') := Lib.hid fun W hW => by
        have h := ints1_any (s := sB) (t := ⟨some ⟨kb, 0, none⟩, 2⟩) (l := [2, 0]) (m := [2, 0]) (RowS.below HIB.out (ext_trans HE28.out hW)) (RowS.below hRk hW)
        rw [decide_eq_true rfl] at h
        exact h
      have HAX : Hid (∀ W, Ext2 w28 W → Calls Tryd.prog 15 #[] W fun e w' => e = .returned (.bool true) ∧ Below W.heap.size W w') := Lib.hid fun W hW => HAW.out W (ext_trans HEw20.out (ext_trans HE28.out hW))
      have y31 := Ext2.blk HE28.out Y31.out
      have q31c := cell_blk y31
      have q31f := frz_blk y31
      clear hw28 hkb nkb hE28 hRk hw25 hw27 y31
      refine wpSt_cons ?_
      simp only [picks, List.drop_succ_cons, List.drop_zero]
      repeat ((with_reducible refine wpQ0_step (fun K hK => ?_)); go_simp; ((with_reducible refine hK _ ?_); clear hK K))
      refine wpQ0_nil ?_
      repeat ((with_reducible refine wpQ2_step (fun K hK => ?_)); go_simp; first | ((with_reducible refine hK _ ?_); clear hK K) | (apply Exists.intro; refine ⟨fun x => ?_, hK _ ?_⟩; (first | (with_reducible exact HI2.out x.1 x.2) | (with_reducible exact HSP.out _ _ x.1) | (with_reducible exact HAX.out x.1 x.2)); clear hK K))
      refine wpQ2_nil ?_
      intro w29 hw29
      refine wpTl_nil ?_
      refine wpSt_nil ?_
      have HEF := Lib.hid (ext_trans HEw20.out (ext_trans HE28.out hw29))
      go_wp2_with (fail)
      go_ret
      exact ⟨rfl, below_ext HB1.out HEF.out⟩
end Go.Proofs.YtkidicfpfknfoaaDoor
