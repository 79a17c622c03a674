/-
  The law DecayPrefix, walked.
-/
import Derived.Test.YtfjbgcaogffiaaaDSpF
import Derived.Test.YtfjbgcaogffiaaaDCut
namespace Go.Proofs.Ytfjbgcaogffiaaa
open Go.RowKit D
set_option linter.unusedVariables false
set_option linter.unusedSimpArgs false
attribute [local go_sem high] run_minI run_maxI
attribute [local go_sem] upon2 cls_cell cls_frozen forall_const exists_eq_left'
attribute [local go_sem] FirstUpon
attribute [local go_sem high] run_days_from run_spans_from run_spans_to
/-- A class of worlds with a block and two cells. -/
def AtC (b : Nat) (c : Array Value) (t : TypeId) (m o : Nat) (u v : Value) (W : World) : Prop := W.heap[b]? = some (.cells c t (0, 0)) ∧ W.cell? ⟨m, o, none⟩ = some u ∧ W.cell? ⟨m, o + 1, none⟩ = some v
theorem atC_cell {b : Nat} {c : Array Value} {t : TypeId} {m o : Nat} {u v : Value} (x : Cls (AtC b c t m o u v)) (j : Nat) : x.1.cell? ⟨b, j, none⟩ = c[j]? := by
  have h := x.2.1
  simp [World.cell?, h]
theorem atC_u {b : Nat} {c : Array Value} {t : TypeId} {m o : Nat} {u v : Value} (x : Cls (AtC b c t m o u v)) : x.1.cell? ⟨m, o, none⟩ = some u := x.2.2.1
theorem atC_v {b : Nat} {c : Array Value} {t : TypeId} {m o : Nat} {u v : Value} (x : Cls (AtC b c t m o u v)) : x.1.cell? ⟨m, o + 1, none⟩ = some v := x.2.2.2
attribute [local go_sem] atC_cell atC_u atC_v
theorem AtC.ext {b m o : Nat} {c : Array Value} {t : TypeId} {u v : Value} {w : World} (h : AtC b c t m o u v w) : ∀ W, Ext2 w W → AtC b c t m o u v W := fun W hW => ⟨Ext2.blk hW h.1, (Below.cell hW (cell_lt h.2.1)).trans h.2.1, (Below.cell hW (cell_lt h.2.2)).trans h.2.2⟩
theorem AtC.set {b m o b' o' : Nat} {c : Array Value} {t : TypeId} {u v x : Value} {w : World} (h : AtC b c t m o u v w) (h1 : ¬ b = b') (h2 : ¬ m = b') : AtC b c t m o u v (w.setCell ⟨b', o', none⟩ x) :=
  ⟨blk_set_ne h.1 (fun e => h1 e.symm), (World.cell?_setCell_other _ _ _ _ (fun e => h2 (congrArg Addr.block e).symm)).trans h.2.1, (World.cell?_setCell_other _ _ _ _ (fun e => h2 (congrArg Addr.block e).symm)).trans h.2.2⟩
set_option maxRecDepth 100000 in
set_option maxHeartbeats 2000000 in
theorem prefix_no {T : Task} {s : TSl} {p : Int} {w : World} (hT : TaskAt w T s) (h0 : (D.checkTask T).2.2 ≠ 0) : Calls Try.prog 8 #[.agg #[.slice s.h.a T.rule.heat.length s.h.cap, .slice s.w.a T.rule.wet.length s.w.cap, .int .i64 T.rule.own, .int .i64 T.rule.feed, .int .i64 T.rule.g0, .int .i64 T.rule.g1, .int .i64 T.rule.g2, .int .i64 T.rule.lost, .int .i64 T.first, .slice s.d.a T.days.length s.d.cap, .int .i64 T.start.lo, .int .i64 T.start.hi, .slice s.t.a T.tests.length s.t.cap], .int .u16 p] w fun e w' => e = .returned (.bool true) ∧ Below w.heap.size w w' := by
  obtain ⟨p1, p2, p3, hp⟩ : ∃ a b c, D.checkTask T = (a, b, c) := ⟨_, _, _, rfl⟩
  have hp3 : (D.checkTask T).2.2 = p3 := by rw [hp]
  have HP : Hid (∀ W, Below w.heap.size w W → Calls Try.prog 17 #[.agg #[.slice s.h.a T.rule.heat.length s.h.cap, .slice s.w.a T.rule.wet.length s.w.cap, .int .i64 T.rule.own, .int .i64 T.rule.feed, .int .i64 T.rule.g0, .int .i64 T.rule.g1, .int .i64 T.rule.g2, .int .i64 T.rule.lost, .int .i64 T.first, .slice s.d.a T.days.length s.d.cap, .int .i64 T.start.lo, .int .i64 T.start.hi, .slice s.t.a T.tests.length s.t.cap]] W fun e w' => (∃ s1 s2 : Sl, e = .returned (.tuple #[.slice s1.a 0 s1.cap, .slice s2.a 0 s2.cap, .int .i64 p3])) ∧ Below W.heap.size W w') := Lib.hid fun W hW => by
    rw [← hp3]; exact levels_no (hT.below hW) h0
  have HC : Hid (∀ W, Below w.heap.size w W → Calls Try.prog 22 #[.agg #[.slice s.h.a T.rule.heat.length s.h.cap, .slice s.w.a T.rule.wet.length s.w.cap, .int .i64 T.rule.own, .int .i64 T.rule.feed, .int .i64 T.rule.g0, .int .i64 T.rule.g1, .int .i64 T.rule.g2, .int .i64 T.rule.lost, .int .i64 T.first, .slice s.d.a T.days.length s.d.cap, .int .i64 T.start.lo, .int .i64 T.start.hi, .slice s.t.a T.tests.length s.t.cap]] W fun e w' => e = .returned (.tuple #[.int .i64 p1, .int .i64 p2, .int .i64 p3]) ∧ Below W.heap.size W w') := Lib.hid fun W hW => by
    have h := checkTaskR_any (hT.below hW); rw [hp] at h; exact h
  have HA : Hid (∀ W, Calls Try.prog 21 #[] W fun e w' => e = .returned (.bool true) ∧ Below W.heap.size W w') := Lib.hid fun W => awake_any W
  rw [hp3] at h0
  have hne2 : (p3 != 0) = true := by simp [h0]
  have heq : (p3 == p3) = true := by simp
  clear hT hp hp3
  go_enter Try.func8, Try.ntmps8
  go_wp2_with (fail)
  (with_reducible refine (HP.out _ ?_).mono ?_)
  · repeat' (first | exact Below.refl _ _ | assumption | refine below_drewN ?_ _ | refine Below.drew ?_ | refine Below.alloc ?_ (by first | assumption | omega | (simp <;> omega)) _ | refine Below.setCell ?_ (by first | assumption | omega | (simp <;> omega)) _ | refine Ext2.on (by assumption) ?_)
  rintro e w1 ⟨⟨s1, s2, rfl⟩, hb1⟩
  have hB1 : Below w.heap.size w w1 := Below.trans (by repeat' (first | exact Below.refl _ _ | assumption | refine below_drewN ?_ _ | refine Below.drew ?_ | refine Below.alloc ?_ (by first | assumption | omega | (simp <;> omega)) _ | refine Below.setCell ?_ (by first | assumption | omega | (simp <;> omega)) _ | refine Ext2.on (by assumption) ?_)) (hb1.mono (by simp))
  have x0 : w1.heap[w.heap.size]? = some (Obj.cells #[.slice s.h.a T.rule.heat.length s.h.cap, .slice s.w.a T.rule.wet.length s.w.cap, .int .i64 T.rule.own, .int .i64 T.rule.feed, .int .i64 T.rule.g0, .int .i64 T.rule.g1, .int .i64 T.rule.g2, .int .i64 T.rule.lost, .int .i64 T.first, .slice s.d.a T.days.length s.d.cap, .int .i64 T.start.lo, .int .i64 T.start.hi, .slice s.t.a T.tests.length s.t.cap] 31) := below_blk hb1 (by repeat' (first | (with_reducible assumption) | (with_reducible refine blk_set_ne ?_ ?_) | (with_reducible exact blk_new _ _) | (with_reducible refine blk_new' _ _ (by first | (with_reducible rfl) | (simp; done) | (simp <;> omega))) | (with_reducible refine blk_alloc ?_ _) | (with_reducible refine blk_drew ?_) | (with_reducible refine blk_drewN ?_ _) | (with_reducible refine Ext2.blk (by assumption) ?_) | omega | (simp <;> omega) | exact blk_set (by assumption) _ _)) (by simp)
  clear hb1
  have q0c := cell_blk x0
  have q0f := frz_blk x0
  go_wp2_with (fail)
  (with_reducible refine (HC.out _ hB1).mono ?_)
  rintro e w2 ⟨rfl, hb2⟩
  have hB2 := below_ext hB1 hb2
  clear q0c q0f
  go_wp2_with (fail)
  (with_reducible refine (HA.out _).mono ?_)
  rintro e w4 ⟨rfl, hb4⟩
  have hB4 := below_ext hB2 hb4
  go_wp2_with (fail)
  go_ret
  exact ⟨rfl, hB4⟩
set_option maxRecDepth 100000 in
set_option maxHeartbeats 2000000 in
theorem prefix_yes {T : Task} {s : TSl} {p : Int} {w : World} (hT : TaskAt w T s) (hp0 : 0 ≤ p ∧ p ≤ 65535) (h0 : (D.checkTask T).2.2 = 0) : Calls Try.prog 8 #[.agg #[.slice s.h.a T.rule.heat.length s.h.cap, .slice s.w.a T.rule.wet.length s.w.cap, .int .i64 T.rule.own, .int .i64 T.rule.feed, .int .i64 T.rule.g0, .int .i64 T.rule.g1, .int .i64 T.rule.g2, .int .i64 T.rule.lost, .int .i64 T.first, .slice s.d.a T.days.length s.d.cap, .int .i64 T.start.lo, .int .i64 T.start.hi, .slice s.t.a T.tests.length s.t.cap], .int .u16 p] w fun e w' => e = .returned (.bool true) ∧ Below w.heap.size w w' := by
  have hk := (task_ok h0).1
  have HK := Lib.hid hk
  have HT := Lib.hid hT
  have HP : Hid (∀ W, Below w.heap.size w W → Calls Try.prog 17 #[.agg #[.slice s.h.a T.rule.heat.length s.h.cap, .slice s.w.a T.rule.wet.length s.w.cap, .int .i64 T.rule.own, .int .i64 T.rule.feed, .int .i64 T.rule.g0, .int .i64 T.rule.g1, .int .i64 T.rule.g2, .int .i64 T.rule.lost, .int .i64 T.first, .slice s.d.a T.days.length s.d.cap, .int .i64 T.start.lo, .int .i64 T.start.hi, .slice s.t.a T.tests.length s.t.cap]] W _) := Lib.hid fun W hW => levels_yes (hT.below hW) h0
  have HC : Hid (∀ W, Below w.heap.size w W → Calls Try.prog 22 #[.agg #[.slice s.h.a T.rule.heat.length s.h.cap, .slice s.w.a T.rule.wet.length s.w.cap, .int .i64 T.rule.own, .int .i64 T.rule.feed, .int .i64 T.rule.g0, .int .i64 T.rule.g1, .int .i64 T.rule.g2, .int .i64 T.rule.lost, .int .i64 T.first, .slice s.d.a T.days.length s.d.cap, .int .i64 T.start.lo, .int .i64 T.start.hi, .slice s.t.a T.tests.length s.t.cap]] W _) := Lib.hid fun W hW => check_yes (hT.below hW) h0
  have HA : Hid (∀ W, Calls Try.prog 21 #[] W fun e w' => e = .returned (.bool true) ∧ Below W.heap.size W w') := Lib.hid fun W => awake_any W
  have hnd := hk.nd
  have hnt := hk.nt
  have hfst := hk.first
  have hdl := hT.days.le
  have hdm := hT.days.max
  obtain ⟨P, hP⟩ : ∃ P : Nat, p = (P : Int) := ⟨p.toNat, by omega⟩
  obtain ⟨k, hkd⟩ : ∃ k : Nat, k = P % (T.days.length + 1) := ⟨_, rfl⟩
  have hkl : k ≤ T.days.length := by have := Nat.mod_lt P (show 0 < T.days.length + 1 by omega); omega
  have hrem : p.tmod ((T.days.length : Int) + 1) = (k : Int) := by rw [hP, hkd]; rfl
  have wp0 : IntKind.i64.wrap p = p := IntWalk.i64_in _ (by omega)
  have wk0 : IntKind.i64.wrap (k : Int) = (k : Int) := IntWalk.i64_in _ (by omega)
  have wd1 : IntKind.i64.wrap ((T.days.length : Int) + 1) = (T.days.length : Int) + 1 := IntWalk.i64_in _ (by omega)
  have wf1 : IntKind.i64.wrap (T.first + (k : Int)) = T.first + (k : Int) := IntWalk.i64_in _ (by omega)
  obtain ⟨k1, hk1⟩ : ∃ k1 : Nat, k1 = k + 1 := ⟨_, rfl⟩
  have wk1 : IntKind.i64.wrap ((k : Int) + 1) = (k1 : Int) := by rw [hk1]; exact IntWalk.i64_in _ (by omega)
  have hz0 : (T.days.length : Int) + 1 ≠ 0 := by omega
  have ne1 : ((T.days.length : Int) + 1 != (T.days.length : Int) + 1) = false := by simp
  have ne2 : ((k1 : Int) != (k1 : Int)) = false := by simp
  have HCT : Hid (∀ W, Below w.heap.size w W → Calls Try.prog 34 #[.agg #[.slice s.h.a T.rule.heat.length s.h.cap, .slice s.w.a T.rule.wet.length s.w.cap, .int .i64 T.rule.own, .int .i64 T.rule.feed, .int .i64 T.rule.g0, .int .i64 T.rule.g1, .int .i64 T.rule.g2, .int .i64 T.rule.lost, .int .i64 T.first, .slice s.d.a T.days.length s.d.cap, .int .i64 T.start.lo, .int .i64 T.start.hi, .slice s.t.a T.tests.length s.t.cap], .int .i64 (k : Int)] W _) := Lib.hid fun W hW => cut_any (hT.below hW) hk hkl
  have HK1 := Lib.hid hk1
  clear hT h0 hk hkd hP hk1
  go_enter Try.func8, Try.ntmps8
  go_wp2_with (fail)
  (with_reducible refine (HP.out _ ?_).mono ?_)
  · repeat' (first | exact Below.refl _ _ | assumption | refine below_drewN ?_ _ | refine Below.drew ?_ | refine Below.alloc ?_ (by first | assumption | omega | (simp <;> omega)) _ | refine Below.setCell ?_ (by first | assumption | omega | (simp <;> omega)) _ | refine Ext2.on (by assumption) ?_)
  rintro e w1 ⟨⟨⟨la, lc⟩, s2, rfl, hl, -⟩, hb1⟩
  have hB1 : Below w.heap.size w w1 := Below.trans (by repeat' (first | exact Below.refl _ _ | assumption | refine below_drewN ?_ _ | refine Below.drew ?_ | refine Below.alloc ?_ (by first | assumption | omega | (simp <;> omega)) _ | refine Below.setCell ?_ (by first | assumption | omega | (simp <;> omega)) _ | refine Ext2.on (by assumption) ?_)) (hb1.mono (by simp))
  have x0 : w1.heap[w.heap.size]? = some (Obj.cells #[.slice s.h.a T.rule.heat.length s.h.cap, .slice s.w.a T.rule.wet.length s.w.cap, .int .i64 T.rule.own, .int .i64 T.rule.feed, .int .i64 T.rule.g0, .int .i64 T.rule.g1, .int .i64 T.rule.g2, .int .i64 T.rule.lost, .int .i64 T.first, .slice s.d.a T.days.length s.d.cap, .int .i64 T.start.lo, .int .i64 T.start.hi, .slice s.t.a T.tests.length s.t.cap] 31) := below_blk hb1 (by repeat' (first | (with_reducible assumption) | (with_reducible refine blk_set_ne ?_ ?_) | (with_reducible exact blk_new _ _) | (with_reducible refine blk_new' _ _ (by first | (with_reducible rfl) | (simp; done) | (simp <;> omega))) | (with_reducible refine blk_alloc ?_ _) | (with_reducible refine blk_drew ?_) | (with_reducible refine blk_drewN ?_ _) | (with_reducible refine Ext2.blk (by assumption) ?_) | omega | (simp <;> omega) | exact blk_set (by assumption) _ _)) (by simp)
  obtain ⟨lb, loff, hla, -⟩ := sp_two hl (i := 0) (by omega)
  dsimp only at hla
  subst hla
  have hlcap := hl.le
  dsimp only at hlcap
  clear hb1 HP
  have q0c := cell_blk x0
  have q0f := frz_blk x0
  go_wp2_with (fail)
  (with_reducible refine (HC.out _ hB1).mono ?_)
  rintro e w2 ⟨rfl, hb2⟩
  have hB2 := below_ext hB1 hb2
  have x0 := Ext2.blk hb2 x0
  have HLV := Lib.hid (hl.below hb2)
  clear q0c q0f hl hb2 HC
  have q0c := cell_blk x0
  have q0f := frz_blk x0
  go_wp2_with (fail)
  (with_reducible refine (HCT.out _ hB2).mono ?_)
  rintro e w3 ⟨⟨⟨ua, uc⟩, rfl, hu⟩, hb3⟩
  have hB3 := below_ext hB2 hb3
  have x0 := Ext2.blk hb3 x0
  have HLV := Lib.hid (HLV.out.below hb3)
  obtain ⟨ut, hut⟩ : ∃ n, n = (cutT T k).tests.length := ⟨_, rfl⟩
  have hLU : ∀ W, Ext2 w3 W → Calls Try.prog 17 #[.agg #[.slice s.h.a T.rule.heat.length s.h.cap, .slice s.w.a T.rule.wet.length s.w.cap, .int .i64 T.rule.own, .int .i64 T.rule.feed, .int .i64 T.rule.g0, .int .i64 T.rule.g1, .int .i64 T.rule.g2, .int .i64 T.rule.lost, .int .i64 T.first, (.slice (takeA s.d.a s.d.cap 4) k s.d.cap), .int .i64 T.start.lo, .int .i64 T.start.hi, (.slice ua ut uc)]] W fun e w' => (∃ s1 s2 : Sl, e = .returned (.tuple #[.slice s1.a k1 s1.cap, .slice s2.a (struckT (cutT T k)).length s2.cap, .int .i64 0]) ∧ RowS w' s1 2 k1 (spC (lv (cutT T k)))) ∧ Below W.heap.size W w' := fun W hW => by
    have hTW := HT.out.below (below_ext hB3 hW)
    have hat : TaskAt W (cutT T k) ⟨s.h, s.w, ⟨takeA s.d.a s.d.cap 4, s.d.cap⟩, ⟨ua, uc⟩⟩ := ⟨hTW.rule, days_take hTW.days hkl, hu.below hW⟩
    have h := levels_yes hat (task_mk (cut_ok HK.out hkl))
    rw [cut_days hkl, ← hut, ← HK1.out] at h
    refine h.mono ?_
    rintro e w' ⟨⟨s1, s2, h1, h2, -⟩, h3⟩
    exact ⟨⟨s1, s2, h1, h2⟩, h3⟩
  have HLU := Lib.hid hLU
  have HUT := Lib.hid hut
  rw [← hut]
  clear q0c q0f hb3 HCT hLU hu hut
  go_wp2_with (fail)
  (with_reducible refine (HLU.out _ ?_).mono ?_)
  · exact below_alloc' _ _
  rintro e w4 ⟨⟨⟨ma, mc⟩, s3, rfl, hm⟩, hb4⟩
  have hE4 : Ext2 w3 w4 := Below.trans (below_alloc' _ _) (hb4.mono (by simp))
  have x12 : w4.heap[w3.heap.size]? = some (Obj.cells #[.slice s.h.a T.rule.heat.length s.h.cap, .slice s.w.a T.rule.wet.length s.w.cap, .int .i64 T.rule.own, .int .i64 T.rule.feed, .int .i64 T.rule.g0, .int .i64 T.rule.g1, .int .i64 T.rule.g2, .int .i64 T.rule.lost, .int .i64 T.first, (.slice (takeA s.d.a s.d.cap 4) k s.d.cap), .int .i64 T.start.lo, .int .i64 T.start.hi, (.slice ua ut uc)] 31) := below_blk hb4 (blk_new _ _) (by simp)
  have x0 := Ext2.blk hE4 x0
  have HX0 := Lib.hid x0; have HX12 := Lib.hid x12
  have HLV := Lib.hid (HLV.out.below hE4)
  have hB4 := below_ext hB3 hE4
  obtain ⟨mb, moff, hma, -⟩ := sp_two hm (i := 0) (by have := HK1.out; omega)
  dsimp only at hma
  subst hma
  have HM := Lib.hid hm
  clear hb4 hm x0 x12 HLU hE4
  go_wp2_with (fail)
  go_loopw [15] (fun i wr => ∃ n : Nat, i = .int .i64 (n : Int) ∧ n ≤ k1 ∧ Ext2 w4 wr) (fun i _ => k1 - (intOf i).toNat)
  case atStart => exact ⟨0, rfl, by omega, Below.refl _ _⟩
  case round =>
    obtain ⟨n, rfl, hn, hE⟩ := hrel
    have hEr : Ext2 w4 wr := hE
    clear hE
    by_cases hlt : n ≤ k
    · go_light
      obtain ⟨_, _, h1, a0, a1⟩ := sp_two (HLV.out.below hEr) (i := n) (by omega)
      obtain ⟨rfl, rfl⟩ : lb = _ ∧ loff = _ := by simpa using h1
      obtain ⟨_, _, h2, b0, b1⟩ := sp_two (HM.out.below hEr) (i := n) (by have := HK1.out; omega)
      obtain ⟨rfl, rfl⟩ : mb = _ ∧ moff = _ := by simpa using h2
      have hsub := prefix_sub HK.out hkl hlt
      obtain ⟨a, ha⟩ : ∃ a, a = lv T n := ⟨_, rfl⟩
      obtain ⟨b, hb⟩ : ∃ b, b = lv (cutT T k) n := ⟨_, rfl⟩
      rw [← ha] at a0 a1 hsub
      rw [← hb] at b0 b1 hsub
      obtain ⟨hsub1, hsub2⟩ := hsub
      have c0 : decide (a.lo < b.lo) = false := decide_eq_false (by omega)
      have c1 : decide (b.hi < a.hi) = false := decide_eq_false (by omega)
      have r0 : (0 : Int) ≤ (n : Int) := by omega
      have r1 : (n : Int) ≤ (k : Int) := by omega
      have r2 : (n : Int) < (T.days.length : Int) + 1 := by omega
      have r3 : (n : Int) < (k1 : Int) := by have := HK1.out; omega
      have w3' : IntKind.i64.wrap ((n : Int) + 1) = (n : Int) + 1 := IntWalk.i64_in _ (by omega)
      clear h1 h2 ha hb hsub1 hsub2
      go_wp2_with (fail)
      refine region_ev [] [0, 1, 2, 3, 4, 5, 6, 7, 8, 9, 10, 11, 12, 13, 14, 15, 16, 17, 18, 19, 20, 21, 22, 23] [] [] (by kernel_rfl) (by kernel_rfl) (by intro c a d v w h; cases d <;> exact h) ?_
      simp only [picks, List.drop_succ_cons, List.drop_zero]
      repeat (refine wpQ0_step (fun K hK => ?_); go_simp; (refine hK _ ?_; clear hK K))
      refine wpQ0_nil ?_
      repeat ((with_reducible refine wpQ2_step (fun K hK => ?_)); go_simp; first | ((with_reducible refine hK _ ?_); clear hK K) | (apply Exists.intro; refine ⟨fun x => ?_, hK _ ?_⟩; (fail); clear hK K))
      refine wpQ2_nil ?_
      refine Events.none_ fun w6 hg6 => ?_
      simp only [picks, List.drop_succ_cons, List.drop_zero]
      have hE6 := ext_trans hEr hg6
      clear a0 a1 b0 b1
      go_wp2_with (fail)
      go_roundw
      case rel => exact ⟨n + 1, by go_num, by have := HK1.out; omega, hE6⟩
      case measure => have := HK1.out; simp [intOf]; omega
    · obtain rfl : n = k1 := by have := HK1.out; omega
      have r1 : ¬ ((n : Nat) : Int) ≤ (k : Int) := by have := HK1.out; omega
      have hBr := below_ext hB4 hEr
      have x0 := Ext2.blk hEr HX0.out
      have x12 := Ext2.blk hEr HX12.out
      have q0c := cell_blk x0
      have q0f := frz_blk x0
      have q12c := cell_blk x12
      have q12f := frz_blk x12
      by_cases hal : ut = T.tests.length
      · have HALL : Hid ((cutT T k).tests.length = T.tests.length) := Lib.hid (by rw [← HUT.out]; exact hal)
        have c0 : ((ut : Int) != (T.tests.length : Int)) = false := by simp [hal]
        clear hal
        go_wp2_with (fail)
        refine wp_name ?_
        intro w5 h5
        have x16 : w5.heap[wr.heap.size]? = some (Obj.cells #[.slice s.h.a T.rule.heat.length s.h.cap, .slice s.w.a T.rule.wet.length s.w.cap, .int .i64 T.rule.own, .int .i64 T.rule.feed, .int .i64 T.rule.g0, .int .i64 T.rule.g1, .int .i64 T.rule.g2, .int .i64 T.rule.lost, .int .i64 T.first, .slice s.d.a T.days.length s.d.cap, .int .i64 T.start.lo, .int .i64 T.start.hi, .slice s.t.a T.tests.length s.t.cap] 31) := by rw [h5]; exact blk_new _ _
        have hE5 : Ext2 w4 w5 := by rw [h5]; exact ext_trans hEr (below_alloc' _ _)
        have x0 : w5.heap[w.heap.size]? = some (Obj.cells #[.slice s.h.a T.rule.heat.length s.h.cap, .slice s.w.a T.rule.wet.length s.w.cap, .int .i64 T.rule.own, .int .i64 T.rule.feed, .int .i64 T.rule.g0, .int .i64 T.rule.g1, .int .i64 T.rule.g2, .int .i64 T.rule.lost, .int .i64 T.first, .slice s.d.a T.days.length s.d.cap, .int .i64 T.start.lo, .int .i64 T.start.hi, .slice s.t.a T.tests.length s.t.cap] 31) := by rw [h5]; repeat' (first | (with_reducible assumption) | (with_reducible refine blk_set_ne ?_ ?_) | (with_reducible exact blk_new _ _) | (with_reducible refine blk_new' _ _ (by first | (with_reducible rfl) | (simp; done) | (simp <;> omega))) | (with_reducible refine blk_alloc ?_ _) | (with_reducible refine blk_drew ?_) | (with_reducible refine blk_drewN ?_ _) | (with_reducible refine Ext2.blk (by assumption) ?_) | omega | (simp <;> omega) | exact blk_set (by assumption) _ _)
        have hne : ¬ w.heap.size = wr.heap.size := by have := blk_lt (Ext2.blk hEr HX0.out); omega
        obtain ⟨b16, hb16⟩ : ∃ b, b = wr.heap.size := ⟨_, rfl⟩
        have hle16 : w4.heap.size ≤ b16 := by rw [hb16]; exact hEr.size
        rw [← hb16] at x16 hne ⊢
        obtain ⟨_, _, h2, b0, b1⟩ := sp_two (HM.out.below hE5) (i := k) (by have := HK1.out; omega)
        obtain ⟨rfl, rfl⟩ : mb = _ ∧ moff = _ := by simpa using h2
        obtain ⟨c, hc⟩ : ∃ c, c = lv (cutT T k) k := ⟨_, rfl⟩
        rw [← hc] at b0 b1
        have r0 : (0 : Int) ≤ (k : Int) := by omega
        have r3 : (k : Int) < (n : Int) := by have := HK1.out; omega
        have HC := Lib.hid hc
        clear h5 q0c q0f q12c q12f x12 h2 hc hb16 r1
        have q0c := cell_blk x0
        have q0f := frz_blk x0
        have q16c := cell_blk x16
        have q16f := frz_blk x16
        have hcl0 : AtC w.heap.size #[.slice s.h.a T.rule.heat.length s.h.cap, .slice s.w.a T.rule.wet.length s.w.cap, .int .i64 T.rule.own, .int .i64 T.rule.feed, .int .i64 T.rule.g0, .int .i64 T.rule.g1, .int .i64 T.rule.g2, .int .i64 T.rule.lost, .int .i64 T.first, .slice s.d.a T.days.length s.d.cap, .int .i64 T.start.lo, .int .i64 T.start.hi, .slice s.t.a T.tests.length s.t.cap] 31 mb (moff + k * 2) (.int .i64 c.lo) (.int .i64 c.hi) w5 := ⟨x0, b0, b1⟩
        haveI hcls : Nonempty (Cls (AtC w.heap.size #[.slice s.h.a T.rule.heat.length s.h.cap, .slice s.w.a T.rule.wet.length s.w.cap, .int .i64 T.rule.own, .int .i64 T.rule.feed, .int .i64 T.rule.g0, .int .i64 T.rule.g1, .int .i64 T.rule.g2, .int .i64 T.rule.lost, .int .i64 T.first, .slice s.d.a T.days.length s.d.cap, .int .i64 T.start.lo, .int .i64 T.start.hi, .slice s.t.a T.tests.length s.t.cap] 31 mb (moff + k * 2) (.int .i64 c.lo) (.int .i64 c.hi))) := ⟨⟨w5, hcl0⟩⟩
        have hmb16 : ¬ mb = b16 := by
          obtain ⟨_, _, h9, c0', _⟩ := sp_two HM.out (i := k) (by have := HK1.out; omega)
          obtain ⟨rfl, rfl⟩ : mb = _ ∧ moff = _ := by simpa using h9
          have := cell_lt c0'
          dsimp only at this
          omega
        refine region_evH (AtC w.heap.size #[.slice s.h.a T.rule.heat.length s.h.cap, .slice s.w.a T.rule.wet.length s.w.cap, .int .i64 T.rule.own, .int .i64 T.rule.feed, .int .i64 T.rule.g0, .int .i64 T.rule.g1, .int .i64 T.rule.g2, .int .i64 T.rule.lost, .int .i64 T.first, .slice s.d.a T.days.length s.d.cap, .int .i64 T.start.lo, .int .i64 T.start.hi, .slice s.t.a T.tests.length s.t.cap] 31 mb (moff + k * 2) (.int .i64 c.lo) (.int .i64 c.hi)) [4, 5, 6, 7, 8, 9, 10, 11] [0, 1, 2, 3, 12] [] [13, 14, 15, 16, 17, 18, 19] (AtC.ext hcl0) (by kernel_rfl) (by kernel_rfl) (by intro c a d v w h; cases d <;> exact h) ?_
        simp only [picks, List.drop_succ_cons, List.drop_zero]
        repeat (refine wpQS_step (fun K hK => ?_); go_simp; (refine hK _ ?_; clear hK K))
        refine wpQS_nil ?_
        repeat ((with_reducible refine wpQ2_step (fun K hK => ?_)); go_simp; first | ((with_reducible refine hK _ ?_); clear hK K) | (apply Exists.intro; refine ⟨fun x => ?_, hK _ ?_⟩; (fail); clear hK K))
        refine wpQ2_nil ?_
        refine EventsH.none_ fun w6 hg6 => ?_
        simp only [picks, List.drop_succ_cons, List.drop_zero]
        have hE6 : Ext2 w4 w6 := ext_trans hE5 hg6
        have x16 := Ext2.blk hg6 x16
        have hcl6 := AtC.ext hcl0 w6 hg6
        clear q0c q0f q16c q16f b0 b1 hcls hcl0
        have q16c := cell_blk x16
        have q16f := frz_blk x16
        refine wpListH_cons ?_
        go_wp2_with (fail)
        refine ⟨hcl6.set hne hmb16, wpListH_cons ?_⟩
        go_wp2_with (fail)
        refine ⟨hcl6.set hne hmb16, wpListH_cons ?_⟩
        go_wp2_with (fail)
        refine ⟨(hcl6.set hne hmb16).set hne hmb16, wpListH_cons ?_⟩
        go_wp2_with (fail)
        refine ⟨(hcl6.set hne hmb16).set hne hmb16, wpListH_cons ?_⟩
        go_wp2_with (fail)
        refine ⟨(((hcl6.set hne hmb16).set hne hmb16).set hne hmb16).set hne hmb16, wpListH_cons ?_⟩
        go_wp2_with (fail)
        refine ⟨(((hcl6.set hne hmb16).set hne hmb16).set hne hmb16).set hne hmb16, wpListH_cons ?_⟩
        go_wp2_with (fail)
        refine ⟨((((hcl6.set hne hmb16).set hne hmb16).set hne hmb16).set hne hmb16).set hne hmb16, wpListH_nil ?_⟩
        go_wp2_with (fail)
        refine calls_name ?_
        intro w7 h7
        have z16 : w7.heap[b16]? = some (Obj.cells #[.slice s.h.a T.rule.heat.length s.h.cap, .slice s.w.a T.rule.wet.length s.w.cap, .int .i64 T.rule.own, .int .i64 T.rule.feed, .int .i64 T.rule.g0, .int .i64 T.rule.g1, .int .i64 T.rule.g2, .int .i64 T.rule.lost, .int .i64 (T.first + (k : Int)), .slice (dropA s.d.a s.d.cap k 4) (T.days.length - k) (s.d.cap - k), .int .i64 c.lo, .int .i64 c.hi, .slice none 0 0] 31) := by rw [h7]; exact Eq.trans (blk_set (blk_set (blk_set (blk_set (blk_set x16 _ _) _ _) _ _) _ _) _ _) rfl
        have hE7 : Ext2 w4 w7 := by rw [h7]; exact below_set (below_set (below_set (below_set (below_set hE6 hle16) hle16) hle16) hle16) hle16
        have hB7 := below_ext hB4 hE7
        have hTW := HT.out.below hB7
        have hat : TaskAt w7 (restT T k) ⟨s.h, s.w, ⟨dropA s.d.a s.d.cap k 4, s.d.cap - k⟩, ⟨none, 0⟩⟩ := ⟨hTW.rule, days_drop hTW.days hkl, ⟨Nat.le_refl _, by simp, fun i j hi _ => absurd hi (Nat.not_lt_zero i)⟩⟩
        have hrd := rest_days T k
        obtain ⟨r, hr⟩ : ∃ r, r = T.days.length + 1 - k := ⟨_, rfl⟩
        have hr1 : T.days.length - k + 1 = r := by omega
        have hsl : (restT T k).start = c := by rw [HC.out]; rfl
        have hUL : Calls Try.prog 17 #[.agg #[.slice s.h.a T.rule.heat.length s.h.cap, .slice s.w.a T.rule.wet.length s.w.cap, .int .i64 T.rule.own, .int .i64 T.rule.feed, .int .i64 T.rule.g0, .int .i64 T.rule.g1, .int .i64 T.rule.g2, .int .i64 T.rule.lost, .int .i64 (T.first + (k : Int)), .slice (dropA s.d.a s.d.cap k 4) (T.days.length - k) (s.d.cap - k), .int .i64 c.lo, .int .i64 c.hi, .slice none 0 0]] w7 fun e w' => (∃ s1 s2 : Sl, e = .returned (.tuple #[.slice s1.a r s1.cap, .slice s2.a (struckT (restT T k)).length s2.cap, .int .i64 0]) ∧ RowS w' s1 2 r (spC (lv (restT T k)))) ∧ Below w7.heap.size w7 w' := by
          have h := levels_yes hat (task_mk (rest_ok HK.out hkl))
          rw [hrd, hr1, hsl] at h
          refine h.mono ?_
          rintro e w' ⟨⟨s1, s2, h1, h2, -⟩, h3⟩
          exact ⟨⟨s1, s2, h1, h2⟩, h3⟩
        have HUL := Lib.hid hUL
        have HLV7 := Lib.hid (HLV.out.below hE7)
        have HM7 := Lib.hid (HM.out.below hE7)
        have HR := Lib.hid hr
        clear h7 x16 z16 hTW hat hrd hr1 hsl hUL hcl6 hE6 q16c q16f hg6 hE5 x0 hr
        (with_reducible refine HUL.out.mono ?_)
        rintro e w8 ⟨⟨⟨va, vc⟩, s5, rfl, hv⟩, hb8⟩
        have hE8 : Ext2 w7 w8 := hb8
        have hB8 := below_ext hB7 hE8
        have hnl : n ≤ lc := by have := HK1.out; omega
        have hkl1 : k ≤ T.days.length + 1 := by omega
        have HSP1 : Hid (∀ W, Ext2 w8 W → Calls Try.prog 19 #[.slice va r vc, .slice (some ⟨lb, dropO loff lc k 2, none⟩) r (lc - k)] W fun e w' => e = .returned (.bool true) ∧ Below W.heap.size W w') := Lib.hid fun W hW => by
          have h1 := rowS_drop (HLV7.out.below (ext_trans hE8 hW)) hkl1
          rw [← HR.out] at h1
          refine spansF_any (s := ⟨va, vc⟩) (t := ⟨some ⟨lb, dropO loff lc k 2, none⟩, lc - k⟩) (f := lv (restT T k)) (g := fun i => lv T (k + i)) (hv.below hW) (rowS_congr h1 fun i j _ _ => ?_) fun i hi => rest_lv HK.out hkl HALL.out (by have := HR.out; omega)
          match j with
          | 0 | _ + 1 => rfl
        have HSP2 : Hid (∀ W, Ext2 w8 W → Calls Try.prog 19 #[.slice (some ⟨mb, moff, none⟩) n mc, .slice (some ⟨lb, loff, none⟩) n lc] W fun e w' => e = .returned (.bool true) ∧ Below W.heap.size W w') := Lib.hid fun W hW => by
          have h1 := rowS_take (m := n) (HLV7.out.below (ext_trans hE8 hW)) (by have := HK1.out; omega)
          exact spansF_any (s := ⟨some ⟨mb, moff, none⟩, mc⟩) (t := ⟨some ⟨lb, loff, none⟩, lc⟩) (f := lv (cutT T k)) (g := lv T) (HM7.out.below (ext_trans hE8 hW)) h1 fun i hi => prefix_eq HK.out hkl HALL.out (by have := HK1.out; omega)
        have er : T.days.length + 1 - k = r := HR.out.symm
        clear hv hb8 HUL
        go_wp2_with (fail)
        (with_reducible refine (HSP1.out _ ?_).mono ?_)
        · exact Below.refl _ _
        rintro e w9 ⟨rfl, hb9⟩
        have hE9 : Ext2 w8 w9 := hb9
        have hB9 := below_ext hB8 hE9
        go_wp2_with (fail)
        (with_reducible refine (HSP2.out _ hE9).mono ?_)
        rintro e w10 ⟨rfl, hb10⟩
        have hB10 := below_ext hB9 hb10
        go_wp2_with (fail)
        (with_reducible refine (HA.out _).mono ?_)
        rintro e w11 ⟨rfl, hb11⟩
        have hB11 := below_ext hB10 hb11
        go_wp2_with (fail)
        go_ret
        exact ⟨rfl, hB11⟩
      · have c0 : ((ut : Int) != (T.tests.length : Int)) = true := by simp only [bne_iff_ne, ne_eq]; omega
        clear hal
        go_wp2_with (fail)
        (with_reducible refine (HA.out _).mono ?_)
        rintro e w11 ⟨rfl, hb11⟩
        have hB11 := below_ext hBr hb11
        go_wp2_with (fail)
        go_ret
        exact ⟨rfl, hB11⟩
theorem lawPrefix_any {T : Task} {s : TSl} {p : Int} {w : World} (hT : TaskAt w T s) (hp0 : 0 ≤ p ∧ p ≤ 65535) : Calls Try.prog 8 #[.agg #[.slice s.h.a T.rule.heat.length s.h.cap, .slice s.w.a T.rule.wet.length s.w.cap, .int .i64 T.rule.own, .int .i64 T.rule.feed, .int .i64 T.rule.g0, .int .i64 T.rule.g1, .int .i64 T.rule.g2, .int .i64 T.rule.lost, .int .i64 T.first, .slice s.d.a T.days.length s.d.cap, .int .i64 T.start.lo, .int .i64 T.start.hi, .slice s.t.a T.tests.length s.t.cap], .int .u16 p] w fun e w' => e = .returned (.bool true) ∧ Below w.heap.size w w' := by
  by_cases h0 : (D.checkTask T).2.2 = 0
  · exact prefix_yes hT hp0 h0
  · exact prefix_no hT h0
end Go.Proofs.Ytfjbgcaogffiaaa
