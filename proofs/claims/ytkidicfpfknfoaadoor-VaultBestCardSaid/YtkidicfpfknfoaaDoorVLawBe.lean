/-
  The law VaultBest, walked.
-/
import Derived.Test.YtkidicfpfknfoaaDoorVPlBe
import Derived.Test.YtkidicfpfknfoaaDoorVThr
import Derived.Test.YtkidicfpfknfoaaDoorVRefC
import Derived.Deep.Cut
import Derived.Deep.CutRange
import Derived.Deep.DeepCutAuto
namespace Go.Proofs.YtkidicfpfknfoaaDoor.D
set_option linter.unusedVariables false
theorem pathX_no {S : Site} {base : Int} {t : Span} {fr td : Int} (h : pathE S base t fr td ≠ 0) : pathX S base t fr td = pathE S base t fr td ∧ pathL S base t fr td = [] ∧ pathH S base t fr td = 0 := by
  have e : pathX S base t fr td = pathE S base t fr td := if_pos h
  exact ⟨e, if_neg (by rw [e]; exact h), if_neg (by rw [e]; exact h)⟩
/-- Where Path is left with an error, the law's first question is answered with yes. -/
theorem path_case {S : Site} {base : Int} {t : Span} {fr td : Int} (h : pathE S base t fr td ≠ 0) :
    ((checkV S).2.2 ≠ 0) ∨ ((checkV S).2.2 = 0 ∧ fr < 0) ∨ ((checkV S).2.2 = 0 ∧ 0 ≤ fr ∧ (S.rooms.length : Int) ≤ fr) ∨ ((checkV S).2.2 = 0 ∧ 0 ≤ fr ∧ fr < S.rooms.length ∧ td < 0) ∨
    ((checkV S).2.2 = 0 ∧ 0 ≤ fr ∧ fr < S.rooms.length ∧ 0 ≤ td ∧ (S.rooms.length : Int) ≤ td) ∨ ((checkV S).2.2 = 0 ∧ 0 ≤ fr ∧ fr < S.rooms.length ∧ 0 ≤ td ∧ td < S.rooms.length ∧ pathE S base t fr td ≠ 9) := by
  by_cases h1 : (checkV S).2.2 = 0
  · by_cases h2 : fr < 0
    · exact .inr (.inl ⟨h1, h2⟩)
    by_cases h3 : (S.rooms.length : Int) ≤ fr
    · exact .inr (.inr (.inl ⟨h1, by omega, h3⟩))
    by_cases h4 : td < 0
    · exact .inr (.inr (.inr (.inl ⟨h1, by omega, by omega, h4⟩)))
    by_cases h5 : (S.rooms.length : Int) ≤ td
    · exact .inr (.inr (.inr (.inr (.inl ⟨h1, by omega, by omega, by omega, h5⟩))))
    refine .inr (.inr (.inr (.inr (.inr ⟨h1, by omega, by omega, by omega, by omega, ?_⟩))))
    unfold pathE
    rw [if_neg (by omega)]
    split
    · decide
    · split
      · unfold spanE
        split
        · decide
        · split <;> decide
      · split <;> decide
  · exact .inl h1
end Go.Proofs.YtkidicfpfknfoaaDoor.D
namespace Go.Proofs.YtkidicfpfknfoaaDoor
open Go.RowKit D
set_option linter.unusedVariables false
set_option linter.unusedSimpArgs false
attribute [local go_sem high] run_minI run_maxI
attribute [local go_sem] upon2 cls_cell cls_frozen forall_const exists_eq_left'
attribute [local go_sem] FirstUpon
theorem natC_one {L : List Nat} {x i j : Nat} (hi : i < L.length + 1) (hj : j < 1) : upd (natC L) L.length [.int .i64 (x : Int)] i j = natC (L ++ [x]) i j := by
  obtain rfl : j = 0 := by omega
  by_cases h : i = L.length
  · subst h; rw [upd_at]; simp [natC, natD_new]
  · rw [upd_lt (by omega)]; simp only [natC, natD_app (show i < L.length by omega)]
theorem own_lit {w : World} {base b : Nat} {e : TypeId} {x : Value} (hb : w.heap[b]? = some (.cells #[x] e (0, 0))) (hle : base ≤ b) : OwnR w base e 1 (.slice (some ⟨b, 0, none⟩) 1 1) 1 (fun _ _ => x) := by
  have hz := blk_lt hb
  exact ⟨by simp [cellsOf], .inr ⟨b, 1, #[x], rfl, hle, hb, Nat.le_refl _, by unfold maxLen; omega, by simp, by simp [cellsOf]⟩⟩
theorem own_rowSl {w : World} {base : Nat} {e : TypeId} {sz : Nat} {v : Value} {n : Nat} {c : Nat → Nat → Value} (h : OwnR w base e sz v n c) : ∃ q : Sl, v = .slice q.a n q.cap ∧ RowS w q sz n c := by
  rcases h.forms with ⟨rfl, rfl⟩ | ⟨g, cap, rfl, -, hn, hc, hr, -, -⟩
  · exact ⟨⟨none, 0⟩, rfl, Nat.le_refl _, by decide, fun i j hi _ => absurd hi (Nat.not_lt_zero i)⟩
  · exact ⟨⟨some ⟨g, 0, none⟩, cap⟩, rfl, hn, hc, fun i j hi hj => ⟨g, 0, rfl, hr.2 i j hi hj⟩⟩
/-- What the law knows of the best way. -/
structure BestW (S : Site) (base : Int) (t : Span) (fr td : Nat) (Lb : List Sty) (H P : Int) (L : List Nat) (B : Bool) : Prop where
  len : Lb.length = L.length
  rooms : ∀ i, i < L.length → (syD Lb i).room = (natD L i : Int)
  five : L.length ≤ 5
  in_ : ∀ i, i < L.length → natD L i < S.rooms.length
  thr : thrO S t L = (H, B)
  or_ : (P = 0 ∧ B = true ∧ 1 ≤ L.length ∧ natD L 0 = fr ∧ natD L (L.length - 1) = td ∧ H = (bestP S base t fr td).1) ∨ (P = 9 ∧ B = false ∧ L.length = 0 ∧ (bestP S base t fr td).1 < 0)
theorem bestW {S : Site} {base : Int} {t : Span} {fr td : Nat} (hpe : pathE S base t (fr : Int) (td : Int) = 0) : ∃ L B, BestW S base t fr td (pathL S base t (fr : Int) (td : Int)) (pathH S base t (fr : Int) (td : Int)) (pathX S base t (fr : Int) (td : Int)) L B := by
  obtain ⟨-, -, -, ⟨-, hf⟩, -⟩ := pathE_ok hpe
  have hX : pathX S base t (fr : Int) (td : Int) = if (bestP S base t fr td).1 < 0 then 9 else 0 := by
    unfold pathX; rw [if_neg (by rw [hpe]; decide), Int.toNat_natCast, Int.toNat_natCast]
  by_cases hneg : (bestP S base t fr td).1 < 0
  · rw [if_pos hneg] at hX
    have hL : pathL S base t (fr : Int) (td : Int) = [] := if_neg (by rw [hX]; decide)
    have hH : pathH S base t (fr : Int) (td : Int) = 0 := if_neg (by rw [hX]; decide)
    rw [hL, hH, hX]
    exact ⟨[], false, rfl, fun i hi => absurd hi (Nat.not_lt_zero i), by simp, fun i hi => absurd hi (Nat.not_lt_zero i), rfl, .inr ⟨rfl, rfl, rfl, hneg⟩⟩
  · rw [if_neg hneg] at hX
    have hL : pathL S base t (fr : Int) (td : Int) = (bestP S base t fr td).2 := by unfold pathL; rw [if_pos hX, Int.toNat_natCast, Int.toNat_natCast]
    have hH : pathH S base t (fr : Int) (td : Int) = (bestP S base t fr td).1 := by unfold pathH; rw [if_pos hX, Int.toNat_natCast, Int.toNat_natCast]
    rw [hL, hH, hX]
    have hge : 0 ≤ (bestP S base t fr td).1 := by omega
    obtain ⟨L, ⟨l1, l5⟩, h3, h4, h5, h6, h7, h8⟩ := best_list hge
    exact ⟨L, true, h3, h4, l5, h8 (by omega), h5, .inl ⟨rfl, rfl, l1, h6, h7, rfl⟩⟩
theorem lawBest_end {w W : World} {T : Array Value} (hB : Below w.heap.size w W) (t6 : T.getD 6 undef = .bool true) : bodyPost Tryd.prog Tryd.f7 (fun e w' => e = .returned (.bool true) ∧ Below w.heap.size w w') .ret { tmps := T, defers := [] } W := by
  have u6 : T[6]?.getD undef = .bool true := by rw [← t6, Array.getD_eq_getD_getElem?]
  refine bodyPost_ret (v := .bool true) ?_ rfl ⟨rfl, hB⟩
  simp [results, Tryd.results7, go_sem, u6]
set_option maxRecDepth 100000 in
set_option maxHeartbeats 8000000 in
theorem lawBest_any {S : Site} {s : SSl} {X : D.Ask} {R : List Int} {sl : Sl} {w : World} (hS : SiteAt w S s) (hR : KindS .u8 w sl R) (hm : MaxAt w) :
    Calls Tryd.prog 7 #[.agg #[.slice s.r.a S.rooms.length s.r.cap, .slice s.c.a S.cans.length s.c.cap, .int .i64 S.rlo, .int .i64 S.rhi, .slice s.p.a S.steps.length s.p.cap], .agg #[.int .i64 X.t.lo, .int .i64 X.t.hi, .int .i64 X.room, .int .i64 X.next, .int .i64 X.hours, .int .i64 X.base], .slice sl.a R.length sl.cap] w fun e w' => e = .returned (.bool true) ∧ Below w.heap.size w w' := by
  have HS := Lib.hid hS; have HR := Lib.hid hR; have HM := Lib.hid hm
  have hrl := hS.rm.le; have hrm := hS.rm.max
  have hul := hR.1.le; have hum := hR.1.max
  obtain ⟨⟨ra, rc⟩, cs, ps⟩ := s
  obtain ⟨ua, uc⟩ := sl
  dsimp only at hrl hrm hul hum
  have hAw : ∀ W, Ext2 w W → Calls Tryd.prog 15 #[] W fun e w' => e = .returned (.bool true) ∧ Below W.heap.size W w' := fun W hW => awake_any (HM.out.below hW)
  have HAW := Lib.hid hAw
  clear hS hR hm hAw
  go_enter Tryd.func7, Tryd.ntmps7
  go_wp2_with (fail)
  refine calls_name ?_
  intro w1 hw1
  obtain ⟨n3, hn3⟩ : ∃ n, n = w.heap.size := ⟨_, rfl⟩
  obtain ⟨n4, hn4⟩ : ∃ n, n = n3 + 1 := ⟨_, rfl⟩
  have hE1 : Ext2 w w1 := by rw [hw1]; exact ext_trans (below_alloc' _ _) (below_alloc' _ _)
  have X3 : Hid (w1.heap[n3]? = some (Obj.cells #[.slice (SSl.mk ⟨ra, rc⟩ cs ps).r.a S.rooms.length (SSl.mk ⟨ra, rc⟩ cs ps).r.cap, .slice (SSl.mk ⟨ra, rc⟩ cs ps).c.a S.cans.length (SSl.mk ⟨ra, rc⟩ cs ps).c.cap, .int .i64 S.rlo, .int .i64 S.rhi, .slice (SSl.mk ⟨ra, rc⟩ cs ps).p.a S.steps.length (SSl.mk ⟨ra, rc⟩ cs ps).p.cap] 28)) := Lib.hid (by rw [hw1, hn3]; exact blk_alloc (blk_new _ _) _)
  have X4 : Hid (w1.heap[n4]? = some (Obj.cells #[.int .i64 X.t.lo, .int .i64 X.t.hi, .int .i64 X.room, .int .i64 X.next, .int .i64 X.hours, .int .i64 X.base] 62 (0, 0))) := Lib.hid (by rw [hw1, hn4, hn3]; exact blk_new' _ _ (by simp))
  have HE1 := Lib.hid hE1
  rw [← hn3, ← hn4]
  clear hw1 hn3 hn4 hE1
  refine (path_any (HS.out.below HE1.out) (HM.out.below HE1.out)).mono ?_
  rintro e w2 ⟨⟨la, lc⟩, rfl, hRw, hb2⟩
  have HE2 := Lib.hid (ext_trans HE1.out hb2)
  have X32 := Lib.hid (Ext2.blk hb2 X3.out); have X42 := Lib.hid (Ext2.blk hb2 X4.out)
  obtain ⟨Lb, hLb⟩ : ∃ L, L = pathL S X.base X.t X.room X.next := ⟨_, rfl⟩
  obtain ⟨H, hH⟩ : ∃ L, L = pathH S X.base X.t X.room X.next := ⟨_, rfl⟩
  obtain ⟨P, hP⟩ : ∃ L, L = pathX S X.base X.t X.room X.next := ⟨_, rfl⟩
  rw [← hLb] at hRw
  rw [← hLb, ← hH, ← hP]
  have HRW := Lib.hid hRw; have HLB := Lib.hid hLb; have HH := Lib.hid hH; have HP := Lib.hid hP
  have x3 := X32.out
  have q3c := cell_blk x3
  have q3f := frz_blk x3
  clear hb2 hRw hLb hH hP x3
  go_wp2_with (fail)
  refine (checkR_any (HS.out.below HE2.out)).mono ?_
  rintro e w3 ⟨rfl, hb3⟩
  have HE3 := Lib.hid (ext_trans HE2.out hb3)
  have X33 := Lib.hid (Ext2.blk hb3 X32.out); have X43 := Lib.hid (Ext2.blk hb3 X42.out)
  have HRW3 := Lib.hid (HRW.out.below hb3)
  obtain ⟨c1, c2, c3, hc⟩ : ∃ a b c, checkV S = (a, b, c) := ⟨_, _, _, rfl⟩
  rw [hc]
  have HC := Lib.hid hc
  dsimp only
  have x3 := X33.out; have x4 := X43.out
  clear hc hb3 q3c q3f
  have q3c := cell_blk x3
  have q3f := frz_blk x3
  have q4c := cell_blk x4
  have q4f := frz_blk x4
  clear x3 x4
  by_cases hpe : pathE S X.base X.t X.room X.next = 0
  case neg =>
    obtain ⟨e1, e2, e3⟩ := pathX_no hpe
    have hca := path_case hpe
    rw [HC.out] at hca
    dsimp only at hca
    have hP0 : P ≠ 0 := by rw [HP.out, e1]; exact hpe
    rw [← HLB.out] at e2; rw [← HH.out] at e3
    rw [← e1, ← HP.out] at hca
    rw [e2, e3]
    have d1 : ((P : Int) != 0) = true := by simp [hP0]
    have d2 : ((0 : Int) == 0) = true := rfl
    clear e1 e2 e3 hpe
    rcases hca with h | ⟨h, h1⟩ | ⟨h, h1, h2⟩ | ⟨h, h1, h2, h3⟩ | ⟨h, h1, h2, h3, h4⟩ | ⟨h, h1, h2, h3, h4, h5⟩
    · have d3 : (c3 != 0) = true := by simp [h]
      clear h hP0
      go_wp2_with (fail)
      refine (HAW.out _ HE3.out).mono ?_
      rintro e w4 ⟨rfl, hb4⟩
      go_wp2_with (fail)
      exact lawBest_end (ext_trans HE3.out hb4) rfl
    · subst h
      have d3 : ((0 : Int) != 0) = false := rfl
      clear hP0
      go_wp2_with (fail)
      refine (HAW.out _ HE3.out).mono ?_
      rintro e w4 ⟨rfl, hb4⟩
      go_wp2_with (fail)
      exact lawBest_end (ext_trans HE3.out hb4) rfl
    · subst h
      have d3 : ((0 : Int) != 0) = false := rfl
      have h1' : ¬ X.room < 0 := by omega
      clear hP0
      go_wp2_with (fail)
      refine (HAW.out _ HE3.out).mono ?_
      rintro e w4 ⟨rfl, hb4⟩
      go_wp2_with (fail)
      exact lawBest_end (ext_trans HE3.out hb4) rfl
    · subst h
      have d3 : ((0 : Int) != 0) = false := rfl
      have h1' : ¬ X.room < 0 := by omega
      have h2' : ¬ (S.rooms.length : Int) ≤ X.room := by omega
      clear hP0
      go_wp2_with (fail)
      refine (HAW.out _ HE3.out).mono ?_
      rintro e w4 ⟨rfl, hb4⟩
      go_wp2_with (fail)
      exact lawBest_end (ext_trans HE3.out hb4) rfl
    · subst h
      have d3 : ((0 : Int) != 0) = false := rfl
      have h1' : ¬ X.room < 0 := by omega
      have h2' : ¬ (S.rooms.length : Int) ≤ X.room := by omega
      have h3' : ¬ X.next < 0 := by omega
      clear hP0
      go_wp2_with (fail)
      refine (HAW.out _ HE3.out).mono ?_
      rintro e w4 ⟨rfl, hb4⟩
      go_wp2_with (fail)
      exact lawBest_end (ext_trans HE3.out hb4) rfl
    · subst h
      have d3 : ((0 : Int) != 0) = false := rfl
      have h1' : ¬ X.room < 0 := by omega
      have h2' : ¬ (S.rooms.length : Int) ≤ X.room := by omega
      have h3' : ¬ X.next < 0 := by omega
      have h4' : ¬ (S.rooms.length : Int) ≤ X.next := by omega
      have d4 : (P != 9) = true := by simp [h5]
      clear hP0 h5
      go_wp2_with (fail)
      refine (HAW.out _ HE3.out).mono ?_
      rintro e w4 ⟨rfl, hb4⟩
      go_wp2_with (fail)
      exact lawBest_end (ext_trans HE3.out hb4) rfl
  obtain ⟨hck, -, hsp, ⟨hf0, hf1⟩, ht0, ht1⟩ := pathE_ok hpe
  obtain ⟨t, xr, xn, xh, xb⟩ := X
  dsimp only at hpe hsp hf0 hf1 ht0 ht1
  obtain ⟨fr, rfl⟩ : ∃ n : Nat, xr = (n : Int) := ⟨xr.toNat, by omega⟩
  obtain ⟨td, rfl⟩ : ∃ n : Nat, xn = (n : Int) := ⟨xn.toNat, by omega⟩
  have hfl : fr < S.rooms.length := by omega
  have htl : td < S.rooms.length := by omega
  have hc3 : c3 = 0 := by have := chk_iff.2 hck; rw [HC.out] at this; exact this
  subst hc3
  obtain ⟨L, B, hW⟩ := bestW hpe
  have e1 := HLB.out; have e2 := HH.out; have e3 := HP.out
  dsimp only at e1 e2 e3
  rw [← e1, ← e2, ← e3] at hW
  have HW := Lib.hid hW; have HCK := Lib.hid hck; have HSP := Lib.hid hsp
  have hl5 := hW.five
  have hlen := hW.len
  obtain ⟨m, hm⟩ : ∃ m, m = L.length := ⟨_, rfl⟩
  rw [← hm] at hlen hl5
  have HMM := Lib.hid hm
  have hlbc := HRW3.out.le; have hlbm := HRW3.out.max
  dsimp only at hlbc hlbm
  rw [hlen] at hlbc ⊢
  have HLEN := Lib.hid hlen
  have d3 : ((0 : Int) != 0) = false := rfl
  have d9 : ((9 : Int) != 9) = false := rfl
  have d90 : ((9 : Int) != 0) = true := rfl
  have g1 : ¬ (fr : Int) < 0 := by omega
  have g2 : ¬ (S.rooms.length : Int) ≤ (fr : Int) := by omega
  have g3 : ¬ (td : Int) < 0 := by omega
  have g4 : ¬ (S.rooms.length : Int) ≤ (td : Int) := by omega
  have hPP : P = 0 ∨ P = 9 := by rcases hW.or_ with h | h
                                 · exact .inl h.1
                                 · exact .inr h.1
  clear hck hsp hpe hf0 hf1 ht0 ht1 e1 e2 e3 hW hm hlen HLB HH HP
  go_upto_region 3 with fail
  go_cut [76] from 41 to 76 (fun v wx => v = .bool false ∧ wx = w3)
  case first =>
    rcases hPP with rfl | rfl
    all_goals
      go_wp2_with (fail)
      go_meet
      case rel => exact ⟨rfl, rfl⟩
  case rest =>
    obtain ⟨rfl, hwc⟩ := hcut
    replace hwc := hwc.symm
    subst hwc
    go_wp2_with (fail)
    clear q3c q3f q4c q4f
    go_loopw [13, 14] (fun v z wr => ∃ i : Nat, z = .int .i64 (i : Int) ∧ i ≤ m ∧ OwnR wr w3.heap.size 3 1 v i (natC L) ∧ Ext2 w3 wr) (fun _ z _ => m - (intOf z).toNat)
    case atStart => exact ⟨0, rfl, by omega, own_nil _ _ _ _ _, Below.refl _ _⟩
    case round =>
      obtain ⟨i, rfl, hi, hO, hE⟩ := hrel
      have HO := Lib.hid hO; have HE := Lib.hid hE
      by_cases hlt : i < m
      · go_light
        obtain ⟨lb, loff, hla, d1⟩ := (HRW3.out.below hE).cell i 0 (by rw [HLEN.out]; exact hlt) (by omega)
        dsimp only at hla
        subst hla
        replace d1 : wr.cell? ⟨lb, loff + i * 2, none⟩ = some (.int .i64 (syD Lb i).room) := d1
        rw [HW.out.rooms i (by rw [← HMM.out]; exact hlt)] at d1
        have p0 : (0 : Int) ≤ (i : Int) := by omega
        have p1 : (i : Int) < (m : Int) := by omega
        have p2 : IntKind.i64.wrap ((i : Int) + 1) = (i : Int) + 1 := IntWalk.i64_in _ (by omega)
        have hsz := hE.size
        clear hO hE
        go_wp2_with (at_builtin; refine app_one [.int .i64 (natD L i : Int)] elInt rfl _ _ rfl w3.heap.size rfl (HO.out.below (below_alloc' _ _)) wr.heap.size 1 rfl (blk_new _ _) (by simp [Value.oneCell']) (by omega) (by simp; omega) ?_; intro v' w5 hO5 hg5)
        have HE5 := Lib.hid (below_app HE.out HO.out hsz hg5)
        have HO5 := Lib.hid hO5
        clear hO5 hg5 d1
        go_wp2_with (fail)
        go_roundw
        case rel =>
          refine ⟨i + 1, by go_num, by omega, HO5.out.congr fun i' j' hi' hj' => ?_, HE5.out⟩
          have hj' : j' < 1 := hj'
          obtain rfl : j' = 0 := by omega
          by_cases h : i' = i
          · subst h; rw [upd_at]; rfl
          · rw [upd_lt (by omega)]
        case measure => simp [intOf]; omega
      · obtain rfl : i = m := by omega
        have r1 : ¬ ((i : Nat) : Int) < (i : Int) := by omega
        obtain ⟨⟨va, vc⟩, rfl, hM⟩ := own_rowSl hO
        have HEW := Lib.hid (ext_trans HE3.out hE)
        have x3 := Ext2.blk hE X33.out; have x4 := Ext2.blk hE X43.out
        have hTh := through_any (X := ⟨t, (fr : Int), (td : Int), xh, xb⟩) (L := L) (HS.out.below HEW.out) (by rw [← HMM.out]; exact hM) HCK.out HSP.out HW.out.in_ HW.out.five (HM.out.below HEW.out)
        rw [← HMM.out, HW.out.thr] at hTh
        have HTH := Lib.hid hTh
        have q3c := cell_blk x3
        have q3f := frz_blk x3
        have q4c := cell_blk x4
        have q4f := frz_blk x4
        clear hTh hM hE hO x3 x4
        go_wp2_with (fail)
        refine HTH.out.mono ?_
        rintro e w6 ⟨rfl, hb6⟩
        have HE36 := Lib.hid (ext_trans HE.out hb6)
        have HE6 := Lib.hid (ext_trans HEW.out hb6)
        have X36 := Lib.hid (Ext2.blk HE36.out X33.out); have X46 := Lib.hid (Ext2.blk HE36.out X43.out)
        have HRW6 := Lib.hid (HRW3.out.below HE36.out)
        have x3 := X36.out; have x4 := X46.out
        clear hb6 q3c q3f q4c q4f
        have q3c := cell_blk x3
        have q3f := frz_blk x3
        have q4c := cell_blk x4
        have q4f := frz_blk x4
        clear x3 x4
        go_upto_region 11 with fail
        go_cut [144] from 108 to 144 (fun v wx => v = .bool false ∧ Ext2 w6 wx)
        case first =>
          rcases HW.out.or_ with ⟨h1, h2, h3, h4, h5, h6⟩ | ⟨h1, h2, h3, h4⟩
          · subst h1
            subst h2
            obtain ⟨m', rfl⟩ : ∃ m', i = m' + 1 := ⟨i - 1, by have := HMM.out; omega⟩
            obtain ⟨lb, loff, hla, a1⟩ := HRW6.out.cell 0 0 (by rw [HLEN.out]; omega) (by omega)
            obtain ⟨lb', loff', hla', a2⟩ := HRW6.out.cell m' 0 (by rw [HLEN.out]; omega) (by omega)
            dsimp only at hla hla'
            subst hla
            obtain ⟨rfl, rfl⟩ : lb = lb' ∧ loff = loff' := by simpa using hla'
            have b1 : w6.cell? ⟨lb, loff, none⟩ = some (.int .i64 (fr : Int)) := by
              have e : syC Lb 0 0 = .int .i64 (fr : Int) := by show Value.int .i64 (syD Lb 0).room = _; rw [HW.out.rooms 0 (by omega), h4]
              rw [e] at a1; simpa using a1
            have b2 : w6.cell? ⟨lb, loff + m' * 2, none⟩ = some (.int .i64 (td : Int)) := by
              have hml : m' = L.length - 1 := by have := HMM.out; omega
              have e : syC Lb m' 0 = .int .i64 (td : Int) := by show Value.int .i64 (syD Lb m').room = _; rw [HW.out.rooms m' (by omega), hml, h5]
              rw [e] at a2; exact a2
            have wA : IntKind.i64.wrap (m' : Int) = (m' : Int) := IntWalk.i64_in _ (by omega)
            have f1 : decide ((0 : Int) ≤ (m' : Int)) = true := decide_eq_true (by omega)
            have f2 : decide ((m' : Int) < (m' : Int) + 1) = true := decide_eq_true (by omega)
            have f3 : decide ((0 : Int) < (m' : Int) + 1) = true := decide_eq_true (by omega)
            have f4 : decide ((5 : Int) < (m' : Int) + 1) = false := decide_eq_false (by omega)
            have f1' : (0 : Int) ≤ (m' : Int) := by omega
            have f2' : (m' : Int) < (m' : Int) + 1 := by omega
            have f3' : (0 : Int) < (m' : Int) + 1 := by omega
            have z1 : (H != H) = false := by simp
            have z2 : ((fr : Int) != (fr : Int)) = false := by simp
            have z3 : ((td : Int) != (td : Int)) = false := by simp
            clear hla' a1 a2 h3 h4 h5 h6
            refine region_ev [] [0, 1, 2, 3, 4, 5, 6, 7, 8, 9, 10, 11, 12, 13, 14, 15, 16, 17, 18, 19, 20, 21, 22, 23, 24, 25, 26, 27, 28, 29, 30, 31, 32, 33, 34, 35, 36] [] [] (by kernel_rfl) (by kernel_rfl) (by intro c a d v w h; cases d <;> exact h) ?_
            simp only [picks, List.drop_succ_cons, List.drop_zero]
            repeat (refine wpQ0_step (fun K hK => ?_); go_simp; (refine hK _ ?_; clear hK K))
            refine wpQ0_nil ?_
            repeat ((with_reducible refine wpQ2_step (fun K hK => ?_)); go_simp; first | ((with_reducible refine hK _ ?_); clear hK K) | (refine ite_undef (fun h => (by have h_ : (none : Option Bool) = some _ := h; cases h_)) ?_; (with_reducible refine hK _ ?_); clear hK K) | (apply Exists.intro; refine ⟨fun x => ?_, hK _ ?_⟩; (fail); clear hK K))
            (with_reducible refine wpQ2_nil ?_)
            refine Events.none_ fun w7 hg7 => ?_
            simp only [picks, List.drop_succ_cons, List.drop_zero]
            go_wp2_with (fail)
            go_meet
            case rel => exact ⟨rfl, hg7⟩
          · subst h1
            subst h2
            have z0 : ((9 : Int) == 0) = false := by decide
            clear h3 h4
            refine region_ev [] [0, 1, 2, 3, 4, 5, 6, 7, 8, 9, 10, 11, 12, 13, 14, 15, 16, 17, 18, 19, 20, 21, 22, 23, 24, 25, 26, 27, 28, 29, 30, 31, 32, 33, 34, 35, 36] [] [] (by kernel_rfl) (by kernel_rfl) (by intro c a d v w h; cases d <;> exact h) ?_
            simp only [picks, List.drop_succ_cons, List.drop_zero]
            repeat (refine wpQ0_step (fun K hK => ?_); go_simp; (refine hK _ ?_; clear hK K))
            refine wpQ0_nil ?_
            repeat ((with_reducible refine wpQ2_step (fun K hK => ?_)); go_simp; first | ((with_reducible refine hK _ ?_); clear hK K) | (refine ite_undef (fun h => (by have h_ : (none : Option Bool) = some _ := h; cases h_)) ?_; (with_reducible refine hK _ ?_); clear hK K) | (apply Exists.intro; refine ⟨fun x => ?_, hK _ ?_⟩; (fail); clear hK K))
            (with_reducible refine wpQ2_nil ?_)
            refine Events.none_ fun w7 hg7 => ?_
            simp only [picks, List.drop_succ_cons, List.drop_zero]
            go_wp2_with (fail)
            go_meet
            case rel => exact ⟨rfl, hg7⟩
        case rest =>
        obtain ⟨rfl, hE67⟩ := hcut
        obtain ⟨w7, rfl⟩ : ∃ x, x = wc := ⟨_, rfl⟩
        have HE7 := Lib.hid (ext_trans HE6.out hE67)
        have X37 := Lib.hid (Ext2.blk hE67 X36.out); have X47 := Lib.hid (Ext2.blk hE67 X46.out)
        clear hE67
        have x4 := X47.out
        clear q3c q3f q4c q4f
        have q4c := cell_blk x4
        have q4f := frz_blk x4
        clear x4
        go_wp2_with (fail)
        refine wp_name ?_
        intro w8 hw8
        obtain ⟨bl, hbl⟩ : ∃ b, b = w7.heap.size := ⟨_, rfl⟩
        have hE8 : Ext2 w7 w8 := by rw [hw8]; exact below_alloc' _ _
        have hO8 : OwnR w8 w7.heap.size 3 1 (.slice (some ⟨bl, 0, none⟩) 1 1) 1 (natC (lstK S.rooms.length fr R 0)) := (own_lit (x := .int .i64 (fr : Int)) (by rw [hw8, hbl]; exact blk_new _ _) (by omega)).congr fun i' j' hi' hj' => by
          obtain rfl : i' = 0 := by omega
          rfl
        have HO8 := Lib.hid hO8
        have HE8 := Lib.hid (ext_trans HE7.out hE8)
        have HE78 := Lib.hid hE8
        rw [← hbl]
        clear hw8 hbl hE8 hO8 q4c q4f
        go_loopw [13, 17] (fun v z wr => ∃ i : Nat, z = .int .i64 (i : Int) ∧ i ≤ min R.length 3 ∧ (fr = td → i = 0) ∧ OwnR wr w7.heap.size 3 1 v (i + 1) (natC (lstK S.rooms.length fr R i)) ∧ Ext2 w7 wr) (fun _ z _ => 4 - (intOf z).toNat)
        case atStart => exact ⟨0, rfl, by omega, fun _ => rfl, HO8.out, HE78.out⟩
        case round =>
          obtain ⟨k, rfl, hk, hft, hO, hE⟩ := hrel
          have HOk := Lib.hid hO; have HEk := Lib.hid hE; have HFT := Lib.hid hft
          have x4 := Ext2.blk hE X47.out
          have hsz := hE.size
          have q4c := cell_blk x4
          have q4f := frz_blk x4
          clear x4 hft
          go_upto_region 15 with fail
          go_cut [162] from 148 to 162 (fun v wx => v = .bool (decide ((k < R.length ∧ k < 3) ∧ ¬ fr = td)) ∧ wx = wr)
          case first =>
            by_cases h1 : k < R.length
            · have f1 : (k : Int) < (R.length : Int) := by omega
              by_cases h2 : k < 3
              · have f2 : (k : Int) < 3 := by omega
                by_cases h3 : fr = td
                · have f3 : ((fr : Int) != (td : Int)) = false := by simp [h3]
                  have e1 := Lib.hid (show Value.bool false = Value.bool (decide ((k < R.length ∧ k < 3) ∧ ¬ fr = td)) by rw [decide_eq_false (fun h => h.2 h3)])
                  clear h1 h2 h3
                  go_wp2_with (fail)
                  go_meet
                  case rel => exact ⟨e1.out, rfl⟩
                · have f3 : ((fr : Int) != (td : Int)) = true := by simp; omega
                  have e1 := Lib.hid (show Value.bool true = Value.bool (decide ((k < R.length ∧ k < 3) ∧ ¬ fr = td)) by rw [decide_eq_true ⟨⟨h1, h2⟩, h3⟩])
                  clear h1 h2 h3
                  go_wp2_with (fail)
                  go_meet
                  case rel => exact ⟨e1.out, rfl⟩
              · have f2 : ¬ (k : Int) < 3 := by omega
                have e1 := Lib.hid (show Value.bool false = Value.bool (decide ((k < R.length ∧ k < 3) ∧ ¬ fr = td)) by rw [decide_eq_false (fun h => h2 h.1.2)])
                clear h1 h2
                go_wp2_with (fail)
                go_meet
                case rel => exact ⟨e1.out, rfl⟩
            · have f1 : ¬ (k : Int) < (R.length : Int) := by omega
              have e1 := Lib.hid (show Value.bool false = Value.bool (decide ((k < R.length ∧ k < 3) ∧ ¬ fr = td)) by rw [decide_eq_false (fun h => h1 h.1.1)])
              clear h1
              go_wp2_with (fail)
              go_meet
              case rel => exact ⟨e1.out, rfl⟩
          case rest =>
          obtain ⟨rfl, hwc⟩ := hcut
          replace hwc := hwc.symm
          subst hwc
          by_cases hgo : (k < R.length ∧ k < 3) ∧ ¬ fr = td
          · obtain ⟨⟨hk1, hk2⟩, hk3⟩ := hgo
            rw [decide_eq_true ⟨⟨hk1, hk2⟩, hk3⟩]
            have f1 : (k : Int) < (R.length : Int) := by omega
            obtain ⟨ub, uoff, hua, c0⟩ := (HR.out.1.below (ext_trans HE7.out hE)).cell k 0 hk1 (by omega)
            dsimp only at hua
            subst hua
            replace c0 : wr.cell? ⟨ub, uoff + k, none⟩ = some (.int .u8 (intD R k)) := by
              have e : uoff + k * 1 + 0 = uoff + k := by omega
              rw [e] at c0; exact c0
            have hu := u8_in (HR.out.2 k hk1)
            obtain ⟨V, hV⟩ : ∃ V, V = intD R k := ⟨_, rfl⟩
            rw [← hV] at c0 hu
            obtain ⟨q, hq⟩ : ∃ q : Nat, q = V.toNat % S.rooms.length := ⟨_, rfl⟩
            have HQ : Hid (lstK S.rooms.length fr R (k + 1) = lstK S.rooms.length fr R k ++ [q]) := Lib.hid (by rw [lstK, hq, hV])
            have hq1 : q < S.rooms.length := by rw [hq]; exact Nat.mod_lt _ (by omega)
            have hm0 : V.tmod (S.rooms.length : Int) = (q : Int) := by
              rw [Int.tmod_eq_emod_of_nonneg hu.1, hq, Int.natCast_emod]; congr 1; omega
            have hz : (S.rooms.length : Int) ≠ 0 := by omega
            have hz' : ¬ S.rooms = [] := fun h => by rw [h] at hfl; exact absurd hfl (Nat.not_lt_zero _)
            have wV : IntKind.i64.wrap V = V := IntWalk.i64_in _ (by omega)
            have wq : IntKind.i64.wrap (q : Int) = (q : Int) := IntWalk.i64_in _ (by omega)
            have wk : IntKind.i64.wrap ((k : Int) + 1) = (k : Int) + 1 := IntWalk.i64_in _ (by omega)
            have p0 : (0 : Int) ≤ (k : Int) := by omega
            have p0' : decide ((0 : Int) ≤ (k : Int)) = true := decide_eq_true p0
            have p1' : decide ((k : Int) < (R.length : Int)) = true := decide_eq_true f1
            have x3 := Ext2.blk hE X37.out
            have q3c := cell_blk x3
            have q3f := frz_blk x3
            clear hO hE x3 hV hq
            go_wp2_with (fail)
            refine region_ev [] [0, 1, 2, 3, 4, 5, 6, 7, 8, 9] [(10, 175, none)] [11, 12] (by kernel_rfl) (by kernel_rfl) (by intro c a d v w h; cases d <;> exact h) ?_
            simp only [picks, List.drop_succ_cons, List.drop_zero]
            repeat (refine wpQ0_step (fun K hK => ?_); go_simp; (refine hK _ ?_; clear hK K))
            refine wpQ0_nil ?_
            repeat ((with_reducible refine wpQ2_step (fun K hK => ?_)); go_simp; first | ((with_reducible refine hK _ ?_); clear hK K) | (apply Exists.intro; refine ⟨fun x => ?_, hK _ ?_⟩; (fail); clear hK K))
            refine wpQ2_nil ?_
            refine Events.lay1 (fun b => .slice (some ⟨b, 0, none⟩) 1 1) (Obj.cells #[.int .i64 (q : Int)] 3 (0, 0)) ⟨_, rfl, rfl, rfl, fun W => by kernel_rfl⟩ fun bq w9 hbq hg9 nbq => ?_
            simp only [picks, List.drop_succ_cons, List.drop_zero]
            have HE9 := Lib.hid (ext_trans HEk.out hg9)
            have HO9 := Lib.hid (HOk.out.below hg9)
            have NB := Lib.hid nbq
            clear hg9 nbq c0 hm0 hz hz' wV wq q3c q3f q4c q4f
            go_wp2_with (at_builtin; refine app_one [.int .i64 (q : Int)] elInt rfl _ _ rfl w7.heap.size rfl HO9.out bq 1 rfl NB.out (by simp [Value.oneCell']) (by omega) HE9.out.size ?_; intro v' w10 hO10 hg10)
            have HE10 := Lib.hid (ext_grown HE9.out hg10 (own_block HO9.out))
            have HO10 := Lib.hid hO10
            clear hO10 hg10 NB HO9
            go_wp2_with (fail)
            go_roundw
            case rel =>
              refine ⟨k + 1, by go_num, by omega, fun h => absurd h hk3, HO10.out.congr fun i' j' hi' hj' => ?_, HE10.out⟩
              have := natC_one (L := lstK S.rooms.length fr R k) (x := q) (i := i') (j := j') (by rw [lstK_len]; exact hi') hj'
              rw [lstK_len] at this
              rw [HQ.out, ← this]
            case measure => simp [intOf]; omega
          · rw [decide_eq_false hgo]
            have HGO := Lib.hid hgo
            clear hgo
            go_upto_if 181 with fail
            go_cut [13] from 177 to 186 (fun v wx => ∃ q : Sl, v = .slice q.a (lstF S.rooms.length fr td R).length q.cap ∧ RowS wx q 1 (lstF S.rooms.length fr td R).length (natC (lstF S.rooms.length fr td R)) ∧ Ext2 w7 wx)
            case first =>
              by_cases hsame : fr = td
              · have hk0 := HFT.out hsame
                have f3 : ((fr : Int) != (td : Int)) = false := by simp [hsame]
                obtain ⟨⟨va2, vc2⟩, hv2, hM2⟩ := own_rowSl hO
                subst hv2
                have hfin : RowS wr ⟨va2, vc2⟩ 1 (lstF S.rooms.length fr td R).length (natC (lstF S.rooms.length fr td R)) := by
                  rw [lstF_same hsame]; rw [hk0] at hM2; exact hM2
                have hln : (lstF S.rooms.length fr td R).length = k + 1 := by rw [lstF_same hsame, hk0]; rfl
                have HFIN := Lib.hid hfin; have HLN := Lib.hid hln
                clear hM2 hfin hln hO hE hsame hk0
                go_wp2_with (fail)
                go_meet
                case rel => exact ⟨⟨va2, vc2⟩, by rw [HLN.out], HFIN.out, HEk.out⟩
              · have f3 : ((fr : Int) != (td : Int)) = true := by simp; omega
                have hkm : k = min R.length 3 := by have := HGO.out; omega
                have HKM := Lib.hid hkm; have HSM := Lib.hid hsame
                clear hO hE hsame hkm
                go_wp2_with (at_builtin; refine app_one [.int .i64 (td : Int)] elInt rfl _ _ rfl w7.heap.size rfl (HOk.out.below (below_alloc' _ _)) wr.heap.size 1 rfl (blk_new _ _) (by simp [Value.oneCell']) (by omega) (by simp; omega) ?_; intro v' w9 hO9 hg9)
                have HE9 := Lib.hid (below_app HEk.out HOk.out hsz hg9)
                have hO9' : OwnR w9 w7.heap.size 3 1 v' (lstF S.rooms.length fr td R).length (natC (lstF S.rooms.length fr td R)) := by
                  have hl : (lstF S.rooms.length fr td R).length = k + 1 + 1 := by rw [lstF_other HSM.out, List.length_append, lstK_len, ← HKM.out]; rfl
                  rw [hl]
                  refine OwnR.congr hO9 fun i' j' hi' hj' => ?_
                  have := natC_one (L := lstK S.rooms.length fr R k) (x := td) (i := i') (j := j') (by rw [lstK_len]; exact hi') hj'
                  rw [lstK_len] at this
                  rw [lstF_other HSM.out, ← HKM.out, ← this]
                obtain ⟨q9, hv9, hM9⟩ := own_rowSl hO9'
                have HV9 := Lib.hid hv9; have HM9 := Lib.hid hM9
                clear hO9 hO9' hg9 hv9 hM9
                go_wp2_with (fail)
                go_meet
                case rel => exact ⟨q9, HV9.out, HM9.out, HE9.out⟩
            case rest =>
            obtain ⟨⟨va2, vc2⟩, rfl, hM2, hE2⟩ := hcut
            obtain ⟨w9, rfl⟩ : ∃ x, x = wc := ⟨_, rfl⟩
            obtain ⟨Lf, hLf⟩ : ∃ L, L = lstF S.rooms.length fr td R := ⟨_, rfl⟩
            have hok := lstF_ok (R := R) hfl htl
            rw [← hLf] at hM2 hok ⊢
            obtain ⟨m2, hm2⟩ : ∃ m2, m2 = Lf.length := ⟨_, rfl⟩
            have HOK := Lib.hid hok; have HMF := Lib.hid hM2; have HLN := Lib.hid hm2
            have hm25 : m2 ≤ 5 := by rw [hm2]; exact hok.five
            have hmc : m2 ≤ vc2 := by rw [hm2]; exact hM2.le
            have hmx : vc2 ≤ 9223372036854775807 := hM2.max
            have HE9 := Lib.hid (ext_trans HE7.out hE2)
            have X39 := Lib.hid (Ext2.blk hE2 X37.out); have X49 := Lib.hid (Ext2.blk hE2 X47.out)
            rw [← hm2]
            clear hM2 hok hLf hE2 hm2 q4c q4f hO hE hsz hk HFT HOk HEk
            go_wp2_with (fail)
            go_loopw [18] (fun z wr => ∃ j : Nat, z = .int .i64 (j : Int) ∧ j ≤ m2 ∧ Ext2 w9 wr ∧ (∀ a, a < j → dupB Lf a = false) ∧ ∀ a, a < j → 0 < a → barred S xb (natD Lf a) = false) (fun z _ => m2 - (intOf z).toNat)
            case atStart => exact ⟨0, rfl, by omega, Below.refl _ _, fun a h => absurd h (Nat.not_lt_zero a), fun a h => absurd h (Nat.not_lt_zero a)⟩
            case round =>
              obtain ⟨j, rfl, hj, hE, hd, hb⟩ := hrel
              have HEj := Lib.hid hE; have HDU := Lib.hid hd; have HBA := Lib.hid hb
              clear hd hb
              by_cases hjl : j < m2
              · have f1 : (j : Int) < (m2 : Int) := by omega
                have wj : IntKind.i64.wrap ((j : Int) + 1) = (j : Int) + 1 := IntWalk.i64_in _ (by omega)
                clear hE
                go_wp2_with (fail)
                go_loopw [19] (fun z wr => ∃ l : Nat, z = .int .i64 (l : Int) ∧ l ≤ j ∧ Ext2 w9 wr ∧ ∀ a, a < l → natD Lf a ≠ natD Lf j) (fun z _ => j - (intOf z).toNat)
                case atStart => exact ⟨0, rfl, by omega, HEj.out, fun a h => absurd h (Nat.not_lt_zero a)⟩
                case round =>
                  obtain ⟨l, rfl, hl, hE, hne⟩ := hrel
                  have HEl := Lib.hid hE; have HNE := Lib.hid hne
                  clear hne
                  obtain ⟨vb, voff, hva, b2⟩ := nat_cell (HMF.out.below hE) (i := j) (by rw [← HLN.out]; exact hjl)
                  dsimp only at hva
                  subst hva
                  have g1' : (0 : Int) ≤ (j : Int) := by omega
                  have g2' : decide ((0 : Int) ≤ (j : Int)) = true := decide_eq_true g1'
                  have g3' : decide ((j : Int) < (m2 : Int)) = true := decide_eq_true f1
                  by_cases hll : l < j
                  · obtain ⟨vb', voff', hva', b1⟩ := nat_cell (HMF.out.below hE) (i := l) (by rw [← HLN.out]; omega)
                    dsimp only at hva'
                    obtain ⟨rfl, rfl⟩ : vb = vb' ∧ voff = voff' := by simpa using hva'
                    have p0 : (0 : Int) ≤ (l : Int) := by omega
                    have p1 : (l : Int) < (m2 : Int) := by omega
                    have p2 : (l : Int) < (j : Int) := by omega
                    have p0' : decide ((0 : Int) ≤ (l : Int)) = true := decide_eq_true p0
                    have p1' : decide ((l : Int) < (m2 : Int)) = true := decide_eq_true p1
                    have wl : IntKind.i64.wrap ((l : Int) + 1) = (l : Int) + 1 := IntWalk.i64_in _ (by omega)
                    clear hE hva'
                    by_cases heq : natD Lf l = natD Lf j
                    · have e1 : ((natD Lf l : Int) == (natD Lf j : Int)) = true := by simp [heq]
                      clear heq
                      go_wp2_with (fail)
                      refine region_ev [] [0, 1, 2, 3, 4, 5, 6, 7, 8] [] [] (by kernel_rfl) (by kernel_rfl) (by intro c a d v w h; cases d <;> exact h) ?_
                      simp only [picks, List.drop_succ_cons, List.drop_zero]
                      repeat (refine wpQ0_step (fun K hK => ?_); go_simp; (refine hK _ ?_; clear hK K))
                      refine wpQ0_nil ?_
                      repeat ((with_reducible refine wpQ2_step (fun K hK => ?_)); go_simp; first | ((with_reducible refine hK _ ?_); clear hK K) | (apply Exists.intro; refine ⟨fun x => ?_, hK _ ?_⟩; (fail); clear hK K))
                      refine wpQ2_nil ?_
                      refine Events.none_ fun w10 hg10 => ?_
                      simp only [picks, List.drop_succ_cons, List.drop_zero]
                      have HE10 := Lib.hid (ext_trans HE9.out (ext_trans HEl.out hg10))
                      clear hg10 b1 b2
                      go_wp2_with (fail)
                      refine (HAW.out _ HE10.out).mono ?_
                      rintro e w11 ⟨rfl, hb11⟩
                      go_wp2_with (fail)
                      exact lawBest_end (ext_trans HE10.out hb11) rfl
                    · have e1 : ((natD Lf l : Int) == (natD Lf j : Int)) = false := beq_eq_false_iff_ne.2 (by omega)
                      have HQN := Lib.hid heq
                      clear heq
                      go_wp2_with (fail)
                      refine region_ev [] [0, 1, 2, 3, 4, 5, 6, 7, 8] [] [] (by kernel_rfl) (by kernel_rfl) (by intro c a d v w h; cases d <;> exact h) ?_
                      simp only [picks, List.drop_succ_cons, List.drop_zero]
                      repeat (refine wpQ0_step (fun K hK => ?_); go_simp; (refine hK _ ?_; clear hK K))
                      refine wpQ0_nil ?_
                      repeat ((with_reducible refine wpQ2_step (fun K hK => ?_)); go_simp; first | ((with_reducible refine hK _ ?_); clear hK K) | (apply Exists.intro; refine ⟨fun x => ?_, hK _ ?_⟩; (fail); clear hK K))
                      refine wpQ2_nil ?_
                      refine Events.none_ fun w10 hg10 => ?_
                      simp only [picks, List.drop_succ_cons, List.drop_zero]
                      have HE10 := Lib.hid (ext_trans HEl.out hg10)
                      clear hg10 b1 b2
                      go_wp2_with (fail)
                      go_roundw
                      case rel => exact ⟨l + 1, by go_num, by omega, HE10.out, fun a ha => by
                        by_cases h : a = l
                        · rw [h]; exact HQN.out
                        · exact HNE.out a (by omega)⟩
                      case measure => simp [intOf]; omega
                  · obtain rfl : l = j := by omega
                    have r1 : ¬ ((l : Nat) : Int) < (l : Int) := by omega
                    have HDL := Lib.hid (dup_none HNE.out)
                    have hq1 := HOK.out.in_ l (by rw [← HLN.out]; exact hjl)
                    obtain ⟨q, hq⟩ : ∃ q, q = natD Lf l := ⟨_, rfl⟩
                    rw [← hq] at b2 hq1
                    have HQ := Lib.hid hq
                    obtain ⟨rb, roff, hra, hrc⟩ := rm_cells (HS.out.below (ext_trans HE9.out hE)).rm hq1
                    dsimp only at hra
                    subst hra
                    have d6 := hrc.c6
                    obtain ⟨al, hal⟩ : ∃ al, al = (rmD S.rooms q).allows := ⟨_, rfl⟩
                    rw [← hal] at d6
                    have HAL := Lib.hid hal
                    have x3 := Ext2.blk hE X39.out; have x4 := Ext2.blk hE X49.out
                    have p0 : (0 : Int) ≤ (q : Int) := by omega
                    have p1 : (q : Int) < (S.rooms.length : Int) := by omega
                    have p0' : decide ((0 : Int) ≤ (q : Int)) = true := decide_eq_true p0
                    have p1' : decide ((q : Int) < (S.rooms.length : Int)) = true := decide_eq_true p1
                    have q3c := cell_blk x3
                    have q3f := frz_blk x3
                    have q4c := cell_blk x4
                    have q4f := frz_blk x4
                    clear hE hrc hq hal x3 x4
                    have hgo : ∀ W, Ext2 w9 W → barred S xb q = false ∨ l = 0 → ∃ j : Nat, Value.int .i64 ((l : Int) + 1) = .int .i64 (j : Int) ∧ j ≤ m2 ∧ Ext2 w9 W ∧ (∀ a, a < j → dupB Lf a = false) ∧ ∀ a, a < j → 0 < a → barred S xb (natD Lf a) = false := fun W hW hb => by
                      refine ⟨l + 1, by go_num, by omega, hW, fun a ha => ?_, fun a ha h0 => ?_⟩
                      · by_cases h : a = l
                        · rw [h]; exact HDL.out
                        · exact HDU.out a (by omega)
                      · by_cases h : a = l
                        · rw [h, ← HQ.out]
                          rcases hb with h' | h'
                          · exact h'
                          · omega
                        · exact HBA.out a (by omega) h0
                    have HGO' := Lib.hid hgo
                    clear hgo
                    by_cases hl0 : 0 < l
                    · have e0 : decide ((0 : Int) < (l : Int)) = true := decide_eq_true (by omega)
                      have e0' : (0 : Int) < (l : Int) := by omega
                      by_cases hxb : xb = 1
                      · have e1 : (xb == 1) = true := beq_iff_eq.2 hxb
                        have HXB := Lib.hid hxb
                        clear hxb
                        cases al
                        · go_wp2_with (fail)
                          refine region_ev [] [0, 1, 2, 3, 4, 5, 6, 7, 8, 9, 10, 11, 12, 13, 14, 15, 16, 17, 18] [] [] (by kernel_rfl) (by kernel_rfl) (by intro c a d v w h; cases d <;> exact h) ?_
                          simp only [picks, List.drop_succ_cons, List.drop_zero]
                          repeat (refine wpQ0_step (fun K hK => ?_); go_simp; (refine hK _ ?_; clear hK K))
                          refine wpQ0_nil ?_
                          repeat ((with_reducible refine wpQ2_step (fun K hK => ?_)); go_simp; first | ((with_reducible refine hK _ ?_); clear hK K) | (refine ite_undef (fun h => (by have h_ : (none : Option Bool) = some _ := h; cases h_)) ?_; (with_reducible refine hK _ ?_); clear hK K) | (apply Exists.intro; refine ⟨fun x => ?_, hK _ ?_⟩; (fail); clear hK K))
                          (with_reducible refine wpQ2_nil ?_)
                          refine Events.none_ fun w10 hg10 => ?_
                          simp only [picks, List.drop_succ_cons, List.drop_zero]
                          have HE10 := Lib.hid (ext_trans HE9.out (ext_trans HEl.out hg10))
                          clear hg10 b2 d6 q3c q3f q4c q4f
                          go_wp2_with (fail)
                          refine (HAW.out _ HE10.out).mono ?_
                          rintro e w11 ⟨rfl, hb11⟩
                          go_wp2_with (fail)
                          exact lawBest_end (ext_trans HE10.out hb11) rfl
                        · go_wp2_with (fail)
                          refine region_ev [] [0, 1, 2, 3, 4, 5, 6, 7, 8, 9, 10, 11, 12, 13, 14, 15, 16, 17, 18] [] [] (by kernel_rfl) (by kernel_rfl) (by intro c a d v w h; cases d <;> exact h) ?_
                          simp only [picks, List.drop_succ_cons, List.drop_zero]
                          repeat (refine wpQ0_step (fun K hK => ?_); go_simp; (refine hK _ ?_; clear hK K))
                          refine wpQ0_nil ?_
                          repeat ((with_reducible refine wpQ2_step (fun K hK => ?_)); go_simp; first | ((with_reducible refine hK _ ?_); clear hK K) | (refine ite_undef (fun h => (by have h_ : (none : Option Bool) = some _ := h; cases h_)) ?_; (with_reducible refine hK _ ?_); clear hK K) | (apply Exists.intro; refine ⟨fun x => ?_, hK _ ?_⟩; (fail); clear hK K))
                          (with_reducible refine wpQ2_nil ?_)
                          refine Events.none_ fun w10 hg10 => ?_
                          simp only [picks, List.drop_succ_cons, List.drop_zero]
                          have HE10 := Lib.hid (ext_trans HEl.out hg10)
                          clear hg10 b2 d6 q3c q3f q4c q4f
                          go_wp2_with (fail)
                          go_roundw
                          case rel => exact HGO'.out _ HE10.out (.inl (by unfold barred; rw [← HAL.out]; simp))
                          case measure => simp [intOf]; omega
                      · have e1 : (xb == 1) = false := beq_eq_false_iff_ne.2 hxb
                        have HXB := Lib.hid hxb
                        clear hxb
                        go_wp2_with (fail)
                        refine region_ev [] [0, 1, 2, 3, 4, 5, 6, 7, 8, 9, 10, 11, 12, 13, 14, 15, 16, 17, 18] [] [] (by kernel_rfl) (by kernel_rfl) (by intro c a d v w h; cases d <;> exact h) ?_
                        simp only [picks, List.drop_succ_cons, List.drop_zero]
                        repeat (refine wpQ0_step (fun K hK => ?_); go_simp; (refine hK _ ?_; clear hK K))
                        refine wpQ0_nil ?_
                        repeat ((with_reducible refine wpQ2_step (fun K hK => ?_)); go_simp; first | ((with_reducible refine hK _ ?_); clear hK K) | (refine ite_undef (fun h => (by have h_ : (none : Option Bool) = some _ := h; cases h_)) ?_; (with_reducible refine hK _ ?_); clear hK K) | (apply Exists.intro; refine ⟨fun x => ?_, hK _ ?_⟩; (fail); clear hK K))
                        (with_reducible refine wpQ2_nil ?_)
                        refine Events.none_ fun w10 hg10 => ?_
                        simp only [picks, List.drop_succ_cons, List.drop_zero]
                        have HE10 := Lib.hid (ext_trans HEl.out hg10)
                        clear hg10 b2 d6 q3c q3f q4c q4f
                        go_wp2_with (fail)
                        go_roundw
                        case rel => exact HGO'.out _ HE10.out (.inl (by unfold barred; rw [decide_eq_false HXB.out]; rfl))
                        case measure => simp [intOf]; omega
                    · have e0 : decide ((0 : Int) < (l : Int)) = false := decide_eq_false (by omega)
                      have e0' : ¬ (0 : Int) < (l : Int) := by omega
                      have e0n : decide (0 < l) = false := decide_eq_false hl0
                      have e0m : (0 < l) = False := eq_false hl0
                      have HL0 := Lib.hid (show l = 0 by omega)
                      clear hl0
                      go_wp2_with (fail)
                      refine region_ev [] [0, 1, 2, 3, 4, 5, 6, 7, 8, 9, 10, 11, 12, 13, 14, 15, 16, 17, 18] [] [] (by kernel_rfl) (by kernel_rfl) (by intro c a d v w h; cases d <;> exact h) ?_
                      simp only [picks, List.drop_succ_cons, List.drop_zero]
                      repeat (refine wpQ0_step (fun K hK => ?_); go_simp; (refine hK _ ?_; clear hK K))
                      refine wpQ0_nil ?_
                      repeat ((with_reducible refine wpQ2_step (fun K hK => ?_)); go_simp; first | ((with_reducible refine hK _ ?_); clear hK K) | (refine ite_undef (fun h => (by have h_ : (none : Option Bool) = some _ := h; cases h_)) ?_; (with_reducible refine hK _ ?_); clear hK K) | (apply Exists.intro; refine ⟨fun x => ?_, hK _ ?_⟩; (fail); clear hK K))
                      (with_reducible refine wpQ2_nil ?_)
                      refine Events.none_ fun w10 hg10 => ?_
                      simp only [picks, List.drop_succ_cons, List.drop_zero]
                      have HE10 := Lib.hid (ext_trans HEl.out hg10)
                      clear hg10 b2 d6 q3c q3f q4c q4f
                      go_wp2_with (fail)
                      go_roundw
                      case rel => exact HGO'.out _ HE10.out (.inr HL0.out)
                      case measure => simp [intOf]; omega
              · obtain rfl : j = m2 := by omega
                have r1 : ¬ ((j : Nat) : Int) < (j : Int) := by omega
                have HEF := Lib.hid (ext_trans HE9.out hE)
                have x3 := Ext2.blk hE X39.out; have x4 := Ext2.blk hE X49.out
                obtain ⟨o, bb, ho⟩ : ∃ a b, thrO S t Lf = (a, b) := ⟨_, _, rfl⟩
                have hTh := through_any (X := ⟨t, (fr : Int), (td : Int), xh, xb⟩) (L := Lf) (HS.out.below HEF.out) (HMF.out.below hE) HCK.out HSP.out HOK.out.in_ HOK.out.five (HM.out.below HEF.out)
                rw [← HLN.out, ho] at hTh
                have HTH2 := Lib.hid hTh; have HO2 := Lib.hid ho
                have q3c := cell_blk x3
                have q3f := frz_blk x3
                have q4c := cell_blk x4
                have q4f := frz_blk x4
                clear hTh ho hE x3 x4 hj hjl
                go_wp2_with (fail)
                refine HTH2.out.mono ?_
                rintro e w10 ⟨rfl, hb10⟩
                have HE10 := Lib.hid (ext_trans HEF.out hb10)
                clear hb10 q3c q3f q4c q4f
                cases bb
                · go_wp2_with (fail)
                  refine (HAW.out _ HE10.out).mono ?_
                  rintro e w11 ⟨rfl, hb11⟩
                  go_wp2_with (fail)
                  exact lawBest_end (ext_trans HE10.out hb11) rfl
                · have hbe := best_end (base := xb) HOK.out (fun a ha => HDU.out a (by have := HLN.out; omega)) (fun a ha h0 => HBA.out a (by have := HLN.out; omega) h0) (by rw [HO2.out])
                  rw [HO2.out] at hbe
                  have hPH : P = 0 ∧ H ≤ o := by
                    rcases HW.out.or_ with ⟨h1, -, -, -, -, h6⟩ | ⟨-, -, -, h4⟩
                    · exact ⟨h1, by rw [h6]; exact hbe.2⟩
                    · have := hbe.1; omega
                  obtain ⟨rfl, hHo⟩ := hPH
                  have z0 : ((0 : Int) == 0) = true := rfl
                  clear hbe hPP
                  go_wp2_with (fail)
                  refine (HAW.out _ HE10.out).mono ?_
                  rintro e w11 ⟨rfl, hb11⟩
                  go_wp2_with (fail)
                  exact lawBest_end (ext_trans HE10.out hb11) rfl
end Go.Proofs.YtkidicfpfknfoaaDoor
