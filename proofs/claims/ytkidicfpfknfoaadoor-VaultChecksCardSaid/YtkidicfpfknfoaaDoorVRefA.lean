/-
  ref.room, first, amount, metres, name.
-/
import Derived.Test.YtkidicfpfknfoaaDoorVNamed2
namespace Go.Proofs.YtkidicfpfknfoaaDoor
open Go.RowKit D
set_option linter.unusedVariables false
set_option linter.unusedSimpArgs false
attribute [local go_sem high] run_minI run_maxI
attribute [local go_sem] upon2 cls_cell cls_frozen forall_const exists_eq_left'
attribute [local go_sem] FirstUpon
set_option maxRecDepth 100000 in
set_option maxHeartbeats 2000000 in
theorem roomR_any (r : Rm) (w : World) : Calls Tryd.prog 52 #[.agg #[.string r.name, .int .i64 r.tlo, .int .i64 r.thi, .int .i64 r.dlo, .int .i64 r.dhi, .bool r.people, .bool r.allows, .int .i64 r.most, .int .i64 r.x, .int .i64 r.y]] w fun e w' => e = .returned (.int .i64 (roomE r)) ∧ Below w.heap.size w w' := by
  obtain ⟨E, hE⟩ : ∃ E, E = roomE r := ⟨_, rfl⟩
  rw [← hE]
  unfold roomE at hE
  obtain ⟨v1, hv1⟩ : ∃ v, v = inB r.tlo (-300) 600 := ⟨_, rfl⟩
  obtain ⟨v2, hv2⟩ : ∃ v, v = inB r.thi (-300) 600 := ⟨_, rfl⟩
  obtain ⟨v3, hv3⟩ : ∃ v, v = inB r.dlo 0 1000 := ⟨_, rfl⟩
  obtain ⟨v4, hv4⟩ : ∃ v, v = inB r.dhi 0 1000 := ⟨_, rfl⟩
  obtain ⟨v5, hv5⟩ : ∃ v, v = inB r.most 0 10000000 := ⟨_, rfl⟩
  obtain ⟨v6, hv6⟩ : ∃ v, v = inB r.x 0 10000 := ⟨_, rfl⟩
  obtain ⟨v7, hv7⟩ : ∃ v, v = inB r.y 0 10000 := ⟨_, rfl⟩
  rw [← hv1, ← hv2, ← hv3, ← hv4, ← hv5, ← hv6, ← hv7] at hE
  have HE := Lib.hid hE
  have H1 : Hid (∀ W, Calls Tryd.prog 63 #[.int .i64 r.tlo] W fun e w' => e = .returned (.bool v1) ∧ W = w') := Lib.hid fun W => by rw [hv1]; exact temp_any _ W
  have H2 : Hid (∀ W, Calls Tryd.prog 63 #[.int .i64 r.thi] W fun e w' => e = .returned (.bool v2) ∧ W = w') := Lib.hid fun W => by rw [hv2]; exact temp_any _ W
  have H3 : Hid (∀ W, Calls Tryd.prog 50 #[.int .i64 r.dlo, .int .i64 0, .int .i64 1000] W fun e w' => e = .returned (.bool v3) ∧ W = w') := Lib.hid fun W => by rw [hv3]; exact in_any _ _ _ W
  have H4 : Hid (∀ W, Calls Tryd.prog 50 #[.int .i64 r.dhi, .int .i64 0, .int .i64 1000] W fun e w' => e = .returned (.bool v4) ∧ W = w') := Lib.hid fun W => by rw [hv4]; exact in_any _ _ _ W
  have H5 : Hid (∀ W, Calls Tryd.prog 50 #[.int .i64 r.most, .int .i64 0, .int .i64 10000000] W fun e w' => e = .returned (.bool v5) ∧ W = w') := Lib.hid fun W => by rw [hv5]; exact in_any _ _ _ W
  have H6 : Hid (∀ W, Calls Tryd.prog 50 #[.int .i64 r.x, .int .i64 0, .int .i64 10000] W fun e w' => e = .returned (.bool v6) ∧ W = w') := Lib.hid fun W => by rw [hv6]; exact in_any _ _ _ W
  have H7 : Hid (∀ W, Calls Tryd.prog 50 #[.int .i64 r.y, .int .i64 0, .int .i64 10000] W fun e w' => e = .returned (.bool v7) ∧ W = w') := Lib.hid fun W => by rw [hv7]; exact in_any _ _ _ W
  clear hE hv1 hv2 hv3 hv4 hv5 hv6 hv7
  go_enter Tryd.func52, Tryd.ntmps52
  go_wp2_with (fail)
  (with_reducible refine (H1.out _).mono ?_)
  rintro e w' ⟨rfl, rfl⟩
  cases v1
  case false =>
    have hE2 : E = 7 := by rw [HE.out, if_pos (by simp)]
    have HE2 := Lib.hid hE2
    clear hE2
    go_wp2_with (fail)
    go_ret
    exact ⟨ret_int HE2.out.symm, below_alloc _ _⟩
  case true =>
  go_wp2_with (fail)
  (with_reducible refine (H2.out _).mono ?_)
  rintro e w' ⟨rfl, rfl⟩
  cases v2
  case false =>
    have hE2 : E = 7 := by rw [HE.out, if_pos (by simp)]
    have HE2 := Lib.hid hE2
    clear hE2
    go_wp2_with (fail)
    go_ret
    exact ⟨ret_int HE2.out.symm, below_alloc _ _⟩
  case true =>
  go_wp2_with (fail)
  (with_reducible refine (H3.out _).mono ?_)
  rintro e w' ⟨rfl, rfl⟩
  cases v3
  case false =>
    have hE2 : E = 7 := by rw [HE.out, if_pos (by simp)]
    have HE2 := Lib.hid hE2
    clear hE2
    go_wp2_with (fail)
    go_ret
    exact ⟨ret_int HE2.out.symm, below_alloc _ _⟩
  case true =>
  go_wp2_with (fail)
  (with_reducible refine (H4.out _).mono ?_)
  rintro e w' ⟨rfl, rfl⟩
  cases v4
  case false =>
    have hE2 : E = 7 := by rw [HE.out, if_pos (by simp)]
    have HE2 := Lib.hid hE2
    clear hE2
    go_wp2_with (fail)
    go_ret
    exact ⟨ret_int HE2.out.symm, below_alloc _ _⟩
  case true =>
  go_wp2_with (fail)
  (with_reducible refine (H5.out _).mono ?_)
  rintro e w' ⟨rfl, rfl⟩
  cases v5
  case false =>
    have hE2 : E = 7 := by rw [HE.out, if_pos (by simp)]
    have HE2 := Lib.hid hE2
    clear hE2
    go_wp2_with (fail)
    go_ret
    exact ⟨ret_int HE2.out.symm, below_alloc _ _⟩
  case true =>
  go_wp2_with (fail)
  (with_reducible refine (H6.out _).mono ?_)
  rintro e w' ⟨rfl, rfl⟩
  cases v6
  case false =>
    have hE2 : E = 7 := by rw [HE.out, if_pos (by simp)]
    have HE2 := Lib.hid hE2
    clear hE2
    go_wp2_with (fail)
    go_ret
    exact ⟨ret_int HE2.out.symm, below_alloc _ _⟩
  case true =>
  go_wp2_with (fail)
  (with_reducible refine (H7.out _).mono ?_)
  rintro e w' ⟨rfl, rfl⟩
  cases v7
  case false =>
    have hE2 : E = 7 := by rw [HE.out, if_pos (by simp)]
    have HE2 := Lib.hid hE2
    clear hE2
    go_wp2_with (fail)
    go_ret
    exact ⟨ret_int HE2.out.symm, below_alloc _ _⟩
  case true =>
  by_cases ht : r.thi < r.tlo
  · have HT := Lib.hid ht
    go_wp2_with (fail)
    go_ret
    exact ⟨ret_int (by rw [HE.out, if_neg (by simp), if_pos (.inl HT.out)]), below_alloc _ _⟩
  by_cases hd : r.dhi < r.dlo
  · have HD := Lib.hid hd
    go_wp2_with (fail)
    go_ret
    exact ⟨ret_int (by rw [HE.out, if_neg (by simp), if_pos (.inr HD.out)]), below_alloc _ _⟩
  · have HD := Lib.hid hd; have HT := Lib.hid ht
    go_wp2_with (fail)
    go_ret
    exact ⟨ret_int (by rw [HE.out, if_neg (by simp), if_neg (by have := HT.out; have := HD.out; omega)]), below_alloc _ _⟩
theorem elInt2 : Elem Tryd.prog 51 3 (.int .i64 0) 1 8 := elInt
set_option maxRecDepth 100000 in
set_option maxHeartbeats 2000000 in
theorem firstR_any {S : Site} {s : SSl} {w : World} (hS : CansS w s.c S.cans) (hn : S.cans.length ≤ 30) : Calls Tryd.prog 53 #[.agg #[.slice s.r.a S.rooms.length s.r.cap, .slice s.c.a S.cans.length s.c.cap, .int .i64 S.rlo, .int .i64 S.rhi, .slice s.p.a S.steps.length s.p.cap]] w fun e w' => (∃ v, e = .returned v ∧ OwnR w' w.heap.size 3 1 v S.cans.length (intC (firstW S.cans))) ∧ Below w.heap.size w w' := by
  have HS := Lib.hid hS
  have hcl := hS.le; have hcm := hS.max
  obtain ⟨rs, ⟨ca, cc⟩, ps⟩ := s
  dsimp only at hcl hcm
  clear hS
  go_enter Tryd.func53, Tryd.ntmps53
  go_wp2_with (fail)
  refine wp_name ?_
  intro w1 h1
  obtain ⟨b1, hb1⟩ : ∃ b, b = w.heap.size := ⟨_, rfl⟩
  have x1 : w1.heap[b1]? = some (Obj.cells #[.slice rs.a S.rooms.length rs.cap, .slice ca S.cans.length cc, .int .i64 S.rlo, .int .i64 S.rhi, .slice ps.a S.steps.length ps.cap] 28) := by rw [h1, hb1]; exact blk_new _ _
  have hB1 : Below w.heap.size w w1 := by rw [h1]; exact below_alloc _ _
  have X1 := Lib.hid x1
  have hle1 : w.heap.size < w1.heap.size := by rw [h1]; simp
  rw [← hb1]
  clear h1 hb1 x1
  go_loopw [3, 4] (fun v z wr => ∃ k : Nat, z = .int .i64 (k : Int) ∧ k ≤ S.cans.length ∧ Below w.heap.size w wr ∧ wr.heap[b1]? = some (Obj.cells #[.slice rs.a S.rooms.length rs.cap, .slice ca S.cans.length cc, .int .i64 S.rlo, .int .i64 S.rhi, .slice ps.a S.steps.length ps.cap] 28) ∧ OwnR wr w.heap.size 3 1 v k (intC (firstW S.cans))) (fun _ z _ => S.cans.length - (intOf z).toNat)
  case atStart => exact ⟨0, rfl, by omega, hB1, X1.out, own_nil _ _ _ _ _⟩
  case round =>
    obtain ⟨k, rfl, hk, hB, x1, hO⟩ := hrel
    have HO := Lib.hid hO; clear hO
    by_cases hlt : k < S.cans.length
    · go_light
      obtain ⟨cb, coff, hca, -, -, -, c3⟩ := cn_cells (HS.out.below hB) hlt
      dsimp only at hca
      subst hca
      have q1c := cell_blk x1
      have q1f := frz_blk x1
      obtain ⟨x, hx⟩ : ∃ x, x = (cnD S.cans k).room := ⟨_, rfl⟩
      rw [← hx] at c3
      have HX := Lib.hid hx; have X1' := Lib.hid x1
      have p0 : (0 : Int) ≤ (k : Int) := by omega
      have p1 : (k : Int) < (S.cans.length : Int) := by omega
      have w3 : IntKind.i64.wrap ((k : Int) + 1) = (k : Int) + 1 := IntWalk.i64_in _ (by omega)
      clear hx x1
      go_wp2_with (at_builtin; refine app_one [.int .i64 x] elInt rfl _ _ rfl w.heap.size rfl (HO.out.below (below_alloc' _ _)) wr.heap.size 1 rfl (blk_new _ _) (by simp [Value.oneCell']) (by omega) (by have := hB.size; simp; omega) ?_; intro v' w2 hO2 hg2)
      have hB2 := below_app hB HO.out hB.size hg2
      have x2 := app_blk HO.out hg2 X1'.out (by decide)
      have X2 := Lib.hid x2
      have hO3 : OwnR w2 w.heap.size 3 1 v' (k + 1) (intC (firstW S.cans)) := hO2.congr fun i j hi hj => by
        replace hj : j < 1 := by simpa using hj
        rcases Nat.lt_or_ge i k with h | h
        · rw [upd_lt h]
        · obtain rfl : i = k := by omega
          obtain rfl : j = 0 := by omega
          rw [upd_at]; simp only [intC]; rw [firstW_at hlt, ← HX.out]; rfl
      have HO3 := Lib.hid hO3
      clear hO2 hO3 hg2 q1c q1f c3 x2
      go_wp2_with (fail)
      go_roundw
      case rel => exact ⟨k + 1, by go_num, by omega, hB2, X2.out, HO3.out⟩
      case measure => simp [intOf]; omega
    · obtain rfl : k = S.cans.length := by omega
      have r9 : ¬ (S.cans.length : Int) < (S.cans.length : Int) := by omega
      have q1c := cell_blk x1
      have q1f := frz_blk x1
      clear x1
      go_wp2_with (fail)
      go_ret
      exact ⟨⟨_, rfl, HO.out⟩, hB⟩
set_option maxRecDepth 100000 in
set_option maxHeartbeats 2000000 in
theorem amountR_any {S : Site} {s : SSl} {t : Sl} {wh : List Int} {r : Int} {w : World} (hS : CansS w s.c S.cans) (hC : CansOk S) (hn : S.cans.length ≤ 30) (hT : IntsS w t wh) (hl : wh.length ≤ S.cans.length) : Calls Tryd.prog 54 #[.agg #[.slice s.r.a S.rooms.length s.r.cap, .slice s.c.a S.cans.length s.c.cap, .int .i64 S.rlo, .int .i64 S.rhi, .slice s.p.a S.steps.length s.p.cap], .slice t.a wh.length t.cap, .int .i64 r] w fun e w' => e = .returned (.int .i64 (amtK S.cans wh r wh.length)) ∧ Below w.heap.size w w' := by
  have HS := Lib.hid hS; have HT := Lib.hid hT; have HC := Lib.hid hC
  have hcl := hS.le; have hcm := hS.max; have htl := hT.le; have htm := hT.max
  obtain ⟨rs, ⟨ca, cc⟩, ps⟩ := s
  obtain ⟨ta, tc⟩ := t
  dsimp only at hcl hcm htl htm
  clear hS hT hC
  go_enter Tryd.func54, Tryd.ntmps54
  go_wp2_with (fail)
  refine wp_name ?_
  intro w1 h1
  obtain ⟨b1, hb1⟩ : ∃ b, b = w.heap.size := ⟨_, rfl⟩
  have x1 : w1.heap[b1]? = some (Obj.cells #[.slice rs.a S.rooms.length rs.cap, .slice ca S.cans.length cc, .int .i64 S.rlo, .int .i64 S.rhi, .slice ps.a S.steps.length ps.cap] 28) := by rw [h1, hb1]; exact blk_new _ _
  have hB1 : Below w.heap.size w w1 := by rw [h1]; exact below_alloc _ _
  rw [← hb1]
  clear h1 hb1
  have q1c := cell_blk x1
  have q1f := frz_blk x1
  have Q1c := Lib.hid q1c
  clear q1f
  go_loop [7, 8] (fun v z => ∃ k : Nat, z = .int .i64 (k : Int) ∧ k ≤ wh.length ∧ v = .int .i64 (amtK S.cans wh r k)) (fun _ z => wh.length - (intOf z).toNat)
  case atStart => exact ⟨0, rfl, by omega, rfl⟩
  case round =>
    obtain ⟨k, rfl, hk, rfl⟩ := hrel
    by_cases hlt : k < wh.length
    · go_light
      obtain ⟨cb, coff, hca, -, c1, c2, -⟩ := cn_cells (HS.out.below hB1) (i := k) (by omega)
      dsimp only at hca
      subst hca
      obtain ⟨tb, toff, hta, t0⟩ := int_cell (HT.out.below hB1) hlt
      dsimp only at hta
      subst hta
      have hfr := HC.out.frames k (by omega)
      have hac := amtK_nonneg HC.out (wh := wh) (r := r) (k := k) (by omega)
      obtain ⟨x, hx⟩ : ∃ x, x = cnD S.cans k := ⟨_, rfl⟩
      obtain ⟨y, hy⟩ : ∃ y, y = intD wh k := ⟨_, rfl⟩
      obtain ⟨A, hA⟩ : ∃ A, A = amtK S.cans wh r k := ⟨_, rfl⟩
      rw [← hx] at c1 c2 hfr
      rw [← hy] at t0
      rw [← hA] at hac ⊢
      have HX := Lib.hid hx; have HY := Lib.hid hy; have HA := Lib.hid hA
      have p0 : (0 : Int) ≤ (k : Int) := by omega
      have p1 : (k : Int) < (wh.length : Int) := by omega
      have p2 : (k : Int) < (S.cans.length : Int) := by omega
      clear hx hy hA
      by_cases hyr : y = r
      · have hb1 : (y == r) = true := by simp [hyr]
        by_cases hxb : x.base = 1
        · have hb2 : (x.base == 1) = true := by simp [hxb]
          have HYR := Lib.hid hyr; have HXB := Lib.hid hxb
          clear hyr hxb
          go_wp2_with (fail)
          go_round
          case rel => exact ⟨k + 1, by go_num, by omega, by rw [amtK, ← HX.out, ← HY.out, if_pos ⟨HYR.out, HXB.out⟩, ← HA.out]⟩
          case measure => simp [intOf]; omega
        · have hb2 : (x.base == 1) = false := by simp [hxb]
          have HXB := Lib.hid hxb
          clear hyr hxb
          go_wp2_with (fail)
          go_round
          case rel => exact ⟨k + 1, by go_num, by omega, by rw [amtK, ← HX.out, if_neg (fun h => HXB.out h.2), ← HA.out, Int.add_zero]⟩
          case measure => simp [intOf]; omega
      · have hb1 : (y == r) = false := by simp [hyr]
        have HYR := Lib.hid hyr
        clear hyr
        go_wp2_with (fail)
        go_round
        case rel => exact ⟨k + 1, by go_num, by omega, by rw [amtK, ← HY.out, if_neg (fun h => HYR.out h.1), ← HA.out, Int.add_zero]⟩
        case measure => simp [intOf]; omega
    · obtain rfl : k = wh.length := by omega
      have r9 : ¬ (wh.length : Int) < (wh.length : Int) := by omega
      go_wp2_with (fail)
      go_ret
      exact ⟨rfl, hB1⟩
theorem metK_zero {l : List Stp} (h : ∀ i, i < l.length → 0 ≤ (stD l i).over) {a : Int} (ha : a ≤ 0) : ∀ k, k ≤ l.length → metK l a k = 0
  | 0, _ => rfl
  | k + 1, hk => by rw [metK, if_neg (by have := h k (by omega); omega), metK_zero h ha k (by omega)]
set_option maxRecDepth 100000 in
set_option maxHeartbeats 2000000 in
theorem metresR_any {S : Site} {s : SSl} {a : Int} {w : World} (hS : StepsS w s.p S.steps) (hn : S.steps.length ≤ 8) (h0 : ∀ i, i < S.steps.length → 0 ≤ (stD S.steps i).over) : Calls Tryd.prog 80 #[.agg #[.slice s.r.a S.rooms.length s.r.cap, .slice s.c.a S.cans.length s.c.cap, .int .i64 S.rlo, .int .i64 S.rhi, .slice s.p.a S.steps.length s.p.cap], .int .i64 a] w fun e w' => e = .returned (.int .i64 (met S a)) ∧ Below w.heap.size w w' := by
  have HS := Lib.hid hS
  have hcl := hS.le; have hcm := hS.max
  obtain ⟨rs, cs, ⟨pa, pc⟩⟩ := s
  dsimp only at hcl hcm
  have hM : a ≤ 0 → met S a = 0 := fun h => metK_zero h0 h _ (Nat.le_refl _)
  have HM := Lib.hid hM
  clear hS hM h0
  by_cases ha : 0 < a
  · go_enter Tryd.func80, Tryd.ntmps80
    go_wp2_with (fail)
    refine wp_name ?_
    intro w1 h1
    obtain ⟨b1, hb1⟩ : ∃ b, b = w.heap.size := ⟨_, rfl⟩
    have x1 : w1.heap[b1]? = some (Obj.cells #[.slice rs.a S.rooms.length rs.cap, .slice cs.a S.cans.length cs.cap, .int .i64 S.rlo, .int .i64 S.rhi, .slice pa S.steps.length pc] 28) := by rw [h1, hb1]; exact blk_new _ _
    have hB1 : Below w.heap.size w w1 := by rw [h1]; exact below_alloc _ _
    rw [← hb1]
    clear h1 hb1
    have q1c := cell_blk x1
    have q1f := frz_blk x1
    clear q1f
    go_loop [5, 6] (fun v z => ∃ k : Nat, z = .int .i64 (k : Int) ∧ k ≤ S.steps.length ∧ v = .int .i64 (metK S.steps a k)) (fun _ z => S.steps.length - (intOf z).toNat)
    case atStart => exact ⟨0, rfl, by omega, rfl⟩
    case round =>
      obtain ⟨k, rfl, hk, rfl⟩ := hrel
      by_cases hlt : k < S.steps.length
      · go_light
        obtain ⟨pb, poff, hpa, c0, c1⟩ := st_cells (HS.out.below hB1) hlt
        dsimp only at hpa
        subst hpa
        obtain ⟨x, hx⟩ : ∃ x, x = stD S.steps k := ⟨_, rfl⟩
        rw [← hx] at c0 c1
        have HX := Lib.hid hx
        have p0 : (0 : Int) ≤ (k : Int) := by omega
        have p1 : (k : Int) < (S.steps.length : Int) := by omega
        clear hx
        by_cases ho : x.over < a
        · go_wp2_with (fail)
          go_round
          case rel => exact ⟨k + 1, by go_num, by omega, by rw [metK, ← HX.out, if_pos ho]⟩
          case measure => simp [intOf]; omega
        · go_wp2_with (fail)
          go_round
          case rel => exact ⟨k + 1, by go_num, by omega, by rw [metK, ← HX.out, if_neg (by omega)]⟩
          case measure => simp [intOf]; omega
      · obtain rfl : k = S.steps.length := by omega
        have r9 : ¬ (S.steps.length : Int) < (S.steps.length : Int) := by omega
        go_wp2_with (fail)
        go_ret
        exact ⟨rfl, hB1⟩
  · rw [HM.out (by omega)]
    go_enter Tryd.func80, Tryd.ntmps80
    go_wp2_with (fail)
    refine wp_loop_rounds 1 ?_
    rw [rounds_succ]
    go_wp2_with (fail)
    all_goals
      go_ret
      exact ⟨rfl, below_alloc _ _⟩
end Go.Proofs.YtkidicfpfknfoaaDoor
