/-
  ref.room, first, amount, metres, name.
  ref.near.
  ref.name.
-/
import Derived.Test.YtfpaihjcbpaneaaGreatDoorVNamesA
import Derived.Test.YtfpaihjcbpaneaaGreatDoorVCheck
namespace Go.Proofs.YtfpaihjcbpaneaaGreatDoor
open Go.RowKit D
set_option linter.unusedVariables false
set_option linter.unusedSimpArgs false
attribute [local go_sem high] run_minI run_maxI
attribute [local go_sem] upon2 cls_cell cls_frozen forall_const exists_eq_left'
attribute [local go_sem] FirstUpon
set_option maxRecDepth 100000 in
set_option maxHeartbeats 2000000 in
theorem roomR_any (r : Rm) (w : World) : Calls Tryz.prog 95 #[.agg #[.string r.name, .int .i64 r.tlo, .int .i64 r.thi, .int .i64 r.dlo, .int .i64 r.dhi, .bool r.people, .bool r.allows, .int .i64 r.most, .int .i64 r.x, .int .i64 r.y]] w fun e w' => e = .returned (.int .i64 (roomE r)) ∧ Below w.heap.size w w' := by
  obtain ⟨E, hE⟩ : ∃ E, E = roomE r := ⟨_, rfl⟩
  rw [← hE]
  unfold roomE at hE
  obtain ⟨v1, hv1⟩ : ∃ v, v = inB r.tlo (-300) 600 := ⟨_, rfl⟩
  obtain ⟨v2, hv2⟩ : ∃ v, v = inB r.thi (-300) 600 := ⟨_, rfl⟩
  obtain ⟨v3, hv3⟩ : ∃ v, v = inB r.dlo 0 1000 := ⟨_, rfl⟩
  obtain ⟨v4, hv4⟩ : ∃ v, v = inB r.dhi 0 1000 := ⟨_, rfl⟩
  obtain ⟨v5, hv5⟩ : ∃ v, v = inB r.most 0 10000000 := ⟨_, rfl⟩
  obtain ⟨v6, hv6⟩ : ∃ v, v = inB r.x 0 10000 := ⟨_, rfl⟩
  obtain ⟨v7, hv7⟩ : ∃ v, v = inB r.y 0 10000 := ⟨_, rfl⟩
  rw [← hv1, ← hv2, ← hv3, ← hv4, ← hv5, ← hv6, ← hv7] at hE
  have HE := Lib.hid hE
  have H1 : Hid (∀ W, Calls Tryz.prog 81 #[.int .i64 r.tlo] W fun e w' => e = .returned (.bool v1) ∧ W = w') := Lib.hid fun W => by rw [hv1]; exact temp_any _ W
  have H2 : Hid (∀ W, Calls Tryz.prog 81 #[.int .i64 r.thi] W fun e w' => e = .returned (.bool v2) ∧ W = w') := Lib.hid fun W => by rw [hv2]; exact temp_any _ W
  have H3 : Hid (∀ W, Calls Tryz.prog 37 #[.int .i64 r.dlo, .int .i64 0, .int .i64 1000] W fun e w' => e = .returned (.bool v3) ∧ W = w') := Lib.hid fun W => by rw [hv3]; exact in_any _ _ _ W
  have H4 : Hid (∀ W, Calls Tryz.prog 37 #[.int .i64 r.dhi, .int .i64 0, .int .i64 1000] W fun e w' => e = .returned (.bool v4) ∧ W = w') := Lib.hid fun W => by rw [hv4]; exact in_any _ _ _ W
  have H5 : Hid (∀ W, Calls Tryz.prog 37 #[.int .i64 r.most, .int .i64 0, .int .i64 10000000] W fun e w' => e = .returned (.bool v5) ∧ W = w') := Lib.hid fun W => by rw [hv5]; exact in_any _ _ _ W
  have H6 : Hid (∀ W, Calls Tryz.prog 37 #[.int .i64 r.x, .int .i64 0, .int .i64 10000] W fun e w' => e = .returned (.bool v6) ∧ W = w') := Lib.hid fun W => by rw [hv6]; exact in_any _ _ _ W
  have H7 : Hid (∀ W, Calls Tryz.prog 37 #[.int .i64 r.y, .int .i64 0, .int .i64 10000] W fun e w' => e = .returned (.bool v7) ∧ W = w') := Lib.hid fun W => by rw [hv7]; exact in_any _ _ _ W
  clear hE hv1 hv2 hv3 hv4 hv5 hv6 hv7
  go_enter Tryz.func95, Tryz.ntmps95
  go_wp2_with (fail)
  (with_reducible refine (H1.out _).mono ?_)
  rintro e w' ⟨rfl, rfl⟩
  cases v1
  case false =>
    have hE2 : E = 7 := by rw [HE.out, if_pos (by simp)]
    have HE2 := Lib.hid hE2
    clear hE2
    go_wp2_with (fail)
    go_ret
    exact ⟨ret_int HE2.out.symm, below_alloc _ _⟩
  case true =>
  go_wp2_with (fail)
  (with_reducible refine (H2.out _).mono ?_)
  rintro e w' ⟨rfl, rfl⟩
  cases v2
  case false =>
    have hE2 : E = 7 := by rw [HE.out, if_pos (by simp)]
    have HE2 := Lib.hid hE2
    clear hE2
    go_wp2_with (fail)
    go_ret
    exact ⟨ret_int HE2.out.symm, below_alloc _ _⟩
  case true =>
  go_wp2_with (fail)
  (with_reducible refine (H3.out _).mono ?_)
  rintro e w' ⟨rfl, rfl⟩
  cases v3
  case false =>
    have hE2 : E = 7 := by rw [HE.out, if_pos (by simp)]
    have HE2 := Lib.hid hE2
    clear hE2
    go_wp2_with (fail)
    go_ret
    exact ⟨ret_int HE2.out.symm, below_alloc _ _⟩
  case true =>
  go_wp2_with (fail)
  (with_reducible refine (H4.out _).mono ?_)
  rintro e w' ⟨rfl, rfl⟩
  cases v4
  case false =>
    have hE2 : E = 7 := by rw [HE.out, if_pos (by simp)]
    have HE2 := Lib.hid hE2
    clear hE2
    go_wp2_with (fail)
    go_ret
    exact ⟨ret_int HE2.out.symm, below_alloc _ _⟩
  case true =>
  go_wp2_with (fail)
  (with_reducible refine (H5.out _).mono ?_)
  rintro e w' ⟨rfl, rfl⟩
  cases v5
  case false =>
    have hE2 : E = 7 := by rw [HE.out, if_pos (by simp)]
    have HE2 := Lib.hid hE2
    clear hE2
    go_wp2_with (fail)
    go_ret
    exact ⟨ret_int HE2.out.symm, below_alloc _ _⟩
  case true =>
  go_wp2_with (fail)
  (with_reducible refine (H6.out _).mono ?_)
  rintro e w' ⟨rfl, rfl⟩
  cases v6
  case false =>
    have hE2 : E = 7 := by rw [HE.out, if_pos (by simp)]
    have HE2 := Lib.hid hE2
    clear hE2
    go_wp2_with (fail)
    go_ret
    exact ⟨ret_int HE2.out.symm, below_alloc _ _⟩
  case true =>
  go_wp2_with (fail)
  (with_reducible refine (H7.out _).mono ?_)
  rintro e w' ⟨rfl, rfl⟩
  cases v7
  case false =>
    have hE2 : E = 7 := by rw [HE.out, if_pos (by simp)]
    have HE2 := Lib.hid hE2
    clear hE2
    go_wp2_with (fail)
    go_ret
    exact ⟨ret_int HE2.out.symm, below_alloc _ _⟩
  case true =>
  by_cases ht : r.thi < r.tlo
  · have HT := Lib.hid ht
    go_wp2_with (fail)
    go_ret
    exact ⟨ret_int (by rw [HE.out, if_neg (by simp), if_pos (.inl HT.out)]), below_alloc _ _⟩
  by_cases hd : r.dhi < r.dlo
  · have HD := Lib.hid hd
    go_wp2_with (fail)
    go_ret
    exact ⟨ret_int (by rw [HE.out, if_neg (by simp), if_pos (.inr HD.out)]), below_alloc _ _⟩
  · have HD := Lib.hid hd; have HT := Lib.hid ht
    go_wp2_with (fail)
    go_ret
    exact ⟨ret_int (by rw [HE.out, if_neg (by simp), if_neg (by have := HT.out; have := HD.out; omega)]), below_alloc _ _⟩
theorem elInt2 : Elem Tryz.prog 43 3 (.int .i64 0) 1 8 := elInt
set_option maxRecDepth 100000 in
set_option maxHeartbeats 2000000 in
theorem firstR_any {S : Site} {s : SSl} {w : World} (hS : CansS w s.c S.cans) (hn : S.cans.length ≤ 30) : Calls Tryz.prog 96 #[.agg #[.slice s.r.a S.rooms.length s.r.cap, .slice s.c.a S.cans.length s.c.cap, .int .i64 S.rlo, .int .i64 S.rhi, .slice s.p.a S.steps.length s.p.cap]] w fun e w' => (∃ v, e = .returned v ∧ OwnR w' w.heap.size 3 1 v S.cans.length (intC (firstW S.cans))) ∧ Below w.heap.size w w' := by
  have HS := Lib.hid hS
  have hcl := hS.le; have hcm := hS.max
  obtain ⟨rs, ⟨ca, cc⟩, ps⟩ := s
  dsimp only at hcl hcm
  clear hS
  go_enter Tryz.func96, Tryz.ntmps96
  go_wp2_with (fail)
  refine wp_name ?_
  intro w1 h1
  obtain ⟨b1, hb1⟩ : ∃ b, b = w.heap.size := ⟨_, rfl⟩
  have x1 : w1.heap[b1]? = some (Obj.cells #[.slice rs.a S.rooms.length rs.cap, .slice ca S.cans.length cc, .int .i64 S.rlo, .int .i64 S.rhi, .slice ps.a S.steps.length ps.cap] 28) := by rw [h1, hb1]; exact blk_new _ _
  have hB1 : Below w.heap.size w w1 := by rw [h1]; exact below_alloc _ _
  have X1 := Lib.hid x1
  have hle1 : w.heap.size < w1.heap.size := by rw [h1]; simp
  rw [← hb1]
  clear h1 hb1 x1
  go_loopw [3, 4] (fun v z wr => ∃ k : Nat, z = .int .i64 (k : Int) ∧ k ≤ S.cans.length ∧ Below w.heap.size w wr ∧ wr.heap[b1]? = some (Obj.cells #[.slice rs.a S.rooms.length rs.cap, .slice ca S.cans.length cc, .int .i64 S.rlo, .int .i64 S.rhi, .slice ps.a S.steps.length ps.cap] 28) ∧ OwnR wr w.heap.size 3 1 v k (intC (firstW S.cans))) (fun _ z _ => S.cans.length - (intOf z).toNat)
  case atStart => exact ⟨0, rfl, by omega, hB1, X1.out, own_nil _ _ _ _ _⟩
  case round =>
    obtain ⟨k, rfl, hk, hB, x1, hO⟩ := hrel
    have HO := Lib.hid hO; clear hO
    by_cases hlt : k < S.cans.length
    · go_light
      obtain ⟨cb, coff, hca, -, -, -, c3⟩ := cn_cells (HS.out.below hB) hlt
      dsimp only at hca
      subst hca
      have q1c := cell_blk x1
      have q1f := frz_blk x1
      obtain ⟨x, hx⟩ : ∃ x, x = (cnD S.cans k).room := ⟨_, rfl⟩
      rw [← hx] at c3
      have HX := Lib.hid hx; have X1' := Lib.hid x1
      have p0 : (0 : Int) ≤ (k : Int) := by omega
      have p1 : (k : Int) < (S.cans.length : Int) := by omega
      have w3 : IntKind.i64.wrap ((k : Int) + 1) = (k : Int) + 1 := IntWalk.i64_in _ (by omega)
      clear hx x1
      go_wp2_with (at_builtin; refine app_one [.int .i64 x] elInt rfl _ _ rfl w.heap.size rfl (HO.out.below (below_alloc' _ _)) wr.heap.size 1 rfl (blk_new _ _) (by simp [Value.oneCell']) (by omega) (by have := hB.size; simp; omega) ?_; intro v' w2 hO2 hg2)
      have hB2 := below_app hB HO.out hB.size hg2
      have x2 := app_blk HO.out hg2 X1'.out (by decide)
      have X2 := Lib.hid x2
      have hO3 : OwnR w2 w.heap.size 3 1 v' (k + 1) (intC (firstW S.cans)) := hO2.congr fun i j hi hj => by
        replace hj : j < 1 := by simpa using hj
        rcases Nat.lt_or_ge i k with h | h
        · rw [upd_lt h]
        · obtain rfl : i = k := by omega
          obtain rfl : j = 0 := by omega
          rw [upd_at]; simp only [intC]; rw [firstW_at hlt, ← HX.out]; rfl
      have HO3 := Lib.hid hO3
      clear hO2 hO3 hg2 q1c q1f c3 x2
      go_wp2_with (fail)
      go_roundw
      case rel => exact ⟨k + 1, by go_num, by omega, hB2, X2.out, HO3.out⟩
      case measure => simp [intOf]; omega
    · obtain rfl : k = S.cans.length := by omega
      have r9 : ¬ (S.cans.length : Int) < (S.cans.length : Int) := by omega
      have q1c := cell_blk x1
      have q1f := frz_blk x1
      clear x1
      go_wp2_with (fail)
      go_ret
      exact ⟨⟨_, rfl, HO.out⟩, hB⟩
set_option maxRecDepth 100000 in
set_option maxHeartbeats 2000000 in
theorem amountR_any {S : Site} {s : SSl} {t : Sl} {wh : List Int} {r : Int} {w : World} (hS : CansS w s.c S.cans) (hC : CansOk S) (hn : S.cans.length ≤ 30) (hT : IntsS w t wh) (hl : wh.length ≤ S.cans.length) : Calls Tryz.prog 86 #[.agg #[.slice s.r.a S.rooms.length s.r.cap, .slice s.c.a S.cans.length s.c.cap, .int .i64 S.rlo, .int .i64 S.rhi, .slice s.p.a S.steps.length s.p.cap], .slice t.a wh.length t.cap, .int .i64 r] w fun e w' => e = .returned (.int .i64 (amtK S.cans wh r wh.length)) ∧ Below w.heap.size w w' := by
  have HS := Lib.hid hS; have HT := Lib.hid hT; have HC := Lib.hid hC
  have hcl := hS.le; have hcm := hS.max; have htl := hT.le; have htm := hT.max
  obtain ⟨rs, ⟨ca, cc⟩, ps⟩ := s
  obtain ⟨ta, tc⟩ := t
  dsimp only at hcl hcm htl htm
  clear hS hT hC
  go_enter Tryz.func86, Tryz.ntmps86
  go_wp2_with (fail)
  refine wp_name ?_
  intro w1 h1
  obtain ⟨b1, hb1⟩ : ∃ b, b = w.heap.size := ⟨_, rfl⟩
  have x1 : w1.heap[b1]? = some (Obj.cells #[.slice rs.a S.rooms.length rs.cap, .slice ca S.cans.length cc, .int .i64 S.rlo, .int .i64 S.rhi, .slice ps.a S.steps.length ps.cap] 28) := by rw [h1, hb1]; exact blk_new _ _
  have hB1 : Below w.heap.size w w1 := by rw [h1]; exact below_alloc _ _
  rw [← hb1]
  clear h1 hb1
  have q1c := cell_blk x1
  have q1f := frz_blk x1
  have Q1c := Lib.hid q1c
  clear q1f
  go_loop [7, 8] (fun v z => ∃ k : Nat, z = .int .i64 (k : Int) ∧ k ≤ wh.length ∧ v = .int .i64 (amtK S.cans wh r k)) (fun _ z => wh.length - (intOf z).toNat)
  case atStart => exact ⟨0, rfl, by omega, rfl⟩
  case round =>
    obtain ⟨k, rfl, hk, rfl⟩ := hrel
    by_cases hlt : k < wh.length
    · go_light
      obtain ⟨cb, coff, hca, -, c1, c2, -⟩ := cn_cells (HS.out.below hB1) (i := k) (by omega)
      dsimp only at hca
      subst hca
      obtain ⟨tb, toff, hta, t0⟩ := int_cell (HT.out.below hB1) hlt
      dsimp only at hta
      subst hta
      have hfr := HC.out.frames k (by omega)
      have hac := amtK_nonneg HC.out (wh := wh) (r := r) (k := k) (by omega)
      obtain ⟨x, hx⟩ : ∃ x, x = cnD S.cans k := ⟨_, rfl⟩
      obtain ⟨y, hy⟩ : ∃ y, y = intD wh k := ⟨_, rfl⟩
      obtain ⟨A, hA⟩ : ∃ A, A = amtK S.cans wh r k := ⟨_, rfl⟩
      rw [← hx] at c1 c2 hfr
      rw [← hy] at t0
      rw [← hA] at hac ⊢
      have HX := Lib.hid hx; have HY := Lib.hid hy; have HA := Lib.hid hA
      have p0 : (0 : Int) ≤ (k : Int) := by omega
      have p1 : (k : Int) < (wh.length : Int) := by omega
      have p2 : (k : Int) < (S.cans.length : Int) := by omega
      clear hx hy hA
      by_cases hyr : y = r
      · have hb1 : (y == r) = true := by simp [hyr]
        by_cases hxb : x.base = 1
        · have hb2 : (x.base == 1) = true := by simp [hxb]
          have HYR := Lib.hid hyr; have HXB := Lib.hid hxb
          clear hyr hxb
          go_wp2_with (fail)
          go_round
          case rel => exact ⟨k + 1, by go_num, by omega, by rw [amtK, ← HX.out, ← HY.out, if_pos ⟨HYR.out, HXB.out⟩, ← HA.out]⟩
          case measure => simp [intOf]; omega
        · have hb2 : (x.base == 1) = false := by simp [hxb]
          have HXB := Lib.hid hxb
          clear hyr hxb
          go_wp2_with (fail)
          go_round
          case rel => exact ⟨k + 1, by go_num, by omega, by rw [amtK, ← HX.out, if_neg (fun h => HXB.out h.2), ← HA.out, Int.add_zero]⟩
          case measure => simp [intOf]; omega
      · have hb1 : (y == r) = false := by simp [hyr]
        have HYR := Lib.hid hyr
        clear hyr
        go_wp2_with (fail)
        go_round
        case rel => exact ⟨k + 1, by go_num, by omega, by rw [amtK, ← HY.out, if_neg (fun h => HYR.out h.1), ← HA.out, Int.add_zero]⟩
        case measure => simp [intOf]; omega
    · obtain rfl : k = wh.length := by omega
      have r9 : ¬ (wh.length : Int) < (wh.length : Int) := by omega
      go_wp2_with (fail)
      go_ret
      exact ⟨rfl, hB1⟩
theorem metK_zero {l : List Stp} (h : ∀ i, i < l.length → 0 ≤ (stD l i).over) {a : Int} (ha : a ≤ 0) : ∀ k, k ≤ l.length → metK l a k = 0
  | 0, _ => rfl
  | k + 1, hk => by rw [metK, if_neg (by have := h k (by omega); omega), metK_zero h ha k (by omega)]
set_option maxRecDepth 100000 in
set_option maxHeartbeats 2000000 in
theorem metresR_any {S : Site} {s : SSl} {a : Int} {w : World} (hS : StepsS w s.p S.steps) (hn : S.steps.length ≤ 8) (h0 : ∀ i, i < S.steps.length → 0 ≤ (stD S.steps i).over) : Calls Tryz.prog 87 #[.agg #[.slice s.r.a S.rooms.length s.r.cap, .slice s.c.a S.cans.length s.c.cap, .int .i64 S.rlo, .int .i64 S.rhi, .slice s.p.a S.steps.length s.p.cap], .int .i64 a] w fun e w' => e = .returned (.int .i64 (met S a)) ∧ Below w.heap.size w w' := by
  have HS := Lib.hid hS
  have hcl := hS.le; have hcm := hS.max
  obtain ⟨rs, cs, ⟨pa, pc⟩⟩ := s
  dsimp only at hcl hcm
  have hM : a ≤ 0 → met S a = 0 := fun h => metK_zero h0 h _ (Nat.le_refl _)
  have HM := Lib.hid hM
  clear hS hM h0
  by_cases ha : 0 < a
  · go_enter Tryz.func87, Tryz.ntmps87
    go_wp2_with (fail)
    refine wp_name ?_
    intro w1 h1
    obtain ⟨b1, hb1⟩ : ∃ b, b = w.heap.size := ⟨_, rfl⟩
    have x1 : w1.heap[b1]? = some (Obj.cells #[.slice rs.a S.rooms.length rs.cap, .slice cs.a S.cans.length cs.cap, .int .i64 S.rlo, .int .i64 S.rhi, .slice pa S.steps.length pc] 28) := by rw [h1, hb1]; exact blk_new _ _
    have hB1 : Below w.heap.size w w1 := by rw [h1]; exact below_alloc _ _
    rw [← hb1]
    clear h1 hb1
    have q1c := cell_blk x1
    have q1f := frz_blk x1
    clear q1f
    go_loop [5, 6] (fun v z => ∃ k : Nat, z = .int .i64 (k : Int) ∧ k ≤ S.steps.length ∧ v = .int .i64 (metK S.steps a k)) (fun _ z => S.steps.length - (intOf z).toNat)
    case atStart => exact ⟨0, rfl, by omega, rfl⟩
    case round =>
      obtain ⟨k, rfl, hk, rfl⟩ := hrel
      by_cases hlt : k < S.steps.length
      · go_light
        obtain ⟨pb, poff, hpa, c0, c1⟩ := st_cells (HS.out.below hB1) hlt
        dsimp only at hpa
        subst hpa
        obtain ⟨x, hx⟩ : ∃ x, x = stD S.steps k := ⟨_, rfl⟩
        rw [← hx] at c0 c1
        have HX := Lib.hid hx
        have p0 : (0 : Int) ≤ (k : Int) := by omega
        have p1 : (k : Int) < (S.steps.length : Int) := by omega
        clear hx
        by_cases ho : x.over < a
        · go_wp2_with (fail)
          go_round
          case rel => exact ⟨k + 1, by go_num, by omega, by rw [metK, ← HX.out, if_pos ho]⟩
          case measure => simp [intOf]; omega
        · go_wp2_with (fail)
          go_round
          case rel => exact ⟨k + 1, by go_num, by omega, by rw [metK, ← HX.out, if_neg (by omega)]⟩
          case measure => simp [intOf]; omega
      · obtain rfl : k = S.steps.length := by omega
        have r9 : ¬ (S.steps.length : Int) < (S.steps.length : Int) := by omega
        go_wp2_with (fail)
        go_ret
        exact ⟨rfl, hB1⟩
  · rw [HM.out (by omega)]
    go_enter Tryz.func87, Tryz.ntmps87
    go_wp2_with (fail)
    refine wp_loop_rounds 1 ?_
    rw [rounds_succ]
    go_wp2_with (fail)
    all_goals
      go_ret
      exact ⟨rfl, below_alloc _ _⟩
end Go.Proofs.YtfpaihjcbpaneaaGreatDoor
namespace Go.Proofs.YtfpaihjcbpaneaaGreatDoor
open Go.RowKit D
set_option linter.unusedVariables false
set_option linter.unusedSimpArgs false
attribute [local go_sem high] run_minI run_maxI
attribute [local go_sem] upon2 cls_cell cls_frozen forall_const exists_eq_left'
attribute [local go_sem] FirstUpon
theorem turn_ten {b : Nat} {W : World} {x0 x1 x2 x3 x4 x5 x6 x7 x8 x9 : Value} {t : TypeId} (hb : W.heap[b]? = some (.cells #[x0, x1, x2, x3, x4, x5, x6, x7, x8, x9] t (0, 0))) (u0 u1 u2 u3 u4 u5 u6 u7 u8 u9 : Value) :
    Turn b (.cells #[u0, u1, u2, u3, u4, u5, u6, u7, u8, u9] t (0, 0)) W ((((((((((W.setCell ⟨b, 0, none⟩ u0).setCell ⟨b, 1, none⟩ u1).setCell ⟨b, 2, none⟩ u2).setCell ⟨b, 3, none⟩ u3).setCell ⟨b, 4, none⟩ u4).setCell ⟨b, 5, none⟩ u5).setCell ⟨b, 6, none⟩ u6).setCell ⟨b, 7, none⟩ u7).setCell ⟨b, 8, none⟩ u8).setCell ⟨b, 9, none⟩ u9) := by
  have h := (((((((((turn_set (o := 0) hb u0).set (o := 1) u1).set (o := 2) u2).set (o := 3) u3).set (o := 4) u4).set (o := 5) u5).set (o := 6) u6).set (o := 7) u7).set (o := 8) u8).set (o := 9) u9
  simpa using h
set_option maxRecDepth 100000 in
set_option maxHeartbeats 8000000 in
theorem nearR_any {S : Site} {s : SSl} {t : Sl} {wh : List Int} {w : World} (hS : SiteAt w S s) (hN : NrOk S) (h0 : ∀ i, i < S.steps.length → 0 ≤ (stD S.steps i).over) (hT : IntsS w t wh) (hl : wh.length = S.cans.length) :
    Calls Tryz.prog 59 #[.agg #[.slice s.r.a S.rooms.length s.r.cap, .slice s.c.a S.cans.length s.c.cap, .int .i64 S.rlo, .int .i64 S.rhi, .slice s.p.a S.steps.length s.p.cap], .slice t.a S.cans.length t.cap] w (NrsOut w (nears S wh)) := by
  have HS := Lib.hid hS; have HN := Lib.hid hN
  have hrl := hS.rm.le; have hrm := hS.rm.max
  have hn12 := hN.rooms
  have HAM : Hid (∀ W, Below w.heap.size w W → ∀ a : Nat, Calls Tryz.prog 86 #[.agg #[.slice s.r.a S.rooms.length s.r.cap, .slice s.c.a S.cans.length s.c.cap, .int .i64 S.rlo, .int .i64 S.rhi, .slice s.p.a S.steps.length s.p.cap], .slice t.a S.cans.length t.cap, .int .i64 (a : Int)] W fun e w' => e = .returned (.int .i64 (amt S wh a)) ∧ Below W.heap.size W w') := Lib.hid fun W hW a => by
    have h := amountR_any (s := s) (r := (a : Int)) (hS.cn.below hW) hN.cans hN.cl (hT.below hW) (by omega)
    rw [hl] at h; exact h
  have HME : Hid (∀ W, Below w.heap.size w W → ∀ a : Int, Calls Tryz.prog 87 #[.agg #[.slice s.r.a S.rooms.length s.r.cap, .slice s.c.a S.cans.length s.c.cap, .int .i64 S.rlo, .int .i64 S.rhi, .slice s.p.a S.steps.length s.p.cap], .int .i64 a] W fun e w' => e = .returned (.int .i64 (met S a)) ∧ Below W.heap.size W w') := Lib.hid fun W hW a => metresR_any (hS.st.below hW) hN.sl h0
  obtain ⟨⟨ra, rc⟩, cs, ps⟩ := s
  dsimp only at hrl hrm
  have hout : ∀ W v, OwnR W w.heap.size 115 2 v (nearK S wh S.rooms.length).length (nrC (nearK S wh S.rooms.length)) → Below w.heap.size w W → NrsOut w (nears S wh) (.returned v) W := fun W v h1 h2 => ⟨v, rfl, h1, h2⟩
  have HOUT := Lib.hid hout
  clear hS hN hT hl h0 hout
  go_enter Tryz.func59, Tryz.ntmps59
  go_wp2_with (fail)
  refine wp_name ?_
  intro w1 h1
  obtain ⟨b1, hb1⟩ : ∃ b, b = w.heap.size := ⟨_, rfl⟩
  have x1 : w1.heap[b1]? = some (Obj.cells #[.slice ra S.rooms.length rc, .slice cs.a S.cans.length cs.cap, .int .i64 S.rlo, .int .i64 S.rhi, .slice ps.a S.steps.length ps.cap] 28) := by rw [h1, hb1]; exact blk_new _ _
  have hB1 : Below w.heap.size w w1 := by rw [h1]; exact below_alloc _ _
  have X1 := Lib.hid x1
  rw [← hb1]
  clear h1 hb1 x1
  go_loopw [5, 6] (fun v z wr => ∃ a : Nat, z = .int .i64 (a : Int) ∧ a ≤ S.rooms.length ∧ Below w.heap.size w wr ∧ wr.heap[b1]? = some (Obj.cells #[.slice ra S.rooms.length rc, .slice cs.a S.cans.length cs.cap, .int .i64 S.rlo, .int .i64 S.rhi, .slice ps.a S.steps.length ps.cap] 28) ∧ OwnR wr w.heap.size 115 2 v (nearK S wh a).length (nrC (nearK S wh a))) (fun _ z _ => S.rooms.length - (intOf z).toNat)
  case atStart => exact ⟨0, rfl, by omega, hB1, X1.out, own_nil _ _ _ _ _⟩
  case round =>
    obtain ⟨a, rfl, ha, hB, x1, hO⟩ := hrel
    have HO := Lib.hid hO; clear hO
    by_cases hlt : a < S.rooms.length
    · go_light
      obtain ⟨rb, roff, hra, -⟩ := rm_cells (HS.out.below hB).rm hlt
      dsimp only at hra
      subst hra
      have w4 : IntKind.i64.wrap ((a : Int) + 1) = (a : Int) + 1 := IntWalk.i64_in _ (by omega)
      have e0 : ((a : Int) + 1) = ((a + 1 + 0 : Nat) : Int) := by omega
      have E0 := Lib.hid e0
      have X1' := Lib.hid x1
      clear e0
      have q1c := cell_blk x1
      have q1f := frz_blk x1
      clear x1
      go_wp2_with (fail)
      clear q1c q1f
      obtain ⟨wo, hwo⟩ : ∃ wo, wo = wr := ⟨_, rfl⟩
      go_loopw [5, 7] (fun v z wr => ∃ j c : Nat, z = .int .i64 (c : Int) ∧ c = a + 1 + j ∧ c ≤ S.rooms.length ∧ Below w.heap.size w wr ∧ wr.heap[b1]? = some (Obj.cells #[.slice (some ⟨rb, roff, none⟩) S.rooms.length rc, .slice cs.a S.cans.length cs.cap, .int .i64 S.rlo, .int .i64 S.rhi, .slice ps.a S.steps.length ps.cap] 28) ∧ OwnR wr w.heap.size 115 2 v (nearK S wh a ++ nearRow S wh a j).length (nrC (nearK S wh a ++ nearRow S wh a j))) (fun _ z _ => S.rooms.length - (intOf z).toNat)
      case atStart => exact ⟨0, _, by rw [E0.out], rfl, by omega, hB, X1'.out, by simpa [nearRow] using HO.out⟩
      case round =>
        clear HO hB
        obtain ⟨j, c, rfl, hcj, hcn, hB, x1, hO⟩ := hrel
        have HO := Lib.hid hO; have HCJ := Lib.hid hcj
        clear hO hcj
        by_cases hlt2 : c < S.rooms.length
        · obtain ⟨_, _, hra, hc⟩ := rm_cells (HS.out.below hB).rm hlt2
          obtain ⟨rfl, rfl⟩ : rb = _ ∧ roff = _ := by simpa using hra
          obtain ⟨_, _, hra2, hd⟩ := rm_cells (HS.out.below hB).rm hlt
          obtain ⟨rfl, rfl⟩ : rb = _ ∧ roff = _ := by simpa using hra2
          obtain ⟨p, hp⟩ : ∃ p, p = rmD S.rooms a := ⟨_, rfl⟩
          obtain ⟨q, hq⟩ : ∃ q, q = rmD S.rooms c := ⟨_, rfl⟩
          obtain ⟨c0, c1, c2, c3, c4, c5, c6, c7, c8, c9⟩ := hc
          obtain ⟨d0, d1, d2, d3, d4, d5, d6, d7, d8, d9⟩ := hd
          rw [← hq] at c0 c1 c2 c3 c4 c5 c6 c7 c8 c9
          rw [← hp] at d0 d1 d2 d3 d4 d5 d6 d7 d8 d9
          have HQ := Lib.hid hq; have HP := Lib.hid hp
          have y0 : (0 : Int) ≤ (a : Int) := by omega
          have y1 : (a : Int) < (S.rooms.length : Int) := by omega
          have z0 : (0 : Int) ≤ (c : Int) := by omega
          have z1 : (c : Int) < (S.rooms.length : Int) := by omega
          have z2 : IntKind.i64.wrap ((c : Int) + 1) = (c : Int) + 1 := IntWalk.i64_in _ (by omega)
          have px := HN.out.at_ a hlt
          have qx := HN.out.at_ c hlt2
          rw [← HP.out] at px
          rw [← hq] at qx
          obtain ⟨X, hX⟩ : ∃ X, X = (p.x - q.x) * (p.x - q.x) := ⟨_, rfl⟩
          obtain ⟨Y, hY⟩ : ∃ Y, Y = (p.y - q.y) * (p.y - q.y) := ⟨_, rfl⟩
          have bX := sq_in px.1 qx.1
          have bY := sq_in px.2 qx.2
          rw [← hX] at bX
          rw [← hY] at bY
          have wX : wrap64 ((p.x - q.x) * (p.x - q.x)) = X := by rw [← hX]; exact IntWalk.wrap64_in _ (by omega)
          have wY : wrap64 ((p.y - q.y) * (p.y - q.y)) = Y := by rw [← hY]; exact IntWalk.wrap64_in _ (by omega)
          have hF : far (rmD S.rooms a) (rmD S.rooms c) = X + Y := by rw [← HP.out, ← HQ.out, hX, hY]; rfl
          have HF := Lib.hid hF
          have X1 := Lib.hid x1
          clear hq hp hra hra2 hX hY hF
          have q1c := cell_blk x1
          have q1f := frz_blk x1
          go_wp2_with (fail)
          refine region_ev [] [0, 1, 2, 3, 4, 5, 6, 7, 8, 9] [(10, 8, some 12), (11, 9, some 13)] [] (by kernel_rfl) (by kernel_rfl) (by intro c a d v w h; cases d <;> exact h) ?_
          simp only [picks, List.drop_succ_cons, List.drop_zero]
          repeat (refine wpQ0_step (fun K hK => ?_); go_simp; (refine hK _ ?_; clear hK K))
          refine wpQ0_nil ?_
          repeat ((with_reducible refine wpQ2_step (fun K hK => ?_)); go_simp; first | ((with_reducible refine hK _ ?_); clear hK K) | (apply Exists.intro; refine ⟨fun x => ?_, hK _ ?_⟩; (fail); clear hK K))
          refine wpQ2_nil ?_
          refine Events.fill2 (fun b => .pointer (some ⟨b, 0, none⟩)) (Obj.cells #[.string ByteArray.empty, .int .i64 0, .int .i64 0, .int .i64 0, .int .i64 0, .bool false, .bool false, .int .i64 0, .int .i64 0, .int .i64 0] 74) (Obj.cells #[.string p.name, .int .i64 p.tlo, .int .i64 p.thi, .int .i64 p.dlo, .int .i64 p.dhi, .bool p.people, .bool p.allows, .int .i64 p.most, .int .i64 p.x, .int .i64 p.y] 74) (fun b => .pointer (some ⟨b, 0, none⟩)) (Obj.cells #[.string ByteArray.empty, .int .i64 0, .int .i64 0, .int .i64 0, .int .i64 0, .bool false, .bool false, .int .i64 0, .int .i64 0, .int .i64 0] 74) (Obj.cells #[.string q.name, .int .i64 q.tlo, .int .i64 q.thi, .int .i64 q.dlo, .int .i64 q.dhi, .bool q.people, .bool q.allows, .int .i64 q.most, .int .i64 q.x, .int .i64 q.y] 74) ⟨_, rfl, rfl, rfl, fun W => by kernel_rfl⟩ ⟨_, rfl, rfl, rfl, fun b W hb => ?_⟩ ⟨_, rfl, rfl, rfl, fun W => by kernel_rfl⟩ ⟨_, rfl, rfl, rfl, fun b W hb => ?_⟩ (by omega) fun b8 b9 w4 hb8 hb9 hneb8 hg4 nb8 nb9 => ?_
          · have hbc := cell_blk hb; have hbf := frz_blk hb; go_simp; exact turn_ten hb _ _ _ _ _ _ _ _ _ _
          · have hbc := cell_blk hb; have hbf := frz_blk hb; go_simp; exact turn_ten hb _ _ _ _ _ _ _ _ _ _
          simp only [picks, List.drop_succ_cons, List.drop_zero]
          have hB4 := below_ext hB hg4
          obtain ⟨N, hN⟩ : ∃ N, N = amt S wh a := ⟨_, rfl⟩
          obtain ⟨M, hM⟩ : ∃ M, M = amt S wh c := ⟨_, rfl⟩
          have HA1 : Hid (∀ W, Ext2 w4 W → Calls Tryz.prog 86 #[(.agg #[.slice (some ⟨rb, roff, none⟩) S.rooms.length rc, .slice cs.a S.cans.length cs.cap, .int .i64 S.rlo, .int .i64 S.rhi, .slice ps.a S.steps.length ps.cap]), .slice t.a S.cans.length t.cap, .int .i64 (a : Int)] W fun e w' => e = .returned (.int .i64 N) ∧ Below W.heap.size W w') := Lib.hid fun W hW => by rw [hN]; exact HAM.out W (below_ext hB4 hW) a
          have HA2 : Hid (∀ W, Ext2 w4 W → Calls Tryz.prog 86 #[(.agg #[.slice (some ⟨rb, roff, none⟩) S.rooms.length rc, .slice cs.a S.cans.length cs.cap, .int .i64 S.rlo, .int .i64 S.rhi, .slice ps.a S.steps.length ps.cap]), .slice t.a S.cans.length t.cap, .int .i64 (c : Int)] W fun e w' => e = .returned (.int .i64 M) ∧ Below W.heap.size W w') := Lib.hid fun W hW => by rw [hM]; exact HAM.out W (below_ext hB4 hW) c
          have HO4 := Lib.hid (HO.out.below hg4)
          have NB8 := Lib.hid nb8; have NB9 := Lib.hid nb9
          have x4 := Ext2.blk hg4 X1.out
          have X4 := Lib.hid x4
          have HNN := Lib.hid hN; have HMM := Lib.hid hM
          clear q1c q1f x1 X1 c0 c1 c2 c3 c4 c5 c6 c7 c8 c9 d0 d1 d2 d3 d4 d5 d6 d7 d8 d9 nb8 nb9 hN hM hB HO hg4
          have q1c := cell_blk x4
          have q1f := frz_blk x4
          go_wp2_with (fail)
          refine region_ev [] [0, 1, 2, 3, 4, 5, 6, 7, 8, 9] [] [] (by kernel_rfl) (by kernel_rfl) (by intro c a d v w h; cases d <;> exact h) ?_
          simp only [picks, List.drop_succ_cons, List.drop_zero]
          repeat (refine wpQ0_step (fun K hK => ?_); go_simp; (refine hK _ ?_; clear hK K))
          refine wpQ0_nil ?_
          repeat ((with_reducible refine wpQ2_step (fun K hK => ?_)); go_simp; first | ((with_reducible refine hK _ ?_); clear hK K) | (apply Exists.intro; refine ⟨fun x => ?_, hK _ ?_⟩; (first | (with_reducible exact HA1.out x.1 x.2) | (with_reducible exact HA2.out x.1 x.2)); clear hK K))
          refine wpQ2_nil ?_
          refine Events.none_ fun w5 hg5 => ?_
          simp only [picks, List.drop_succ_cons, List.drop_zero]
          have hB5 := below_ext hB4 hg5
          have HO5 := Lib.hid (HO4.out.below hg5)
          have x5 := Ext2.blk hg5 X4.out
          have X5 := Lib.hid x5
          have y8' := Ext2.blk hg5 NB8.out; have y9' := Ext2.blk hg5 NB9.out
          have NB85 := Lib.hid y8'; have NB95 := Lib.hid y9'
          clear q1c q1f x4 X4 HO4 HA1 HA2 NB8 NB9 hg5 hB4
          obtain ⟨u, hu⟩ : ∃ u, u = q.people := ⟨_, rfl⟩
          obtain ⟨v9, hv9⟩ : ∃ v, v = p.people := ⟨_, rfl⟩
          have hrk : (risk S wh a c || risk S wh c a) = ((decide (0 < N) && (decide (0 < M) || u)) || (decide (0 < M) && (decide (0 < N) || v9))) := by
            unfold risk; rw [← HNN.out, ← HMM.out, ← HQ.out, ← HP.out, ← hu, ← hv9]
          have HRK := Lib.hid hrk
          obtain ⟨K1, hK1⟩ : ∃ K, K = met S N := ⟨_, rfl⟩
          obtain ⟨K2, hK2⟩ : ∃ K, K = met S M := ⟨_, rfl⟩
          have bK1 := met_in HN.out.met N
          have bK2 := met_in HN.out.met M
          rw [← hK1] at bK1
          rw [← hK2] at bK2
          have HM1 : Hid (∀ W, Ext2 w5 W → Calls Tryz.prog 87 #[(.agg #[.slice (some ⟨rb, roff, none⟩) S.rooms.length rc, .slice cs.a S.cans.length cs.cap, .int .i64 S.rlo, .int .i64 S.rhi, .slice ps.a S.steps.length ps.cap]), .int .i64 N] W fun e w' => e = .returned (.int .i64 K1) ∧ Below W.heap.size W w') := Lib.hid fun W hW => by rw [hK1]; exact HME.out W (below_ext hB5 hW) N
          have HM2 : Hid (∀ W, Ext2 w5 W → Calls Tryz.prog 87 #[(.agg #[.slice (some ⟨rb, roff, none⟩) S.rooms.length rc, .slice cs.a S.cans.length cs.cap, .int .i64 S.rlo, .int .i64 S.rhi, .slice ps.a S.steps.length ps.cap]), .int .i64 M] W fun e w' => e = .returned (.int .i64 K2) ∧ Below W.heap.size W w') := Lib.hid fun W hW => by rw [hK2]; exact HME.out W (below_ext hB5 hW) M
          obtain ⟨KK, hKK⟩ : ∃ KK, KK = max K1 K2 * max K1 K2 := ⟨_, rfl⟩
          have bKK := sq_in' (a := max K1 K2) (by omega)
          rw [← hKK] at bKK
          have wK : wrap64 (max K1 K2 * max K1 K2) = KK := by rw [← hKK]; exact IntWalk.wrap64_in _ (by omega)
          have hNB2 : nearB S wh a c = ((risk S wh a c || risk S wh c a) && decide (X + Y < KK)) := by unfold nearB; rw [HF.out, ← HNN.out, ← HMM.out, ← hK1, ← hK2, ← hKK]
          have HB2 := Lib.hid hNB2
          have HU := Lib.hid hu; have HV9 := Lib.hid hv9
          have hlen9 : (nearK S wh a ++ nearRow S wh a j).length ≤ 1000 := by
            rw [List.length_append]
            have h1 := nearK_len S wh a
            have h2 := nearRow_len S wh a j
            have h3 : a * S.rooms.length ≤ 12 * 12 := Nat.mul_le_mul (by omega) (by omega)
            have := HCJ.out
            omega
          rw [← hu] at y9'
          rw [← hv9] at y8'
          clear hrk hK1 hK2 hKK hNB2 hu hv9
          have q8c := cell_blk y8'
          have q8f := frz_blk y8'
          have q9c := cell_blk y9'
          have q9f := frz_blk y9'
          clear y8' y9'
          by_cases hrisk : (risk S wh a c || risk S wh c a) = true
          · have HRI := Lib.hid hrisk
            have hcase : (0 < N ∧ 0 < M) ∨ (0 < N ∧ ¬ 0 < M ∧ u = true) ∨ (¬ 0 < N ∧ 0 < M ∧ v9 = true) := by
              rw [HRK.out] at hrisk
              by_cases h1 : 0 < N <;> by_cases h2 : 0 < M <;> simp [h1, h2] at hrisk ⊢ <;> simp [hrisk]
            clear hrisk
            rcases hcase with ⟨g1, g2⟩ | ⟨g1, g2, rfl⟩ | ⟨g1, g2, rfl⟩
            all_goals
              have x5 := X5.out
              have q1c := cell_blk x5
              have q1f := frz_blk x5
              go_wp2_with (fail)
              refine region_ev [] [0, 1, 2, 3, 4, 5, 6, 7] [] [] (by kernel_rfl) (by kernel_rfl) (by intro c a d v w h; cases d <;> exact h) ?_
              simp only [picks, List.drop_succ_cons, List.drop_zero]
              repeat (refine wpQ0_step (fun K hK => ?_); go_simp; (refine hK _ ?_; clear hK K))
              refine wpQ0_nil ?_
              repeat ((with_reducible refine wpQ2_step (fun K hK => ?_)); go_simp; first | ((with_reducible refine hK _ ?_); clear hK K) | (apply Exists.intro; refine ⟨fun x => ?_, hK _ ?_⟩; (first | (with_reducible exact HM1.out x.1 x.2) | (with_reducible exact HM2.out x.1 x.2)); clear hK K))
              refine wpQ2_nil ?_
              refine Events.none_ fun w6 hg6 => ?_
              simp only [picks, List.drop_succ_cons, List.drop_zero]
              have hB6 := below_ext hB5 hg6
              have HO6 := Lib.hid (HO5.out.below hg6)
              have X6 := Lib.hid (Ext2.blk hg6 X5.out)
              have y8 := Ext2.blk hg6 NB85.out; have y9 := Ext2.blk hg6 NB95.out
              clear q1c q1f x5 q8c q8f q9c q9f hg6
              have q8c := cell_blk y8
              have q8f := frz_blk y8
              have q9c := cell_blk y9
              have q9f := frz_blk y9
              clear y8 y9
              by_cases hlt3 : X + Y < KK
              · have hd : decide (X + Y < KK) = true := decide_eq_true hlt3
                have HD := Lib.hid hd
                clear hd
                go_wp2_with (at_builtin; refine app_one [.int .i64 (a : Int), .int .i64 (c : Int)] elNr rfl _ _ rfl w.heap.size rfl (HO6.out.below (below_alloc' _ _)) w6.heap.size 1 rfl (blk_new _ _) (by simp [Value.oneCell']) (by omega) (by have := hB6.size; simp; omega) ?_; intro v' w8 hO8 hg8)
                have hB8 := below_app hB6 HO6.out hB6.size hg8
                have x8 := app_blk HO6.out hg8 X6.out (by decide)
                have X8 := Lib.hid x8
                have hO9 : OwnR w8 w.heap.size 115 2 v' (nearK S wh a ++ nearRow S wh a (j + 1)).length (nrC (nearK S wh a ++ nearRow S wh a (j + 1))) := by
                  have e1 : nearK S wh a ++ nearRow S wh a (j + 1) = (nearK S wh a ++ nearRow S wh a j) ++ [⟨(a : Int), (c : Int)⟩] := by
                    rw [nearRow, ← HCJ.out, HB2.out, HD.out, HRI.out]; simp
                  rw [e1, List.length_append, List.length_singleton]
                  exact hO8.congr fun i' j' h1 h2 => nrC_snoc (x := ⟨(a : Int), (c : Int)⟩) h1 h2
                have HO9 := Lib.hid hO9
                clear hO8 hO9 hg8 x8 q8c q8f q9c q9f
                go_wp2_with (fail)
                go_roundw
                case rel => exact ⟨j + 1, c + 1, by go_num, by rw [HCJ.out]; omega, by omega, hB8, X8.out, HO9.out⟩
                case measure => simp [intOf]; omega
              · have hd : decide (X + Y < KK) = false := decide_eq_false hlt3
                have HD := Lib.hid hd
                have hO9 : OwnR w6 w.heap.size 115 2 u5 (nearK S wh a ++ nearRow S wh a (j + 1)).length (nrC (nearK S wh a ++ nearRow S wh a (j + 1))) := by
                  have e1 : nearK S wh a ++ nearRow S wh a (j + 1) = nearK S wh a ++ nearRow S wh a j := by
                    rw [nearRow, ← HCJ.out, HB2.out, HD.out]; simp
                  rw [e1]; exact HO6.out
                have HO9 := Lib.hid hO9
                clear hO9 hd
                go_wp2_with (fail)
                go_roundw
                case rel => exact ⟨j + 1, c + 1, by go_num, by rw [HCJ.out]; omega, by omega, hB6, X6.out, HO9.out⟩
                case measure => simp [intOf]; omega
          · have hrk2 : (risk S wh a c || risk S wh c a) = false := by simpa using hrisk
            have HRI := Lib.hid hrk2
            have hcase : (¬ 0 < N ∧ ¬ 0 < M) ∨ (0 < N ∧ ¬ 0 < M ∧ u = false) ∨ (¬ 0 < N ∧ 0 < M ∧ v9 = false) := by
              rw [HRK.out] at hrk2
              by_cases h1 : 0 < N <;> by_cases h2 : 0 < M <;> simp [h1, h2] at hrk2 ⊢ <;> simp [hrk2]
            clear hrk2 hrisk
            have hO9 : OwnR w5 w.heap.size 115 2 u5 (nearK S wh a ++ nearRow S wh a (j + 1)).length (nrC (nearK S wh a ++ nearRow S wh a (j + 1))) := by
              have e1 : nearK S wh a ++ nearRow S wh a (j + 1) = nearK S wh a ++ nearRow S wh a j := by
                rw [nearRow, ← HCJ.out, HB2.out, HRI.out]; simp
              rw [e1]; exact HO5.out
            have HO9 := Lib.hid hO9
            clear hO9
            rcases hcase with ⟨g1, g2⟩ | ⟨g1, g2, rfl⟩ | ⟨g1, g2, rfl⟩
            all_goals
              go_wp2_with (fail)
              go_roundw
              case rel => exact ⟨j + 1, c + 1, by go_num, by rw [HCJ.out]; omega, by omega, hB5, X5.out, HO9.out⟩
              case measure => simp [intOf]; omega
        · obtain rfl : c = S.rooms.length := by omega
          have hfin : OwnR wr w.heap.size 115 2 u5 (nearK S wh (a + 1)).length (nrC (nearK S wh (a + 1))) := by
            rw [nearK, show S.rooms.length - (a + 1) = j by have := HCJ.out; omega]; exact HO.out
          have HFIN := Lib.hid hfin
          have hz : ¬ (S.rooms.length : Int) < (S.rooms.length : Int) := by omega
          have X1 := Lib.hid x1
          clear hfin HO
          have q1c := cell_blk x1
          have q1f := frz_blk x1
          clear x1
          go_wp2_with (fail)
          go_roundw
          case rel => exact ⟨a + 1, by go_num, by omega, hB, X1.out, HFIN.out⟩
          case measure => simp [intOf]; omega
    · obtain rfl : a = S.rooms.length := by omega
      have hfin := HOUT.out wr u5 HO.out hB
      have HFIN := Lib.hid hfin
      have hz : ¬ (S.rooms.length : Int) < (S.rooms.length : Int) := by omega
      clear hfin HO
      have q1c := cell_blk x1
      have q1f := frz_blk x1
      clear x1
      go_wp2_with (fail)
      go_ret
      exact HFIN.out
end Go.Proofs.YtfpaihjcbpaneaaGreatDoor
namespace Go.Proofs.YtfpaihjcbpaneaaGreatDoor.D
set_option linter.unusedVariables false
def nameE (s : ByteArray) (l : List ByteArray) : Int := if okName s = false then 6 else if anyF (fun k => sameS (strD l k) s) l.length then 5 else 0
def namesR (l : List Rm) (k : Nat) : List ByteArray := (List.range k).map fun i => (rmD l i).name
def namesC (l : List Cn) (k : Nat) : List ByteArray := (List.range k).map fun i => (cnD l i).name
theorem namesR_at {l : List Rm} {k i : Nat} (h : i < k) : strD (namesR l k) i = (rmD l i).name := by simp [strD, namesR, h]
theorem namesC_at {l : List Cn} {k i : Nat} (h : i < k) : strD (namesC l k) i = (cnD l i).name := by simp [strD, namesC, h]
theorem anyF_congr2 {p q : Nat → Bool} : ∀ {n : Nat}, (∀ i, i < n → p i = q i) → anyF p n = anyF q n
  | 0, _ => rfl
  | n + 1, h => by rw [anyF_succ, anyF_succ, anyF_congr2 (fun i hi => h i (by omega)), h n (by omega)]
theorem rmE_name (l : List Rm) (k : Nat) : rmE l k = if nameE (rmD l k).name (namesR l k) ≠ 0 then nameE (rmD l k).name (namesR l k) else roomE (rmD l k) := by
  unfold rmE nameE
  have e : anyF (fun j => sameS (strD (namesR l k) j) (rmD l k).name) (namesR l k).length = twiceR l k := by
    unfold twiceR
    have hl : (namesR l k).length = k := by simp [namesR]
    rw [hl]
    exact anyF_congr2 fun j hj => by rw [namesR_at hj]
  rw [e]
  cases okName (rmD l k).name
  · simp
  · cases twiceR l k <;> simp
theorem cnE_name (S : Site) (k : Nat) : cnE S k = if nameE (cnD S.cans k).name (namesC S.cans k) ≠ 0 then nameE (cnD S.cans k).name (namesC S.cans k) else canE S.rooms.length (cnD S.cans k) := by
  unfold cnE nameE
  have e : anyF (fun j => sameS (strD (namesC S.cans k) j) (cnD S.cans k).name) (namesC S.cans k).length = twiceC S.cans k := by
    unfold twiceC
    have hl : (namesC S.cans k).length = k := by simp [namesC]
    rw [hl]
    exact anyF_congr2 fun j hj => by rw [namesC_at hj]
  rw [e]
  cases okName (cnD S.cans k).name
  · simp
  · cases twiceC S.cans k <;> simp
end Go.Proofs.YtfpaihjcbpaneaaGreatDoor.D
namespace Go.Proofs.YtfpaihjcbpaneaaGreatDoor
open Go.RowKit D
set_option linter.unusedVariables false
set_option linter.unusedSimpArgs false
attribute [local go_sem high] run_minI run_maxI
attribute [local go_sem] upon2 cls_cell cls_frozen forall_const exists_eq_left'
attribute [local go_sem] FirstUpon
theorem ite_undef {c : Prop} [Decidable c] {A B : Prop} (hc : ¬ c) (h : B) : if c then A else B := by rw [if_neg hc]; exact h
theorem elStr : Elem Tryz.prog 147 9 (.string ByteArray.empty) 1 16 := ⟨by kernel_rfl, by kernel_rfl, rfl, by omega, by omega⟩
set_option maxRecDepth 100000 in
set_option maxHeartbeats 2000000 in
theorem nameRf_any {s : ByteArray} {t : Sl} {l : List ByteArray} {w : World} (hT : StrsS w t l) (hs : s.size ≤ maxLen) (hl : l.length ≤ 100) : Calls Tryz.prog 94 #[.string s, .slice t.a l.length t.cap] w fun e w' => e = .returned (.int .i64 (nameE s l)) ∧ w = w' := by
  have HT := Lib.hid hT
  have htl := hT.le; have htm := hT.max
  obtain ⟨E, hE⟩ : ∃ E, E = nameE s l := ⟨_, rfl⟩
  rw [← hE]
  unfold nameE at hE
  obtain ⟨v, hv⟩ : ∃ v, v = okName s := ⟨_, rfl⟩
  rw [← hv] at hE
  have HE := Lib.hid hE
  have HNM : Hid (∀ W, Calls Tryz.prog 104 #[.string s] W fun e w' => e = .returned (.bool v) ∧ W = w') := Lib.hid fun W => by rw [hv]; exact nameR_any hs
  obtain ⟨ta, tc⟩ := t
  dsimp only at htl htm
  clear hE hv hT hs
  go_enter Tryz.func94, Tryz.ntmps94
  go_wp2_with (fail)
  (with_reducible refine (HNM.out _).mono ?_)
  rintro e w' ⟨rfl, rfl⟩
  cases v
  case false =>
    go_wp2_with (fail)
    go_ret
    exact ⟨ret_int (by rw [HE.out]; rfl), rfl⟩
  case true =>
  go_wp2_with (fail)
  go_loop [5] (fun z => ∃ k : Nat, z = .int .i64 (k : Int) ∧ k ≤ l.length ∧ ∀ j, j < k → sameS (strD l j) s = false) (fun z => l.length - (intOf z).toNat)
  case atStart => exact ⟨0, rfl, by omega, fun j hj => absurd hj (Nat.not_lt_zero j)⟩
  case round =>
    obtain ⟨k, rfl, hk, hall⟩ := hrel
    have HALL := Lib.hid hall
    clear hall
    by_cases hlt : k < l.length
    · go_light
      obtain ⟨tb, toff, hta, t0⟩ := str_cell HT.out hlt
      dsimp only at hta
      subst hta
      obtain ⟨x, hx⟩ : ∃ x, x = strD l k := ⟨_, rfl⟩
      rw [← hx] at t0
      have HX := Lib.hid hx
      have p0 : (0 : Int) ≤ (k : Int) := by omega
      have p1 : (k : Int) < (l.length : Int) := by omega
      clear hx
      cases hq : sameS x s
      case false =>
        have he2 : (x.toList == s.toList) = false := by rw [beq_list]; exact hq
        have HQ := Lib.hid hq
        clear hq
        go_wp2_with (fail)
        go_round
        case rel =>
          refine ⟨k + 1, by go_num, by omega, fun j hj => ?_⟩
          rcases Nat.lt_or_ge j k with h | h
          · exact HALL.out j h
          · obtain rfl : j = k := by omega
            rw [← HX.out]; exact HQ.out
        case measure => simp [intOf]; omega
      case true =>
        have he2 : (x.toList == s.toList) = true := by rw [beq_list]; exact hq
        have hE2 : E = 5 := by
          have : anyF (fun k => sameS (strD l k) s) l.length = true := decide_eq_true (by rw [firstN_at (k := k) HALL.out (by rw [← HX.out]; exact hq) hlt]; exact hlt)
          rw [HE.out, if_neg (by simp), this, if_pos rfl]
        have HE2 := Lib.hid hE2
        clear hq hE2
        go_wp2_with (fail)
        go_ret
        exact ⟨ret_int HE2.out.symm, rfl⟩
    · obtain rfl : k = l.length := by omega
      have hE2 : E = 0 := by
        have : anyF (fun k => sameS (strD l k) s) l.length = false := decide_eq_false (by rw [firstN_none HALL.out]; omega)
        rw [HE.out, if_neg (by simp), this]; rfl
      have HE2 := Lib.hid hE2
      have r9 : ¬ (l.length : Int) < (l.length : Int) := by omega
      clear hE2
      go_wp2_with (fail)
      go_ret
      exact ⟨ret_int HE2.out.symm, rfl⟩
end Go.Proofs.YtfpaihjcbpaneaaGreatDoor
