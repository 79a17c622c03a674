/-
  ref.ways.
-/
import Derived.Test.YtfpaihjcbpaneaaGreatDoorVRefE
import Derived.Test.YtfpaihjcbpaneaaGreatDoorVPthA
import Derived.Deep.Light
import Derived.Laws.AppendOwnNone
namespace Go.Proofs.YtfpaihjcbpaneaaGreatDoor
open Go.RowKit D
set_option linter.unusedVariables false
set_option linter.unusedSimpArgs false
attribute [local go_sem high] run_minI run_maxI
attribute [local go_sem] upon2 cls_cell cls_frozen forall_const exists_eq_left'
attribute [local go_sem] FirstUpon
theorem own_head {w : World} {base : Nat} {a : Option Addr} {cap n : Nat} {c : Nat → Nat → Value} (h : OwnR w base 3 1 (.slice a n cap) n c) (h0 : 0 < n) : ∃ g, a = some ⟨g, 0, none⟩ ∧ n ≤ cap ∧ cap ≤ 9223372036854775807 ∧ ∀ i, i < n → w.cell? ⟨g, i, none⟩ = some (c i 0) := by
  obtain ⟨g, cp, hv, -, h1, h2, h3, -⟩ := own_some h h0
  injection hv with e1 _ e3
  subst e3
  refine ⟨g, e1, h1, h2, fun i hi => ?_⟩
  have := h3.one hi
  rw [Nat.zero_add] at this
  exact this
theorem own_app0 {w w' : World} {base base2 : Nat} {e e2 : TypeId} {sz sz2 : Nat} {v v2 : Value} {n n2 : Nat} {c c2 : Nat → Nat → Value} (hO : OwnR w base e sz v n c) (hg : w.grownBy w' v.ownBlock) (h2 : OwnR w base2 e2 sz2 v2 n2 c2) (ht : e2 ≠ e) : OwnR w' base2 e2 sz2 v2 n2 c2 := by
  refine h2.kept hg ?_
  cases hv : v2.ownBlock with
  | none => exact .inl rfl
  | some b =>
    refine .inr fun he => ?_
    obtain ⟨c1, h3⟩ := ownR_cells h2 hv
    obtain ⟨c4, h4⟩ := ownR_cells hO he.symm
    rw [h3] at h4
    simp only [Option.some.injEq, Obj.cells.injEq] at h4
    exact ht h4.2.1
def Apart (v u : Value) : Prop := ∀ b, v.ownBlock = some b → u.ownBlock ≠ some b
theorem own_blk_lt {w : World} {base : Nat} {e : TypeId} {sz : Nat} {v : Value} {n : Nat} {c : Nat → Nat → Value} (h : OwnR w base e sz v n c) {k : Nat} (hv : v.ownBlock = some k) : k < w.heap.size := by
  obtain ⟨cur, hc⟩ := ownR_cells h hv
  exact blk_lt hc
theorem Apart.app {v v' u : Value} {w : World} {base : Nat} {e : TypeId} {sz : Nat} {n : Nat} {c : Nat → Nat → Value} {o : Obj} (h : Apart v u) (hu : OwnR w base e sz u n c) (hp : v'.ownBlock = v.ownBlock ∨ v'.ownBlock = some (w.alloc o).heap.size) : Apart v' u := by
  intro b hb hub
  rcases hp with h1 | h1
  · exact h b (by rw [← h1]; exact hb) hub
  · have := own_blk_lt hu hub
    rw [h1] at hb
    rw [World.size_alloc] at hb
    injection hb with hb
    omega
theorem Apart.symm {v u : Value} (h : Apart v u) : Apart u v := fun b h1 h2 => h b h2 h1
theorem Apart.nil (u : Value) : Apart (.slice none 0 0) u := fun b h => by cases h
/-- A list of one's own that lies apart from the one that an append turns. -/
theorem own_apart {w w' : World} {base2 : Nat} {e2 : TypeId} {sz2 : Nat} {v u : Value} {n2 : Nat} {c2 : Nat → Nat → Value} {o : Obj} (ha : Apart v u) (hg : (w.alloc o).grownBy w' v.ownBlock) (h2 : OwnR w base2 e2 sz2 u n2 c2) : OwnR w' base2 e2 sz2 u n2 c2 := by
  refine (h2.below (below_alloc' w o)).kept hg ?_
  cases hu : u.ownBlock with
  | none => exact .inl rfl
  | some b => exact .inr fun he => ha b he.symm hu
set_option maxRecDepth 100000 in
set_option maxHeartbeats 8000000 in
theorem ways_lev {w0 : World} {S : Site} {s : SSl} {td m : Nat} (hS : SiteAt w0 S s) (hC : Chk S) (hm5 : m + 1 ≤ 5) (ih : 1 ≤ m → WaysC S s td m w0) : WaysC S s td (m + 1) w0 := by
  intro w B q sl hE0 hL hLs hB0 hRm hBn
  have HS := Lib.hid (hS.below hE0); have HL := Lib.hid hL; have HLS := Lib.hid hLs; have HRM := Lib.hid hRm; have HIH := Lib.hid ih
  have hn12 : S.rooms.length ≤ 12 := hC.len.1.2
  have hll := hL.le; have hlm := hL.max
  have hrl := hS.rm.le; have hrm := hS.rm.max
  obtain ⟨la, lc⟩ := sl
  dsimp only at hll hlm
  obtain ⟨lb, loff, hla, -⟩ := hL.cell 0 0 hB0 (by omega)
  dsimp only at hla
  subst hla
  have hB6 : B.length ≤ 371293 := Nat.le_trans (Nat.le_mul_of_pos_right _ (Nat.pow_pos (by omega))) hBn
  have HBN := Lib.hid hBn; have HE0 := Lib.hid hE0
  obtain ⟨mm, hmm⟩ : ∃ x, x = m + 1 := ⟨_, rfl⟩
  rw [← hmm]
  have HMM := Lib.hid hmm
  clear hS hL hLs hRm ih hBn hE0 hmm
  go_enter Tryz.func54, Tryz.ntmps54
  go_wp2_with (fail)
  refine wp_name ?_
  intro w1 hw1
  obtain ⟨n4, hn4⟩ : ∃ n, n = w.heap.size := ⟨_, rfl⟩
  have hE1 : Ext2 w w1 := by rw [hw1]; exact below_alloc' _ _
  have X4 : Hid (w1.heap[n4]? = some (Obj.cells #[.slice s.r.a S.rooms.length s.r.cap, .slice s.c.a S.cans.length s.c.cap, .int .i64 S.rlo, .int .i64 S.rhi, .slice s.p.a S.steps.length s.p.cap] 28)) := Lib.hid (by rw [hw1, hn4]; exact blk_new _ _)
  rw [← hn4]
  have HE1 := Lib.hid hE1
  clear hw1 hn4 hE1
  go_loopw [9, 10, 11] (fun v9 v10 z wr => ∃ (k : Nat) (qO qN : Nat → Sl), z = .int .i64 (k : Int) ∧ k ≤ B.length ∧ Below w.heap.size w wr ∧ wr.heap[n4]? = some (Obj.cells #[.slice s.r.a S.rooms.length s.r.cap, .slice s.c.a S.cans.length s.c.cap, .int .i64 S.rlo, .int .i64 S.rhi, .slice s.p.a S.steps.length s.p.cap] 28) ∧ OwnR wr w.heap.size 43 1 v9 (outK td (B.take k)).length (lsC qO (outK td (B.take k))) ∧ LsAt wr qO (outK td (B.take k)) ∧ OwnR wr w.heap.size 43 1 v10 (nxtK S.rooms.length td (B.take k)).length (lsC qN (nxtK S.rooms.length td (B.take k))) ∧ LsAt wr qN (nxtK S.rooms.length td (B.take k)) ∧ Apart v9 v10) (fun _ _ z _ => B.length - (intOf z).toNat)
  case atStart => exact ⟨0, fun _ => ⟨none, 0⟩, fun _ => ⟨none, 0⟩, rfl, by omega, HE1.out, X4.out, own_nil _ _ _ _ _, fun i hi => absurd hi (Nat.not_lt_zero i), own_nil _ _ _ _ _, fun i hi => absurd hi (Nat.not_lt_zero i), Apart.nil _⟩
  case round =>
    obtain ⟨wo, rfl⟩ : ∃ x, x = wr := ⟨_, rfl⟩
    obtain ⟨k, qO, qN, rfl, hk, hB, x4, hO, hLO, hN, hLN, hAp⟩ := hrel
    have HB := Lib.hid hB; have X4' := Lib.hid x4; have HO := Lib.hid hO; have HLO := Lib.hid hLO; have HN := Lib.hid hN; have HLN := Lib.hid hLN; have HAP := Lib.hid hAp
    clear hO hLO hN hLN hAp
    by_cases hlt : k < B.length
    · obtain ⟨b', o', hc, c0⟩ := (HL.out.below hB).cell k 0 hlt (by omega)
      cases hc
      obtain ⟨hl1, hl6, hlr⟩ := HRM.out _ (lsD_mem hlt)
      have hOl := (HLS.out k hlt).below hB
      obtain ⟨l, hl⟩ : ∃ l, l = lsD B k := ⟨_, rfl⟩
      obtain ⟨qa, qc, hqk⟩ : ∃ a c, q k = Sl.mk a c := ⟨_, _, rfl⟩
      unfold lsC at c0
      rw [← hl, hqk] at c0 hOl
      rw [← hl] at hl1 hl6 hlr
      dsimp only at c0 hOl
      obtain ⟨g, hg, hcp, hcm, hcel⟩ := own_head hOl (show 0 < l.length by omega)
      subst hg
      have htk := take_lsD hlt
      rw [← hl] at htk
      have hout := outK_snoc td (B.take k) l
      have hnxt := nxtK_snoc S.rooms.length td (B.take k) l
      rw [← htk] at hout hnxt
      obtain ⟨O, hOd⟩ : ∃ O, O = outK td (B.take k) := ⟨_, rfl⟩
      obtain ⟨N, hNd⟩ : ∃ N, N = nxtK S.rooms.length td (B.take k) := ⟨_, rfl⟩
      have hOn : O.length ≤ 371293 := by rw [hOd]; exact Nat.le_trans (List.length_filter_le _ _) (by rw [List.length_take]; omega)
      have hNn : N.length ≤ 12 * 371293 := by
        rw [hNd]
        refine Nat.le_trans (nxtK_len _ _ _) (Nat.mul_le_mul hn12 ?_)
        rw [List.length_take]; omega
      rw [← hOd] at hout HO HLO
      rw [← hNd] at hnxt HN HLN
      have HOUT := Lib.hid hout; have HNXT := Lib.hid hnxt; have HLW := Lib.hid hl; have HOL := Lib.hid hOl; have HCEL := Lib.hid hcel; have HLR := Lib.hid hlr
      obtain ⟨p, hp⟩ : ∃ p, p = l.length - 1 := ⟨_, rfl⟩
      have c1 := hcel p (by omega)
      unfold nC at c1
      obtain ⟨e, he⟩ : ∃ e, e = natD l p := ⟨_, rfl⟩
      rw [← he] at c1
      have hends : endsB td l = decide (e = td) := by unfold endsB; rw [← hp, ← he]
      have HEN := Lib.hid hends
      have i1 : (k : Int) < (B.length : Int) := by omega
      have i0 : (0 : Int) ≤ (k : Int) := by omega
      have wk1 : IntKind.i64.wrap ((k : Int) + 1) = (k : Int) + 1 := IntWalk.i64_in _ (by omega)
      have wl1 : IntKind.i64.wrap ((l.length : Int) - 1) = (p : Int) := by rw [show (l.length : Int) - 1 = (p : Int) by omega]; exact IntWalk.i64_in _ (by omega)
      have p0 : (0 : Int) ≤ (p : Int) := by omega
      have p1 : (p : Int) < (l.length : Int) := by omega
      replace c0 : wo.cell? ⟨lb, loff + k, none⟩ = some (.slice (some ⟨g, 0, none⟩) l.length qc) := by
        have e : loff + k * 1 + 0 = loff + k := by omega
        rw [e] at c0; exact c0
      have hsz := HB.out.size
      have HLL := Lib.hid hl1
      have hl9 : l.length ≤ 6 := by omega
      clear hl hqk hOl hcel hlr htk hout hnxt hOd hNd hp he hends hB hl6
      by_cases hend : e = td
      · have b1 : ((e : Int) == (td : Int)) = true := by rw [hend]; simp
        have HEE := Lib.hid (show endsB td l = true by rw [HEN.out]; exact decide_eq_true hend)
        clear hend x4
        go_wp2_with (at_builtin; refine app_one_at [.slice (some ⟨g, 0, none⟩) l.length qc] elLs rfl _ _ rfl w.heap.size rfl (HO.out.below (below_alloc' _ _)) wo.heap.size 1 rfl (blk_new _ _) (by simp [Value.oneCell']) (by omega) (by simp; omega) ?_; intro v' w5 hO5 hg5 hpl)
        have HB5 := Lib.hid (below_app HB.out HO.out hsz hg5)
        have X45 := Lib.hid (app_blk HO.out hg5 X4'.out (by decide))
        have hO6 : OwnR w5 w.heap.size 43 1 v' (O ++ [l]).length (lsC (qNew qO O.length ⟨some ⟨g, 0, none⟩, qc⟩) (O ++ [l])) := by
          rw [List.length_append]
          exact hO5.congr fun i j hi hj => lsC_snoc (s := ⟨some ⟨g, 0, none⟩, qc⟩) hi hj
        have HO6 := Lib.hid hO6
        have HLO6 := Lib.hid (LsAt.snoc (s := ⟨some ⟨g, 0, none⟩, qc⟩) (HLO.out.app HO.out hg5) ((own_app HO.out hg5 HOL.out (by decide))))
        have HLN6 := Lib.hid (HLN.out.app HO.out hg5)
        have HN6 := Lib.hid (own_apart HAP.out hg5 HN.out)
        have HAP6 := Lib.hid (HAP.out.app HN.out hpl)
        clear hO5 hO6 hg5 c0 c1 hpl
        go_wp2_with (fail)
        go_roundw
        case rel => exact ⟨k + 1, qNew qO O.length ⟨some ⟨g, 0, none⟩, qc⟩, qN, by go_num, by omega, HB5.out, X45.out, by rw [HOUT.out, if_pos HEE.out]; exact HO6.out, by rw [HOUT.out, if_pos HEE.out]; exact HLO6.out, by rw [HNXT.out, if_pos HEE.out]; exact HN6.out, by rw [HNXT.out, if_pos HEE.out]; exact HLN6.out, HAP6.out⟩
        case measure => simp [intOf]; omega
      · have b1 : ((e : Int) == (td : Int)) = false := beq_eq_false_iff_ne.2 (by omega)
        have HEE := Lib.hid (show ¬ endsB td l = true by rw [HEN.out]; simpa using hend)
        clear hend x4
        go_wp2_with (fail)
        clear c0 c1 b1
        go_loopw [10, 13] (fun v10 z wr => ∃ (r : Nat) (qE : Nat → Sl), z = .int .i64 (r : Int) ∧ r ≤ S.rooms.length ∧ Below w.heap.size w wr ∧ Ext2 w w1 ∧ wr.heap[n4]? = some (Obj.cells #[.slice s.r.a S.rooms.length s.r.cap, .slice s.c.a S.cans.length s.c.cap, .int .i64 S.rlo, .int .i64 S.rhi, .slice s.p.a S.steps.length s.p.cap] 28) ∧ OwnR wr w.heap.size 43 1 u9 O.length (lsC qO O) ∧ LsAt wr qO O ∧ OwnR wr w.heap.size 43 1 v10 (N ++ extK r l).length (lsC qE (N ++ extK r l)) ∧ LsAt wr qE (N ++ extK r l) ∧ OwnR wr 0 3 1 (.slice (some ⟨g, 0, none⟩) l.length qc) l.length (nC l) ∧ Apart u9 v10) (fun _ z _ => S.rooms.length - (intOf z).toNat)
        case atStart => exact ⟨0, qN, rfl, by omega, HB.out, HE1.out, X4'.out, HO.out, HLO.out, by rw [extK_zero, List.append_nil]; exact HN.out, by rw [extK_zero, List.append_nil]; exact HLN.out, HOL.out, HAP.out⟩
        case round =>
          obtain ⟨wj, rfl⟩ : ∃ x, x = wr := ⟨_, rfl⟩
          obtain ⟨r, qE, rfl, hr, hBj, -, x4, hOj, hLOj, hNj, hLNj, hlj, hApj⟩ := hrel
          have HBj := Lib.hid hBj; have X4j := Lib.hid x4; have HOj := Lib.hid hOj; have HLOj := Lib.hid hLOj; have HNj := Lib.hid hNj; have HLNj := Lib.hid hLNj; have HLj := Lib.hid hlj; have HAPj := Lib.hid hApj
          obtain ⟨g', hg', -, -, hcl⟩ := own_head hlj (show 0 < l.length by omega)
          cases hg'
          have HCL := Lib.hid hcl
          clear hOj hLOj hNj hLNj hlj hcl hApj
          by_cases hrl2 : r < S.rooms.length
          · have r1 : (r : Int) < (S.rooms.length : Int) := by omega
            have wr1 : IntKind.i64.wrap ((r : Int) + 1) = (r : Int) + 1 := IntWalk.i64_in _ (by omega)
            have hex := extK_succ r l
            have HEX := Lib.hid hex
            have q4c := cell_blk x4
            have q4f := frz_blk x4
            clear x4 hBj hex
            go_wp2_with (fail)
            clear q4c q4f
            go_loopw [14, 15] (fun f z wr => ∃ j : Nat, z = .int .i64 (j : Int) ∧ j ≤ l.length ∧ f = .bool (!(l.take j).contains r) ∧ wr = wj) (fun _ z _ => l.length - (intOf z).toNat)
            case atStart => exact ⟨0, rfl, by omega, rfl, rfl⟩
            case round =>
              obtain ⟨j, rfl, hj, rfl, rfl⟩ := hrel
              obtain ⟨fr, hfr⟩ : ∃ b, b = (l.take j).contains r := ⟨_, rfl⟩
              rw [← hfr]
              by_cases hjl : j < l.length
              · have hnx := contains_take (r := r) hjl
                rw [← hfr] at hnx
                have c1 := HCL.out j hjl
                unfold nC at c1
                obtain ⟨x, hx⟩ : ∃ x, x = natD l j := ⟨_, rfl⟩
                rw [← hx] at c1 hnx
                have j1 : (j : Int) < (l.length : Int) := by omega
                have j0 : (0 : Int) ≤ (j : Int) := by omega
                have wj1 : IntKind.i64.wrap ((j : Int) + 1) = (j : Int) + 1 := IntWalk.i64_in _ (by omega)
                have HNX := Lib.hid hnx
                clear hfr hx hnx
                cases fr
                · by_cases hxr : x = r
                  · have b1 : ((x : Int) != (r : Int)) = false := by rw [hxr]; simp
                    have HXR := Lib.hid hxr
                    clear hxr
                    go_wp2_with (fail)
                    go_roundw
                    case rel => exact ⟨j + 1, by go_num, by omega, by rw [HNX.out, decide_eq_true HXR.out]; rfl, trivial⟩
                    case measure => simp [intOf]; omega
                  · have b1 : ((x : Int) != (r : Int)) = true := by simp; omega
                    have HXR := Lib.hid hxr
                    clear hxr
                    go_wp2_with (fail)
                    go_roundw
                    case rel => exact ⟨j + 1, by go_num, by omega, by rw [HNX.out, decide_eq_false HXR.out]; rfl, trivial⟩
                    case measure => simp [intOf]; omega
                · go_wp2_with (fail)
                  go_roundw
                  case rel => exact ⟨j + 1, by go_num, by omega, by rw [HNX.out]; rfl, trivial⟩
                  case measure => simp [intOf]; omega
              · obtain rfl : j = l.length := by omega
                have r2 : ¬ (l.length : Int) < (l.length : Int) := by omega
                rw [List.take_length] at hfr
                have HFR := Lib.hid hfr
                clear hfr
                cases fr
                · have hsz := HBj.out.size
                  have hrow := HCL.out
                  have hNE : (N ++ extK r l).length ≤ 1000000000 := by
                    rw [List.length_append]; have := extK_len r l; omega
                  have HNE := Lib.hid hNE
                  go_wp2_with (first | (at_builtin; refine wpL_name ?_; intro w4 hw4; (obtain ⟨be, hbe⟩ : ∃ n, n = wr.heap.size := ⟨_, rfl⟩); (have hE4 : Ext2 wr w4 := by rw [hw4]; exact below_alloc' _ _); (have NE : w4.heap[be]? = some (.cells #[] 3 (0, 0)) := by rw [hw4, hbe]; exact blk_new _ _); (have lbe : wr.heap.size ≤ be := by omega); rw [← hbe]; clear hw4 hbe; refine app_rows_at elInt (v := .slice (some ⟨be, 0, none⟩) 0 0) (c2 := nC l) rfl _ _ rfl be rfl (own_empty (c := nC l) NE (Nat.le_refl _)) g 0 l.length qc rfl (fun i j hi hj => (by (obtain rfl : j = 0 := by omega); rw [show 0 + i * 1 + 0 = i by omega]; exact (Below.cell (p := ⟨g, i, none⟩) hE4 (cell_lt (HCL.out i hi))).trans (HCL.out i hi))) (nC_cell _) (by omega) (by have := blk_lt NE; omega) (fun i j hi _ => absurd hi (Nat.not_lt_zero i)) (fun i j _ _ => by rw [Nat.zero_add]) ?_; intro vA w6 hO6 hg6 _; rw [Nat.zero_add] at hO6; (obtain ⟨gA, cA, hvA, hgeA, -, -, -⟩ := own_some hO6 (by omega)); subst hvA; (have hE6 : Ext2 wr w6 := ext_grown hE4 hg6 (fun k hk => by simp [Value.ownBlock] at hk; omega)); (have HO6 := Lib.hid hO6); (have HE6 := Lib.hid hE6); clear hO6 hg6 NE hE4 hE6) | (at_builtin; refine app_one [.int .i64 (r : Int)] elInt rfl _ _ rfl be rfl (HO6.out.below (below_alloc' _ _)) w6.heap.size 1 rfl (blk_new _ _) (by simp [Value.oneCell']) (by omega) (by have := own_blk_lt (k := gA) HO6.out rfl; simp; omega) ?_; intro vB w8 hO8 hg8; (obtain ⟨gB, cB, hvB, hgeB, -, -, -⟩ := own_some hO8 (by omega)); subst hvB; (have HO8 := Lib.hid (OwnR.base (OwnR.congr hO8 fun i j hi hj => nC_snoc hi (by simpa using hj)) (Nat.zero_le be))); (have hE8 : Ext2 wr w8 := below_app HE6.out (HO6.out.base lbe) HE6.out.size hg8); (have HE8 := Lib.hid hE8); (have hs8 := hE8.size); clear hO8 hg8 hE8) | (at_builtin; refine app_one_at [.slice (some ⟨gB, 0, none⟩) (l.length + 1) cB] elLs rfl _ _ rfl w.heap.size rfl ((HNj.out.below HE8.out).below (below_alloc' _ _)) w8.heap.size 1 rfl (blk_new _ _) (by simp [Value.oneCell']) (by omega) (by simp; omega) ?_; intro v' w9 hO9 hg9 hpl))
                  have hNj8 := HNj.out.below HE8.out
                  have HB9 := Lib.hid (below_app (below_ext HBj.out HE8.out) hNj8 (Nat.le_trans hsz hs8) hg9)
                  have X49 := Lib.hid (app_blk hNj8 hg9 (Ext2.blk HE8.out X4j.out) (by decide))
                  have HO9 := Lib.hid (own_apart (HAPj.out.symm) hg9 (HOj.out.below HE8.out))
                  have HLO9 := Lib.hid ((HLOj.out.below HE8.out).app hNj8 hg9)
                  have HLj9 := Lib.hid (own_app hNj8 hg9 (HLj.out.below HE8.out) (by decide))
                  have HAP9 := Lib.hid (Apart.symm (Apart.app HAPj.out.symm (HOj.out.below HE8.out) hpl))
                  have hlen : (l ++ [r]).length = l.length + 1 := by simp
                  have ho8 := HO8.out
                  rw [← hlen] at ho8 hO9
                  have HLN9 := Lib.hid (LsAt.snoc (s := ⟨some ⟨gB, 0, none⟩, cB⟩) ((HLNj.out.below HE8.out).app hNj8 hg9) (own_app hNj8 hg9 ho8 (by decide)))
                  have hN9 : OwnR w9 w.heap.size 43 1 v' ((N ++ extK r l) ++ [l ++ [r]]).length (lsC (qNew qE (N ++ extK r l).length ⟨some ⟨gB, 0, none⟩, cB⟩) ((N ++ extK r l) ++ [l ++ [r]])) := by
                    rw [List.length_append]
                    exact hO9.congr fun i j hi hj => lsC_snoc (s := ⟨some ⟨gB, 0, none⟩, cB⟩) hi hj
                  have HN9 := Lib.hid hN9
                  have HEQ : Hid (N ++ extK (r + 1) l = (N ++ extK r l) ++ [l ++ [r]]) := Lib.hid (by rw [HEX.out, if_neg (by rw [← HFR.out]; simp), List.append_assoc])
                  clear hO9 hg9 hpl hNj8 hlen ho8 hN9 hrow hNE
                  go_wp2_with (fail)
                  go_roundw
                  case rel => exact ⟨r + 1, qNew qE (N ++ extK r l).length ⟨some ⟨gB, 0, none⟩, cB⟩, by go_num, by omega, HB9.out, HE1.out, X49.out, HO9.out, HLO9.out, by rw [HEQ.out]; exact HN9.out, by rw [HEQ.out]; exact HLN9.out, HLj9.out, HAP9.out⟩
                  case measure => simp [intOf]; omega
                · go_wp2_with (fail)
                  go_roundw
                  case rel => exact ⟨r + 1, qE, by go_num, by omega, HBj.out, HE1.out, X4j.out, HOj.out, HLOj.out, by rw [HEX.out, if_pos HFR.out.symm]; exact HNj.out, by rw [HEX.out, if_pos HFR.out.symm]; exact HLNj.out, HLj.out, HAPj.out⟩
                  case measure => simp [intOf]; omega
          · obtain rfl : r = S.rooms.length := by omega
            have r2 : ¬ (S.rooms.length : Int) < (S.rooms.length : Int) := by omega
            have q4c := cell_blk x4
            have q4f := frz_blk x4
            clear x4 hBj
            go_wp2_with (fail)
            go_roundw
            case rel => exact ⟨k + 1, qO, qE, by go_num, by omega, HBj.out, X4j.out, by rw [HOUT.out, if_neg HEE.out]; exact HOj.out, by rw [HOUT.out, if_neg HEE.out]; exact HLOj.out, by rw [HNXT.out, if_neg HEE.out]; exact HNj.out, by rw [HNXT.out, if_neg HEE.out]; exact HLNj.out, HAPj.out⟩
            case measure => simp [intOf]; omega
    · obtain rfl : k = B.length := by omega
      have r2 : ¬ (B.length : Int) < (B.length : Int) := by omega
      rw [List.take_length] at HO HLO HN HLN
      obtain ⟨O, hOd⟩ : ∃ O, O = outK td B := ⟨_, rfl⟩
      obtain ⟨N, hNd⟩ : ∃ N, N = nxtK S.rooms.length td B := ⟨_, rfl⟩
      have hNrm := nxtK_rooms (n := S.rooms.length) (to_ := td) HRM.out
      have hNlen : N.length ≤ 12 * B.length := by rw [hNd]; exact Nat.le_trans (nxtK_len _ _ _) (Nat.mul_le_mul_right _ hn12)
      have hOn : O.length ≤ B.length := by rw [hOd]; exact List.length_filter_le _ _
      rw [← hOd] at HO HLO
      rw [← hNd] at HN HLN hNrm
      have HWV : Hid (waysV S.rooms.length td mm B = O ++ waysV S.rooms.length td m N) := Lib.hid (by rw [HMM.out, waysV_succ, hOd, hNd])
      obtain ⟨⟨na, nc⟩, hu10, hNrow⟩ := HN.out.sl
      have HNR := Lib.hid hNrow
      have HNRM := Lib.hid hNrm
      have HEND : Hid (∀ W v q, OwnR W w.heap.size 43 1 v (waysV S.rooms.length td mm B).length (lsC q (waysV S.rooms.length td mm B)) → LsAt W q (waysV S.rooms.length td mm B) → Below w.heap.size w W → WaysOut w (waysV S.rooms.length td mm B) (.returned v) W) := Lib.hid fun W v q h1 h2 h3 => ⟨v, q, rfl, h1, h2, h3⟩
      clear hOd hNd x4 hB hNrow hNrm
      subst hu10
      dsimp only
      by_cases hgo : 1 ≤ m ∧ 0 < N.length
      case neg =>
        have HW0 : Hid (waysV S.rooms.length td mm B = O) := Lib.hid (by
          rw [HWV.out]
          by_cases h0 : m = 0
          · subst h0; simp [waysV]
          · have : N = [] := List.length_eq_zero_iff.1 (by omega)
            rw [this, waysV_nil, List.append_nil])
        by_cases h0 : m = 0
        · have b1 : ¬ (1 : Int) < (mm : Int) := by have := HMM.out; omega
          clear hgo h0
          go_wp2_with (fail)
          go_ret
          exact HEND.out _ _ qO (by rw [HW0.out]; exact HO.out) (by rw [HW0.out]; exact HLO.out) HB.out
        · have b1 : (1 : Int) < (mm : Int) := by have := HMM.out; omega
          have b2 : ¬ (0 : Int) < (N.length : Int) := by omega
          have b3 : ¬ 0 < N.length := by omega
          have b4 : N.length = 0 := by omega
          clear hgo h0
          go_wp2_with (fail)
          go_ret
          exact HEND.out _ _ qO (by rw [HW0.out]; exact HO.out) (by rw [HW0.out]; exact HLO.out) HB.out
      case pos =>
        obtain ⟨hm1, hN0⟩ := hgo
        have b1 : (1 : Int) < (mm : Int) := by have := HMM.out; omega
        have b2 : (0 : Int) < (N.length : Int) := by omega
        have wm : IntKind.i64.wrap ((mm : Int) - 1) = (m : Int) := by rw [show (mm : Int) - 1 = (m : Int) by have := HMM.out; omega]; exact IntWalk.i64_in _ (by omega)
        have hcall := HIH.out hm1 wo N qN ⟨na, nc⟩ (ext_trans HE0.out HB.out) HNR.out HLN.out hN0 (fun x hx => by
          obtain ⟨a1, a2, a3⟩ := HNRM.out x hx
          exact ⟨a1, by omega, a3⟩) (by
            have h1 := HBN.out
            rw [Nat.pow_succ] at h1
            have h2 : N.length * 13 ^ m ≤ 12 * B.length * 13 ^ m := Nat.mul_le_mul_right _ hNlen
            have h3 : B.length * (13 ^ m * 13) = 12 * B.length * 13 ^ m + B.length * 13 ^ m := by
              rw [Nat.mul_assoc 12, Nat.mul_comm (13 ^ m) 13, ← Nat.mul_assoc, Nat.mul_comm B.length 13, Nat.mul_assoc 13]; omega
            omega)
        have HCALL := Lib.hid hcall
        have x4 := X4'.out
        have hRl := waysV_len (to_ := td) hn12 m N
        have hRl2 : (waysV S.rooms.length td m N).length ≤ 371293 := by
          have h1 := HBN.out
          rw [Nat.pow_succ] at h1
          have h2 : N.length * 13 ^ m ≤ 12 * B.length * 13 ^ m := Nat.mul_le_mul_right _ hNlen
          have h3 : B.length * (13 ^ m * 13) = 12 * B.length * 13 ^ m + B.length * 13 ^ m := by
            rw [Nat.mul_assoc 12, Nat.mul_comm (13 ^ m) 13, ← Nat.mul_assoc, Nat.mul_comm B.length 13, Nat.mul_assoc 13]; omega
          omega
        obtain ⟨R, hR⟩ : ∃ R, R = waysV S.rooms.length td m N := ⟨_, rfl⟩
        rw [← hR] at hRl2
        have HR := Lib.hid hR
        have q4c := cell_blk x4
        have q4f := frz_blk x4
        clear hcall x4 hRl hR
        go_wp2_with (fail)
        (with_reducible refine HCALL.out.mono ?_)
        rintro e w3 ⟨v, q3, rfl, hO3, hL3, hb3⟩
        rw [← HR.out] at hO3 hL3
        have HB3 := Lib.hid (below_ext HB.out hb3)
        have hO9 := HO.out.below hb3
        have HO9 := Lib.hid hO9; have HLO3 := Lib.hid (HLO.out.below hb3); have HL3 := Lib.hid hL3
        have hsz3 := HB3.out.size
        clear hb3 q4c q4f hL3 hO9
        rcases hO3.forms with ⟨rfl, h0⟩ | ⟨g3, c3, rfl, -, hc1, hc2, hrow, -, -⟩
        · have hR0 : R = [] := List.length_eq_zero_iff.1 h0
          have HW0 : Hid (waysV S.rooms.length td mm B = O) := Lib.hid (by rw [HWV.out, ← HR.out, hR0, List.append_nil])
          obtain ⟨i0, hi0, hz0, hz1, hz2⟩ := info_parts elLs.info
          have HOU : Hid (w3.ownsRow w.heap.size 43 1 u9 O.length (cellsOf 1 O.length (lsC qO O))) := Lib.hid HO9.out
          clear hO3 h0 hR0
          go_wp2_with (at_builtin; refine wpList_append_own_none rfl _ _ 106 rfl w.heap.size 43 i0 1 elLs.und hi0 u9 O.length _ rfl HOU.out rfl ?_)
          go_ret
          exact HEND.out _ _ qO (by rw [HW0.out]; exact HO9.out) (by rw [HW0.out]; exact HLO3.out) HB3.out
        · have HRW := Lib.hid hrow
          clear hO3 hrow
          go_wp2_with (at_builtin; refine app_rows_at elLs (v := u9) (c2 := lsC (qApp qO q3 O.length) (O ++ R)) rfl _ _ rfl w.heap.size rfl HO9.out g3 0 R.length c3 rfl (HRW.out.2) (lsC_cell _ _) (by omega) hsz3 (fun i j hi hj => by unfold lsC qApp; rw [lsD_appL hi, if_pos hi]) (fun i j hi hj => by unfold lsC qApp; rw [lsD_appR, if_neg (by omega), Nat.add_sub_cancel_left]) ?_; intro v' w5 hO5 hg5 hpl5)
          have HB5 := Lib.hid (ext_grown HB3.out hg5 (fun k hk => own_block HO9.out k hk))
          have HLR := Lib.hid (LsAt.append (fun i hi => own_app0 HO9.out hg5 (HLO3.out i hi) (by decide)) (fun i hi => own_app0 HO9.out hg5 (HL3.out i hi) (by decide)))
          have hO6 : OwnR w5 w.heap.size 43 1 v' (O ++ R).length (lsC (qApp qO q3 O.length) (O ++ R)) := by rw [List.length_append]; exact hO5
          have HO6 := Lib.hid hO6
          have HW0 : Hid (waysV S.rooms.length td mm B = O ++ R) := Lib.hid (by rw [HWV.out, ← HR.out])
          clear hO5 hO6 hg5 hpl5
          go_wp2_with (fail)
          go_ret
          exact HEND.out _ _ (qApp qO q3 O.length) (by rw [HW0.out]; exact HO6.out) (by rw [HW0.out]; exact HLR.out) HB5.out
theorem ways_any {w0 : World} {S : Site} {s : SSl} {td : Nat} (hS : SiteAt w0 S s) (hC : Chk S) : ∀ m, m + 1 ≤ 5 → WaysC S s td (m + 1) w0
  | 0, h => ways_lev hS hC h (fun h1 => by omega)
  | m + 1, h => ways_lev hS hC h (fun _ => ways_any hS hC m (by omega))
end Go.Proofs.YtfpaihjcbpaneaaGreatDoor
