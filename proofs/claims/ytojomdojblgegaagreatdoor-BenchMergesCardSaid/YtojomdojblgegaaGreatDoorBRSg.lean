/-
  ref.standing.
-/
import Derived.Test.YtojomdojblgegaaGreatDoorBRBf
import Derived.Test.YtojomdojblgegaaGreatDoorBPlI
import Derived.Test.YtojomdojblgegaaGreatDoorBSlN
import Derived.Test.YtojomdojblgegaaGreatDoorBReg
namespace Go.Proofs.YtojomdojblgegaaGreatDoor
open Go.RowKit D
set_option linter.unusedVariables false
set_option linter.unusedSimpArgs false
attribute [local go_sem high] run_minI run_maxI
attribute [local go_sem] upon2 cls_cell cls_frozen forall_const exists_eq_left'
attribute [local go_sem] FirstUpon atBlk_cell
attribute [local go_sem high] run_notes_to run_notes_from
set_option maxRecDepth 100000 in
set_option maxHeartbeats 8000000 in
theorem standingR_any {l : List Note} {s : Sl} {w : World} (hl : NotesS w s l) (hn : l.length ≤ 100000) : Calls Tryz.prog 37 #[.slice s.a l.length s.cap] w fun e w' => (∃ s' : Sl, e = .returned (.slice s'.a (standV l).length s'.cap) ∧ NotesS w' s' (standV l)) ∧ Below w.heap.size w w' := by
  have HL := Lib.hid hl
  have hle := hl.le; have hmx := hl.max
  have HSD := Lib.hid fun (W : World) (hW : Ext2 w W) (x : Note) => standsR_any (x := x) (RowS.below hl hW)
  have HBF := Lib.hid fun (W : World) (a b : Note) => beforeN_any (a := a) (b := b) (w := W)
  obtain ⟨sa, sc⟩ := s
  obtain ⟨n, hnn⟩ : ∃ n, n = l.length := ⟨_, rfl⟩
  rw [← hnn] at hle hn HSD ⊢
  have HN := Lib.hid hnn
  dsimp only at hle hmx HSD
  clear hl hnn
  go_enter Tryz.func37, Tryz.ntmps37
  go_wp2_with (fail)
  go_loopw [3, 4] (fun ov i wr => ∃ (k : Nat) (so : Sl), i = .int .i64 k ∧ k ≤ n ∧ ov = .slice so.a (standK l (l.take k) []).length so.cap ∧ Ext2 w wr ∧ NotesS wr so (standK l (l.take k) [])) (fun _ i _ => n - (intOf i).toNat)
  case atStart => exact ⟨0, ⟨none, 0⟩, rfl, by omega, rfl, Below.refl _ _, notes_none _⟩
  case round =>
    obtain ⟨k, ⟨oa, oc⟩, rfl, hk, rfl, hE, hO⟩ := hrel
    have HE := Lib.hid hE; have HO := Lib.hid hO
    have hol := hO.le; have hom := hO.max
    have hkle := standK_len (l := l) (k := k) (by rw [← HN.out]; exact hk)
    clear hE hO
    by_cases hlt : k < n
    · go_light
      have hkl : k < l.length := by rw [← HN.out]; exact hlt
      have hst := standK_take (l := l) hkl
      obtain ⟨O, hOO⟩ : ∃ O, O = standK l (l.take k) [] := ⟨_, rfl⟩
      rw [← hOO] at HO hst hol hkle ⊢
      obtain ⟨b, off, hla, c0, c1, c2, c3, c4, c5, c6, c7⟩ := nt_cells (RowS.below HL.out HE.out) hkl
      dsimp only at hla hol hom
      subst hla
      obtain ⟨x, hx⟩ : ∃ x, x = ntD l k := ⟨_, rfl⟩
      rw [← hx] at c0 c1 c2 c3 c4 c5 c6 c7 hst
      obtain ⟨q, hq⟩ : ∃ q, q = O.length := ⟨_, rfl⟩
      rw [← hq] at hol hkle ⊢
      have HQ := Lib.hid hq
      have HST := Lib.hid hst
      have H1 := Lib.hid fun (W : World) (hW : Ext2 w W) => HSD.out W hW x
      obtain ⟨v, hv⟩ : ∃ v, v = standsB l x := ⟨_, rfl⟩
      rw [← hv] at H1 HST
      have g0 : (0 : Int) ≤ (k : Int) := by omega
      have g1 : (k : Int) < (n : Int) := by omega
      have e0 : decide ((0 : Int) ≤ (k : Int)) = true := decide_eq_true g0
      have e1 : decide ((k : Int) < (n : Int)) = true := decide_eq_true g1
      have w1' : IntKind.i64.wrap ((k : Int) + 1) = (k : Int) + 1 := IntWalk.i64_in _ (by omega)
      have C0 := Lib.hid c0; have C1 := Lib.hid c1; have C2 := Lib.hid c2; have C3 := Lib.hid c3; have C4 := Lib.hid c4; have C5 := Lib.hid c5; have C6 := Lib.hid c6; have C7 := Lib.hid c7
      clear hst hOO hx hq hv hkl
      go_wp2_with (fail)
      (with_reducible refine (H1.out _ HE.out).mono ?_)
      rintro e w3 ⟨rfl, hE3⟩
      have HE3 := Lib.hid (ext_trans HE.out hE3); have HW3 := Lib.hid hE3
      have HO3 := Lib.hid (RowS.below HO.out hE3)
      clear hE3 c0 c1 c2 c3 c4 c5 c6 c7 H1
      cases v with
      | false =>
        have HF : Hid (standK l (l.take (k + 1)) [] = O) := Lib.hid (by rw [HST.out, if_neg (by simp)])
        go_wp2_with (fail)
        go_roundw
        case rel => exact ⟨k + 1, ⟨oa, oc⟩, by go_num, by omega, by rw [HF.out, ← HQ.out], HE3.out, by rw [HF.out]; exact HO3.out⟩
        case measure => simp [intOf]; omega
      | true =>
      have HF : Hid (standK l (l.take (k + 1)) [] = insN x O) := Lib.hid (by rw [HST.out, if_pos rfl])
      go_wp2_with (fail)
      go_loopw [5] (fun av ws => ∃ m : Nat, av = .int .i64 m ∧ m ≤ q ∧ Ext2 w3 ws ∧ ∀ j, j < m → ordV (ntD O j) x < 0) (fun i _ => q - (intOf i).toNat)
      case atStart => exact ⟨0, rfl, by omega, Below.refl _ _, fun j h => absurd h (by omega)⟩
      case round =>
        obtain ⟨m, rfl, hm, hEm, hlow⟩ := hrel
        have HEm := Lib.hid hEm; have HLOW := Lib.hid hlow
        have HWm := Lib.hid (ext_trans HW3.out hEm)
        clear hEm hlow
        have c0 := ext_cell' HWm.out C0.out; have c1 := ext_cell' HWm.out C1.out; have c2 := ext_cell' HWm.out C2.out; have c3 := ext_cell' HWm.out C3.out
        have c4 := ext_cell' HWm.out C4.out; have c5 := ext_cell' HWm.out C5.out; have c6 := ext_cell' HWm.out C6.out; have c7 := ext_cell' HWm.out C7.out
        by_cases hmq : m < q
        · obtain ⟨ob, oo, hoa, d0, d1, d2, d3, d4, d5, d6, d7⟩ := nt_cells (RowS.below HO3.out HEm.out) (i := m) (by rw [← HQ.out]; exact hmq)
          dsimp only at hoa
          subst hoa
          obtain ⟨y, hy⟩ : ∃ y, y = ntD O m := ⟨_, rfl⟩
          rw [← hy] at d0 d1 d2 d3 d4 d5 d6 d7
          have HY := Lib.hid hy
          have HB2 := Lib.hid fun (W : World) => HBF.out W y x
          obtain ⟨u, hu⟩ : ∃ u, u = decide (ordV y x < 0) := ⟨_, rfl⟩
          rw [← hu] at HB2
          have HU := Lib.hid hu
          have f0 : (0 : Int) ≤ (m : Int) := by omega
          have f1 : (m : Int) < (q : Int) := by omega
          have f2 : decide ((0 : Int) ≤ (m : Int)) = true := decide_eq_true f0
          have f3 : decide ((m : Int) < (q : Int)) = true := decide_eq_true f1
          have w2' : IntKind.i64.wrap ((m : Int) + 1) = (m : Int) + 1 := IntWalk.i64_in _ (by omega)
          clear hy hu
          cases u with
          | true =>
            have HUP : Hid (∀ j, j < m + 1 → ordV (ntD O j) x < 0) := Lib.hid fun j hj => by
              rcases Nat.lt_or_ge j m with h' | h'
              · exact HLOW.out j h'
              · obtain rfl : j = m := by omega
                rw [← HY.out]; exact of_decide_eq_true HU.out.symm
            clear hmq
            go_upto_region 7 with (fail)
            refine region_ev [] [0, 1, 2, 3, 4, 5, 6, 7, 8, 9, 10, 11, 12, 13, 14] [] [] (by kernel_rfl) (by kernel_rfl) (by intro c a d v w h; cases d <;> exact h) ?_
            simp only [picks, List.drop_succ_cons, List.drop_zero]
            repeat (refine wpQ0_step (fun K hK => ?_); go_simp; (refine hK _ ?_; clear hK K))
            refine wpQ0_nil ?_
            repeat ((with_reducible refine wpQ2_step (fun K hK => ?_)); go_simp; first | ((with_reducible refine hK _ ?_); clear hK K) | (apply Exists.intro; refine ⟨fun x => ?_, hK _ ?_⟩; ((with_reducible exact HB2.out x.1)); clear hK K) | (refine ite_undef (fun h => (by have h_ : (none : Option Bool) = some _ := h; cases h_)) ?_; (with_reducible refine hK _ ?_); clear hK K))
            (with_reducible refine wpQ2_nil ?_)
            refine Events.none_ fun w7 hg7 => ?_
            simp only [picks, List.drop_succ_cons, List.drop_zero]
            have HE7 := Lib.hid (ext_trans HEm.out hg7)
            clear c0 c1 c2 c3 c4 c5 c6 c7 d0 d1 d2 d3 d4 d5 d6 d7 hg7
            go_wp2_with (fail)
            go_roundw
            case rel => exact ⟨m + 1, by go_num, by omega, HE7.out, HUP.out⟩
            case measure => simp [intOf]; omega
          | false =>
            have HIN : Hid (insN x O = if y = x then O else O.take m ++ x :: O.drop m) := Lib.hid (by
              rw [insN_at HLOW.out (by rw [← HQ.out]; omega) (.inr (by rw [← HY.out]; exact of_decide_eq_false HU.out.symm)), ← HY.out]
              by_cases h : y = x
              · rw [if_pos ⟨by rw [← HQ.out]; exact hmq, h⟩, if_pos h]
              · rw [if_neg (fun hh => h hh.2), if_neg h])
            have D0 := Lib.hid d0; have D1 := Lib.hid d1; have D2 := Lib.hid d2; have D3 := Lib.hid d3; have D4 := Lib.hid d4; have D5 := Lib.hid d5; have D6 := Lib.hid d6; have D7 := Lib.hid d7
            go_upto_region 7 with (fail)
            refine region_ev [] [0, 1, 2, 3, 4, 5, 6, 7, 8, 9, 10, 11, 12, 13, 14] [] [] (by kernel_rfl) (by kernel_rfl) (by intro c a d v w h; cases d <;> exact h) ?_
            simp only [picks, List.drop_succ_cons, List.drop_zero]
            repeat (refine wpQ0_step (fun K hK => ?_); go_simp; (refine hK _ ?_; clear hK K))
            refine wpQ0_nil ?_
            repeat ((with_reducible refine wpQ2_step (fun K hK => ?_)); go_simp; first | ((with_reducible refine hK _ ?_); clear hK K) | (apply Exists.intro; refine ⟨fun x => ?_, hK _ ?_⟩; ((with_reducible exact HB2.out x.1)); clear hK K) | (refine ite_undef (fun h => (by have h_ : (none : Option Bool) = some _ := h; cases h_)) ?_; (with_reducible refine hK _ ?_); clear hK K))
            (with_reducible refine wpQ2_nil ?_)
            refine Events.none_ fun w7 hg7 => ?_
            simp only [picks, List.drop_succ_cons, List.drop_zero]
            have HE7 := Lib.hid (ext_trans HEm.out hg7)
            have HW7 := Lib.hid (ext_trans HWm.out hg7)
            replace d0 := ext_cell' hg7 D0.out; replace d1 := ext_cell' hg7 D1.out; replace d2 := ext_cell' hg7 D2.out; replace d3 := ext_cell' hg7 D3.out
            replace d4 := ext_cell' hg7 D4.out; replace d5 := ext_cell' hg7 D5.out; replace d6 := ext_cell' hg7 D6.out; replace d7 := ext_cell' hg7 D7.out
            replace c0 := ext_cell' HW7.out C0.out; replace c1 := ext_cell' HW7.out C1.out; replace c2 := ext_cell' HW7.out C2.out; replace c3 := ext_cell' HW7.out C3.out
            replace c4 := ext_cell' HW7.out C4.out; replace c5 := ext_cell' HW7.out C5.out; replace c6 := ext_cell' HW7.out C6.out; replace c7 := ext_cell' HW7.out C7.out
            clear hg7
            go_upto_region 9 with (fail)
            have b0 : ((m : Int) == (q : Int)) = false := by simp; omega
            by_cases hyx : y = x
            · have hE : ∀ W : World, (binOp .neq 59 (.agg #[.string y.by_, .int .i64 y.number, .int .i64 y.rev, .int .i64 y.kind, .int .i64 y.from_, .int .i64 y.until_, .int .i64 y.mlo, .int .i64 y.mhi]) (.agg #[.string x.by_, .int .i64 x.number, .int .i64 x.rev, .int .i64 x.kind, .int .i64 x.from_, .int .i64 x.until_, .int .i64 x.mlo, .int .i64 x.mhi])).run Tryz.prog W = .ok (.bool false) W := fun W => by rw [run_neq_sameNt, decide_eq_true (nt_eq.1 hyx)]; rfl
              have HF2 : Hid (standK l (l.take (k + 1)) [] = O) := Lib.hid (by rw [HF.out, HIN.out, if_pos hyx])
              clear hyx hmq
              refine region_ev [] [0, 1, 2, 3, 4, 5, 6, 7, 8, 9, 10, 11, 12, 13, 14] [] [] (by kernel_rfl) (by kernel_rfl) (by intro c a d v w h; cases d <;> exact h) ?_
              simp only [picks, List.drop_succ_cons, List.drop_zero]
              repeat (refine wpQ0_step (fun K hK => ?_); go_simp; (refine hK _ ?_; clear hK K))
              refine wpQ0_nil ?_
              repeat ((with_reducible refine wpQ2_step (fun K hK => ?_)); go_simp; first | ((with_reducible refine hK _ ?_); clear hK K) | (apply Exists.intro; refine ⟨fun x => ?_, hK _ ?_⟩; (fail); clear hK K) | (refine ite_undef (fun h => (by have h_ : (none : Option Bool) = some _ := h; cases h_)) ?_; (with_reducible refine hK _ ?_); clear hK K))
              (with_reducible refine wpQ2_nil ?_)
              refine Events.none_ fun w8 hg8 => ?_
              simp only [picks, List.drop_succ_cons, List.drop_zero]
              have HE8 := Lib.hid (ext_trans HE7.out hg8)
              clear c0 c1 c2 c3 c4 c5 c6 c7 d0 d1 d2 d3 d4 d5 d6 d7 hg8 hE
              go_wp2_with (fail)
              go_roundw
              case rel => exact ⟨k + 1, ⟨some ⟨ob, oo, none⟩, oc⟩, by go_num, by omega, by rw [HF2.out, ← HQ.out], ext_trans HE3.out HE8.out, by rw [HF2.out]; exact RowS.below HO3.out HE8.out⟩
              case measure => simp [intOf]; omega
            · have hE : ∀ W : World, (binOp .neq 59 (.agg #[.string y.by_, .int .i64 y.number, .int .i64 y.rev, .int .i64 y.kind, .int .i64 y.from_, .int .i64 y.until_, .int .i64 y.mlo, .int .i64 y.mhi]) (.agg #[.string x.by_, .int .i64 x.number, .int .i64 x.rev, .int .i64 x.kind, .int .i64 x.from_, .int .i64 x.until_, .int .i64 x.mlo, .int .i64 x.mhi])).run Tryz.prog W = .ok (.bool true) W := fun W => by rw [run_neq_sameNt, decide_eq_false (fun h => hyx (nt_eq.2 h))]; rfl
              have HF2 : Hid (standK l (l.take (k + 1)) [] = O.take m ++ x :: O.drop m) := Lib.hid (by rw [HF.out, HIN.out, if_neg hyx])
              clear hyx hmq
              refine region_ev [] [0, 1, 2, 3, 4, 5, 6, 7, 8, 9, 10, 11, 12, 13, 14] [] [] (by kernel_rfl) (by kernel_rfl) (by intro c a d v w h; cases d <;> exact h) ?_
              simp only [picks, List.drop_succ_cons, List.drop_zero]
              repeat (refine wpQ0_step (fun K hK => ?_); go_simp; (refine hK _ ?_; clear hK K))
              refine wpQ0_nil ?_
              repeat ((with_reducible refine wpQ2_step (fun K hK => ?_)); go_simp; first | ((with_reducible refine hK _ ?_); clear hK K) | (apply Exists.intro; refine ⟨fun x => ?_, hK _ ?_⟩; (fail); clear hK K) | (refine ite_undef (fun h => (by have h_ : (none : Option Bool) = some _ := h; cases h_)) ?_; (with_reducible refine hK _ ?_); clear hK K))
              (with_reducible refine wpQ2_nil ?_)
              refine Events.none_ fun w8 hg8 => ?_
              simp only [picks, List.drop_succ_cons, List.drop_zero]
              have HE8 := Lib.hid (ext_trans HE7.out hg8)
              clear c0 c1 c2 c3 c4 c5 c6 c7 d0 d1 d2 d3 d4 d5 d6 d7 hg8 hE
              go_upto_region 10 with (fail)
              have h0m : (0 : Int) ≤ (m : Int) := by omega
              have hmq' : m ≤ q := by omega
              have hmc : m ≤ oc := by omega
              have rq1 := run_notes_to (some ⟨ob, oo, none⟩) q oc m hmc
              have rq2 := run_notes_from (some ⟨ob, oo, none⟩) q oc m hmq'
              have HW8 := Lib.hid (ext_trans HW3.out HE8.out)
              have HQM : Hid (m ≤ q) := Lib.hid hmq'
              have HQB : Hid (q ≤ 100000) := Lib.hid (by omega)
              have HTK : Hid (RowS w3 ⟨takeA (some ⟨ob, oo, none⟩) oc 8, oc⟩ 8 m (ntC O)) := Lib.hid (row_take HO3.out (by rw [← HQ.out]; exact hmq'))
              have HDR : Hid (RowS w3 ⟨dropA (some ⟨ob, oo, none⟩) oc m 8, oc - m⟩ 8 (q - m) (fun i j => ntC O (m + i) j)) := Lib.hid (by rw [HQ.out]; exact row_drop HO3.out (by rw [← HQ.out]; exact hmq'))
              have G0 := Lib.hid g0; have G1 := Lib.hid g1; have E0 := Lib.hid e0; have E1 := Lib.hid e1; have W1 := Lib.hid w1'; have RQ1 := Lib.hid rq1; have RQ2 := Lib.hid rq2; have HKL := Lib.hid hlt
              clear g0 g1 e0 e1 w1' f1 f3 b0 hmq' hmc h0m hm rq1 rq2 hlt hkle hol hom hk
              (try clear f0); (try clear f2); (try clear w2')
              refine meetV3 (C := fun (_be bq : Nat) (v1 : Value) (u : World) => Ext2 w8 u ∧ OwnR u w8.heap.size 59 8 v1 m (ntC (O.take m)) ∧ u.heap[bq]? = some (Obj.cells #[.string x.by_, .int .i64 x.number, .int .i64 x.rev, .int .i64 x.kind, .int .i64 x.from_, .int .i64 x.until_, .int .i64 x.mlo, .int .i64 x.mhi] 59)) (P := Tryz.prog) (l := ?lla) (t := .one 10 (.one 14 (.one 15 .leaf))) (Q := ?qqa) (S := Ext2 w8) (A := ?axa) (fun key => ?tra) ?kea
              case tra =>
                refine region_treeV (Ext2 w8) (.flt [1, 2, 3, 5, 6, 7, 8, 11, 12, 13] (.two 0 (.two 4 (.one 9 (.one 10 (.one 14 (.one 15 .leaf)))) 9 (.one 4 (.one 10 (.one 14 (.one 15 .leaf))))) 9 (.one 0 (.one 4 (.one 10 (.one 14 (.one 15 .leaf))))))) (fun W h => h) (by kernel_rfl) (by kernel_rfl) (by intro c a d v w h; cases d <;> exact h) ?_
                intro u0 hu0
                have HU := Lib.hid hu0
                clear hu0
                have g0 := G0.out; have g1 := G1.out; have e0 := E0.out; have e1 := E1.out; have rq1 := RQ1.out; have rq2 := RQ2.out
                have c0 := ext_cell' HW8.out C0.out; have c1 := ext_cell' HW8.out C1.out; have c2 := ext_cell' HW8.out C2.out; have c3 := ext_cell' HW8.out C3.out; have c4 := ext_cell' HW8.out C4.out; have c5 := ext_cell' HW8.out C5.out; have c6 := ext_cell' HW8.out C6.out; have c7 := ext_cell' HW8.out C7.out
                refine wpV_flt ?_
                simp only [picks, List.drop_succ_cons, List.drop_zero]
                repeat ((with_reducible refine wpQS_step (fun K hK => ?_)); go_simp; ((with_reducible refine hK _ ?_); clear hK K))
                (with_reducible refine wpQS_nil ?_)
                clear c0 c1 c2 c3 c4 c5 c6 c7 g0 g1 e0 e1 rq1 rq2
                refine wpV_two ?_ ?_
                · skip
                  simp only [picks, List.drop_succ_cons, List.drop_zero]
                  go_wp2_with (fail)
                  refine andV_name (fun u2 hu2 => ?_)
                  obtain ⟨be, hbe⟩ : ∃ b, b = u0.heap.size := ⟨_, rfl⟩
                  have NE : Hid (u2.heap[be]? = some (Obj.cells #[] 59 (0, 0))) := Lib.hid (by rw [hu2, hbe]; exact blk_new _ _)
                  have hE2 : Ext2 u0 u2 := by rw [hu2]; exact below_alloc' _ _
                  have LB : Hid (w8.heap.size ≤ be) := Lib.hid (by rw [hbe]; exact HU.out.size)
                  skip
                  have HX := Lib.hid (ext_trans HU.out hE2)
                  rw [← hbe]
                  clear hu2 hbe hE2
                  refine ⟨HX.out, ?_⟩
                  refine wpV_two ?_ ?_
                  · skip
                    simp only [picks, List.drop_succ_cons, List.drop_zero]
                    go_wp2_with (at_builtin; go_loud (refine app_sl_at elNote (c2 := ntC (O.take m)) rfl _ _ rfl w8.heap.size rfl (own_empty (c := ntC []) NE.out LB.out) ⟨takeA (some ⟨ob, oo, none⟩) oc 8, oc⟩ m rfl (HTK.out.below (ext_trans HE8.out HX.out)) (ntC_one _) (by have := HQM.out; have := HQB.out; omega) HX.out.size (fun i j hi _ => absurd hi (Nat.not_lt_zero i)) (fun i j hi _ => by rw [Nat.zero_add]; exact ntC_take2 hi) ?_; intro v1 u4 hO1 hg4 _; rw [Nat.zero_add] at hO1; (have HO1 := Lib.hid hO1); (have HZ := Lib.hid (ext_grown HX.out hg4 (fun k hk => by cases hk; exact LB.out))); skip; clear hO1 hg4))
                    refine ⟨HZ.out, ?_⟩
                    refine wpV_one ?_
                    simp only [picks, List.drop_succ_cons, List.drop_zero]
                    go_wp2_with (fail)
                    refine andV_name (fun u3 hu3 => ?_)
                    obtain ⟨bq, hbq⟩ : ∃ b, b = u4.heap.size := ⟨_, rfl⟩
                    have NQ : Hid (u3.heap[bq]? = some (Obj.cells #[.string x.by_, .int .i64 x.number, .int .i64 x.rev, .int .i64 x.kind, .int .i64 x.from_, .int .i64 x.until_, .int .i64 x.mlo, .int .i64 x.mhi] 59)) := Lib.hid (by rw [hu3, hbq]; exact blk_new _ _)
                    have hE3 : Ext2 u4 u3 := by rw [hu3]; exact below_alloc' _ _
                    have HO2 := Lib.hid (HO1.out.below hE3)
                    have HY := Lib.hid (ext_trans HZ.out hE3)
                    rw [← hbq]
                    clear hu3 hbq hE3
                    refine ⟨HY.out, ?_⟩
                    exact key be bq v1 _ ⟨HY.out, HO2.out, NQ.out⟩
                  · skip
                    simp only [picks, List.drop_succ_cons, List.drop_zero]
                    go_wp2_with (fail)
                    refine andV_name (fun u3 hu3 => ?_)
                    obtain ⟨bq, hbq⟩ : ∃ b, b = u2.heap.size := ⟨_, rfl⟩
                    have NQ : Hid (u3.heap[bq]? = some (Obj.cells #[.string x.by_, .int .i64 x.number, .int .i64 x.rev, .int .i64 x.kind, .int .i64 x.from_, .int .i64 x.until_, .int .i64 x.mlo, .int .i64 x.mhi] 59)) := Lib.hid (by rw [hu3, hbq]; exact blk_new _ _)
                    have hE3 : Ext2 u2 u3 := by rw [hu3]; exact below_alloc' _ _
                    have NE2 := Lib.hid (Ext2.blk hE3 NE.out); have HNE : Hid (bq ≠ be) := Lib.hid (by have := blk_lt NE.out; omega)
                    have HY := Lib.hid (ext_trans HX.out hE3)
                    rw [← hbq]
                    clear hu3 hbq hE3
                    refine ⟨HY.out, ?_⟩
                    refine wpV_one ?_
                    simp only [picks, List.drop_succ_cons, List.drop_zero]
                    go_wp2_with (at_builtin; go_loud (refine app_sl_at elNote (c2 := ntC (O.take m)) rfl _ _ rfl w8.heap.size rfl (own_empty (c := ntC []) NE2.out LB.out) ⟨takeA (some ⟨ob, oo, none⟩) oc 8, oc⟩ m rfl (HTK.out.below (ext_trans HE8.out HY.out)) (ntC_one _) (by have := HQM.out; have := HQB.out; omega) HY.out.size (fun i j hi _ => absurd hi (Nat.not_lt_zero i)) (fun i j hi _ => by rw [Nat.zero_add]; exact ntC_take2 hi) ?_; intro v1 u4 hO1 hg4 _; rw [Nat.zero_add] at hO1; (have HO1 := Lib.hid hO1); (have HZ := Lib.hid (ext_grown HY.out hg4 (fun k hk => by cases hk; exact LB.out))); have NQ2 := Lib.hid (blk_grown hg4 NQ.out (fun h => HNE.out (by cases h; rfl))); clear hO1 hg4))
                    refine ⟨HZ.out, ?_⟩
                    exact key be bq v1 _ ⟨HZ.out, HO1.out, NQ2.out⟩
                · skip
                  simp only [picks, List.drop_succ_cons, List.drop_zero]
                  go_wp2_with (fail)
                  refine andV_name (fun u3 hu3 => ?_)
                  obtain ⟨bq, hbq⟩ : ∃ b, b = u0.heap.size := ⟨_, rfl⟩
                  have NQ : Hid (u3.heap[bq]? = some (Obj.cells #[.string x.by_, .int .i64 x.number, .int .i64 x.rev, .int .i64 x.kind, .int .i64 x.from_, .int .i64 x.until_, .int .i64 x.mlo, .int .i64 x.mhi] 59)) := Lib.hid (by rw [hu3, hbq]; exact blk_new _ _)
                  have hE3 : Ext2 u0 u3 := by rw [hu3]; exact below_alloc' _ _
                  skip
                  have HY := Lib.hid (ext_trans HU.out hE3)
                  rw [← hbq]
                  clear hu3 hbq hE3
                  refine ⟨HY.out, ?_⟩
                  refine wpV_one ?_
                  simp only [picks, List.drop_succ_cons, List.drop_zero]
                  go_wp2_with (fail)
                  refine andV_name (fun u2 hu2 => ?_)
                  obtain ⟨be, hbe⟩ : ∃ b, b = u3.heap.size := ⟨_, rfl⟩
                  have NE : Hid (u2.heap[be]? = some (Obj.cells #[] 59 (0, 0))) := Lib.hid (by rw [hu2, hbe]; exact blk_new _ _)
                  have hE2 : Ext2 u3 u2 := by rw [hu2]; exact below_alloc' _ _
                  have LB : Hid (w8.heap.size ≤ be) := Lib.hid (by rw [hbe]; exact HY.out.size)
                  have NQ2 := Lib.hid (Ext2.blk hE2 NQ.out); have HNE : Hid (bq ≠ be) := Lib.hid (by have := blk_lt NQ.out; omega)
                  have HX := Lib.hid (ext_trans HY.out hE2)
                  rw [← hbe]
                  clear hu2 hbe hE2
                  refine ⟨HX.out, ?_⟩
                  refine wpV_one ?_
                  simp only [picks, List.drop_succ_cons, List.drop_zero]
                  go_wp2_with (at_builtin; go_loud (refine app_sl_at elNote (c2 := ntC (O.take m)) rfl _ _ rfl w8.heap.size rfl (own_empty (c := ntC []) NE.out LB.out) ⟨takeA (some ⟨ob, oo, none⟩) oc 8, oc⟩ m rfl (HTK.out.below (ext_trans HE8.out HX.out)) (ntC_one _) (by have := HQM.out; have := HQB.out; omega) HX.out.size (fun i j hi _ => absurd hi (Nat.not_lt_zero i)) (fun i j hi _ => by rw [Nat.zero_add]; exact ntC_take2 hi) ?_; intro v1 u4 hO1 hg4 _; rw [Nat.zero_add] at hO1; (have HO1 := Lib.hid hO1); (have HZ := Lib.hid (ext_grown HX.out hg4 (fun k hk => by cases hk; exact LB.out))); have NQ3 := Lib.hid (blk_grown hg4 NQ2.out (fun h => HNE.out (by cases h; rfl))); clear hO1 hg4))
                  refine ⟨HZ.out, ?_⟩
                  exact key be bq v1 _ ⟨HZ.out, HO1.out, NQ3.out⟩
              case kea =>
                rintro be bq v1 u ⟨hU, hO1, hNQ⟩
                have HU := Lib.hid hU; have HO1 := Lib.hid hO1; have NQ := Lib.hid hNQ
                clear hU hO1 hNQ
                refine wpV_one ?_
                simp only [picks, List.drop_succ_cons, List.drop_zero]
                go_wp2_with (at_builtin; go_loud (refine app_one_at [.string x.by_, .int .i64 x.number, .int .i64 x.rev, .int .i64 x.kind, .int .i64 x.from_, .int .i64 x.until_, .int .i64 x.mlo, .int .i64 x.mhi] elNote rfl _ _ rfl w8.heap.size rfl HO1.out bq 1 rfl NQ.out (by simp [Value.oneCell']) (by have := HQM.out; have := HQB.out; omega) HU.out.size ?_; intro v2 u5 hO2 hg5 _; (have HO2 : Hid (OwnR u5 w8.heap.size 59 8 v2 (m + 1) (ntC (O.take m ++ [x]))) := Lib.hid (by have hl : (O.take m).length = m := (by rw [List.length_take]; have := HQM.out; have := HQ.out; omega); have h7 := own_nt (w := u5) (base := w8.heap.size) (e := 59) (v := v2) (L := O.take m) (x := x) (by rw [hl]; exact hO2); rwa [List.length_append, List.length_singleton, hl] at h7)); (have HU5 := Lib.hid (ext_grown HU.out hg5 (own_ge HO1.out))); clear hO2 hg5))
                refine ⟨HU5.out, wpV_one ?_⟩
                simp only [picks, List.drop_succ_cons, List.drop_zero]
                go_wp2_with (at_builtin; go_loud (refine app_sl_at elNote (c2 := ntC (O.take m ++ x :: O.drop m)) rfl _ _ rfl w8.heap.size rfl HO2.out ⟨dropA (some ⟨ob, oo, none⟩) oc m 8, oc - m⟩ (q - m) rfl (HDR.out.below (ext_trans HE8.out HU5.out)) (fun i j => ntC_one _ _ _) (by have := HQM.out; have := HQB.out; omega) HU5.out.size (fun i j hi _ => ins_left (by have := HQM.out; have := HQ.out; omega) hi) (fun i j hi _ => ins_right (by have := HQM.out; have := HQ.out; omega)) ?_; intro v3 u6 hO3 hg6 _; (have HU6 := Lib.hid (ext_grown HU5.out hg6 (own_ge HO2.out))); rw [show m + 1 + (q - m) = q + 1 by have := HQM.out; omega] at hO3; (obtain ⟨s3, hv3, hR3⟩ := OwnR.sl hO3); (obtain ⟨s3a, s3c⟩ := s3); subst hv3; (have HR3 := Lib.hid hR3); clear hO3 hg6 hR3))
                refine ⟨HU6.out, wpV_one ?_⟩
                simp only [picks, List.drop_succ_cons, List.drop_zero]
                go_wp2_with (fail)
                refine ⟨HU6.out, wpV_leaf ?_⟩
                have w1' := W1.out
                have hlt := HKL.out
                go_wp2_with (fail)
                go_roundw
                case rel => exact ⟨k + 1, ⟨s3a, s3c⟩, by go_num, by omega, by rw [HF2.out, List.length_append, List.length_cons, List.length_take, List.length_drop]; have := HQM.out; have := HQ.out; rw [show min m O.length + (O.length - m + 1) = q + 1 by omega], ext_trans HE3.out (ext_trans HE8.out HU6.out), by rw [HF2.out]; have h3 := HR3.out; rwa [show q + 1 = (O.take m ++ x :: O.drop m).length by rw [List.length_append, List.length_cons, List.length_take, List.length_drop]; have := HQM.out; have := HQ.out; omega] at h3⟩
                case measure => simp [intOf]; omega
        · have hqm : q = m := by omega
          have HIN : Hid (insN x O = O.take m ++ x :: O.drop m) := Lib.hid (by
            rw [insN_at HLOW.out (by rw [← HQ.out]; omega) (.inl (by rw [← HQ.out, hqm])), if_neg (fun hh => by have := hh.1; rw [← HQ.out] at this; omega)])
          have HF2 : Hid (standK l (l.take (k + 1)) [] = O.take m ++ x :: O.drop m) := Lib.hid (by rw [HF.out, HIN.out])
          have f1 : ¬ (m : Int) < (q : Int) := by omega
          have f3 : decide ((m : Int) < (q : Int)) = false := decide_eq_false f1
          have b0 : ((m : Int) == (q : Int)) = true := by simp; omega
          clear hqm hmq
          go_upto_region 7 with (fail)
          refine region_ev [] [0, 1, 2, 3, 4, 5, 6, 7, 8, 9, 10, 11, 12, 13, 14] [] [] (by kernel_rfl) (by kernel_rfl) (by intro c a d v w h; cases d <;> exact h) ?_
          simp only [picks, List.drop_succ_cons, List.drop_zero]
          repeat (refine wpQ0_step (fun K hK => ?_); go_simp; (refine hK _ ?_; clear hK K))
          refine wpQ0_nil ?_
          repeat ((with_reducible refine wpQ2_step (fun K hK => ?_)); go_simp; first | ((with_reducible refine hK _ ?_); clear hK K) | (apply Exists.intro; refine ⟨fun x => ?_, hK _ ?_⟩; (fail); clear hK K) | (refine ite_undef (fun h => (by have h_ : (none : Option Bool) = some _ := h; cases h_)) ?_; (with_reducible refine hK _ ?_); clear hK K))
          (with_reducible refine wpQ2_nil ?_)
          refine Events.none_ fun w7 hg7 => ?_
          simp only [picks, List.drop_succ_cons, List.drop_zero]
          have HE7 := Lib.hid (ext_trans HEm.out hg7)
          have HW7 := Lib.hid (ext_trans HWm.out hg7)
          replace c0 := ext_cell' HW7.out C0.out; replace c1 := ext_cell' HW7.out C1.out; replace c2 := ext_cell' HW7.out C2.out; replace c3 := ext_cell' HW7.out C3.out
          replace c4 := ext_cell' HW7.out C4.out; replace c5 := ext_cell' HW7.out C5.out; replace c6 := ext_cell' HW7.out C6.out; replace c7 := ext_cell' HW7.out C7.out
          clear hg7
          go_upto_region 9 with (fail)
          refine region_ev [] [0, 1, 2, 3, 4, 5, 6, 7, 8, 9, 10, 11, 12, 13, 14] [] [] (by kernel_rfl) (by kernel_rfl) (by intro c a d v w h; cases d <;> exact h) ?_
          simp only [picks, List.drop_succ_cons, List.drop_zero]
          repeat (refine wpQ0_step (fun K hK => ?_); go_simp; (refine hK _ ?_; clear hK K))
          refine wpQ0_nil ?_
          repeat ((with_reducible refine wpQ2_step (fun K hK => ?_)); go_simp; first | ((with_reducible refine hK _ ?_); clear hK K) | (apply Exists.intro; refine ⟨fun x => ?_, hK _ ?_⟩; (fail); clear hK K) | (refine ite_undef (fun h => (by have h_ : (none : Option Bool) = some _ := h; cases h_)) ?_; (with_reducible refine hK _ ?_); clear hK K))
          (with_reducible refine wpQ2_nil ?_)
          refine Events.none_ fun w8 hg8 => ?_
          simp only [picks, List.drop_succ_cons, List.drop_zero]
          have HE8 := Lib.hid (ext_trans HE7.out hg8)
          clear c0 c1 c2 c3 c4 c5 c6 c7 hg8
          go_upto_region 10 with (fail)
          have h0m : (0 : Int) ≤ (m : Int) := by omega
          have hmq' : m ≤ q := by omega
          have hmc : m ≤ oc := by omega
          have rq1 := run_notes_to oa q oc m hmc
          have rq2 := run_notes_from oa q oc m hmq'
          have HW8 := Lib.hid (ext_trans HW3.out HE8.out)
          have HQM : Hid (m ≤ q) := Lib.hid hmq'
          have HQB : Hid (q ≤ 100000) := Lib.hid (by omega)
          have HTK : Hid (RowS w3 ⟨takeA oa oc 8, oc⟩ 8 m (ntC O)) := Lib.hid (row_take HO3.out (by rw [← HQ.out]; exact hmq'))
          have HDR : Hid (RowS w3 ⟨dropA oa oc m 8, oc - m⟩ 8 (q - m) (fun i j => ntC O (m + i) j)) := Lib.hid (by rw [HQ.out]; exact row_drop HO3.out (by rw [← HQ.out]; exact hmq'))
          have G0 := Lib.hid g0; have G1 := Lib.hid g1; have E0 := Lib.hid e0; have E1 := Lib.hid e1; have W1 := Lib.hid w1'; have RQ1 := Lib.hid rq1; have RQ2 := Lib.hid rq2; have HKL := Lib.hid hlt
          clear g0 g1 e0 e1 w1' f1 f3 b0 hmq' hmc h0m hm rq1 rq2 hlt hkle hol hom hk
          (try clear f0); (try clear f2); (try clear w2')
          refine meetV3 (C := fun (_be bq : Nat) (v1 : Value) (u : World) => Ext2 w8 u ∧ OwnR u w8.heap.size 59 8 v1 m (ntC (O.take m)) ∧ u.heap[bq]? = some (Obj.cells #[.string x.by_, .int .i64 x.number, .int .i64 x.rev, .int .i64 x.kind, .int .i64 x.from_, .int .i64 x.until_, .int .i64 x.mlo, .int .i64 x.mhi] 59)) (P := Tryz.prog) (l := ?llb) (t := .one 10 (.one 14 (.one 15 .leaf))) (Q := ?qqb) (S := Ext2 w8) (A := ?axb) (fun key => ?trb) ?keb
          case trb =>
            refine region_treeV (Ext2 w8) (.flt [1, 2, 3, 5, 6, 7, 8, 11, 12, 13] (.two 0 (.two 4 (.one 9 (.one 10 (.one 14 (.one 15 .leaf)))) 9 (.one 4 (.one 10 (.one 14 (.one 15 .leaf))))) 9 (.one 0 (.one 4 (.one 10 (.one 14 (.one 15 .leaf))))))) (fun W h => h) (by kernel_rfl) (by kernel_rfl) (by intro c a d v w h; cases d <;> exact h) ?_
            intro u0 hu0
            have HU := Lib.hid hu0
            clear hu0
            have g0 := G0.out; have g1 := G1.out; have e0 := E0.out; have e1 := E1.out; have rq1 := RQ1.out; have rq2 := RQ2.out
            have c0 := ext_cell' HW8.out C0.out; have c1 := ext_cell' HW8.out C1.out; have c2 := ext_cell' HW8.out C2.out; have c3 := ext_cell' HW8.out C3.out; have c4 := ext_cell' HW8.out C4.out; have c5 := ext_cell' HW8.out C5.out; have c6 := ext_cell' HW8.out C6.out; have c7 := ext_cell' HW8.out C7.out
            refine wpV_flt ?_
            simp only [picks, List.drop_succ_cons, List.drop_zero]
            repeat ((with_reducible refine wpQS_step (fun K hK => ?_)); go_simp; ((with_reducible refine hK _ ?_); clear hK K))
            (with_reducible refine wpQS_nil ?_)
            clear c0 c1 c2 c3 c4 c5 c6 c7 g0 g1 e0 e1 rq1 rq2
            refine wpV_two ?_ ?_
            · skip
              simp only [picks, List.drop_succ_cons, List.drop_zero]
              go_wp2_with (fail)
              refine andV_name (fun u2 hu2 => ?_)
              obtain ⟨be, hbe⟩ : ∃ b, b = u0.heap.size := ⟨_, rfl⟩
              have NE : Hid (u2.heap[be]? = some (Obj.cells #[] 59 (0, 0))) := Lib.hid (by rw [hu2, hbe]; exact blk_new _ _)
              have hE2 : Ext2 u0 u2 := by rw [hu2]; exact below_alloc' _ _
              have LB : Hid (w8.heap.size ≤ be) := Lib.hid (by rw [hbe]; exact HU.out.size)
              skip
              have HX := Lib.hid (ext_trans HU.out hE2)
              rw [← hbe]
              clear hu2 hbe hE2
              refine ⟨HX.out, ?_⟩
              refine wpV_two ?_ ?_
              · skip
                simp only [picks, List.drop_succ_cons, List.drop_zero]
                go_wp2_with (at_builtin; go_loud (refine app_sl_at elNote (c2 := ntC (O.take m)) rfl _ _ rfl w8.heap.size rfl (own_empty (c := ntC []) NE.out LB.out) ⟨takeA oa oc 8, oc⟩ m rfl (HTK.out.below (ext_trans HE8.out HX.out)) (ntC_one _) (by have := HQM.out; have := HQB.out; omega) HX.out.size (fun i j hi _ => absurd hi (Nat.not_lt_zero i)) (fun i j hi _ => by rw [Nat.zero_add]; exact ntC_take2 hi) ?_; intro v1 u4 hO1 hg4 _; rw [Nat.zero_add] at hO1; (have HO1 := Lib.hid hO1); (have HZ := Lib.hid (ext_grown HX.out hg4 (fun k hk => by cases hk; exact LB.out))); skip; clear hO1 hg4))
                refine ⟨HZ.out, ?_⟩
                refine wpV_one ?_
                simp only [picks, List.drop_succ_cons, List.drop_zero]
                go_wp2_with (fail)
                refine andV_name (fun u3 hu3 => ?_)
                obtain ⟨bq, hbq⟩ : ∃ b, b = u4.heap.size := ⟨_, rfl⟩
                have NQ : Hid (u3.heap[bq]? = some (Obj.cells #[.string x.by_, .int .i64 x.number, .int .i64 x.rev, .int .i64 x.kind, .int .i64 x.from_, .int .i64 x.until_, .int .i64 x.mlo, .int .i64 x.mhi] 59)) := Lib.hid (by rw [hu3, hbq]; exact blk_new _ _)
                have hE3 : Ext2 u4 u3 := by rw [hu3]; exact below_alloc' _ _
                have HO2 := Lib.hid (HO1.out.below hE3)
                have HY := Lib.hid (ext_trans HZ.out hE3)
                rw [← hbq]
                clear hu3 hbq hE3
                refine ⟨HY.out, ?_⟩
                exact key be bq v1 _ ⟨HY.out, HO2.out, NQ.out⟩
              · skip
                simp only [picks, List.drop_succ_cons, List.drop_zero]
                go_wp2_with (fail)
                refine andV_name (fun u3 hu3 => ?_)
                obtain ⟨bq, hbq⟩ : ∃ b, b = u2.heap.size := ⟨_, rfl⟩
                have NQ : Hid (u3.heap[bq]? = some (Obj.cells #[.string x.by_, .int .i64 x.number, .int .i64 x.rev, .int .i64 x.kind, .int .i64 x.from_, .int .i64 x.until_, .int .i64 x.mlo, .int .i64 x.mhi] 59)) := Lib.hid (by rw [hu3, hbq]; exact blk_new _ _)
                have hE3 : Ext2 u2 u3 := by rw [hu3]; exact below_alloc' _ _
                have NE2 := Lib.hid (Ext2.blk hE3 NE.out); have HNE : Hid (bq ≠ be) := Lib.hid (by have := blk_lt NE.out; omega)
                have HY := Lib.hid (ext_trans HX.out hE3)
                rw [← hbq]
                clear hu3 hbq hE3
                refine ⟨HY.out, ?_⟩
                refine wpV_one ?_
                simp only [picks, List.drop_succ_cons, List.drop_zero]
                go_wp2_with (at_builtin; go_loud (refine app_sl_at elNote (c2 := ntC (O.take m)) rfl _ _ rfl w8.heap.size rfl (own_empty (c := ntC []) NE2.out LB.out) ⟨takeA oa oc 8, oc⟩ m rfl (HTK.out.below (ext_trans HE8.out HY.out)) (ntC_one _) (by have := HQM.out; have := HQB.out; omega) HY.out.size (fun i j hi _ => absurd hi (Nat.not_lt_zero i)) (fun i j hi _ => by rw [Nat.zero_add]; exact ntC_take2 hi) ?_; intro v1 u4 hO1 hg4 _; rw [Nat.zero_add] at hO1; (have HO1 := Lib.hid hO1); (have HZ := Lib.hid (ext_grown HY.out hg4 (fun k hk => by cases hk; exact LB.out))); have NQ2 := Lib.hid (blk_grown hg4 NQ.out (fun h => HNE.out (by cases h; rfl))); clear hO1 hg4))
                refine ⟨HZ.out, ?_⟩
                exact key be bq v1 _ ⟨HZ.out, HO1.out, NQ2.out⟩
            · skip
              simp only [picks, List.drop_succ_cons, List.drop_zero]
              go_wp2_with (fail)
              refine andV_name (fun u3 hu3 => ?_)
              obtain ⟨bq, hbq⟩ : ∃ b, b = u0.heap.size := ⟨_, rfl⟩
              have NQ : Hid (u3.heap[bq]? = some (Obj.cells #[.string x.by_, .int .i64 x.number, .int .i64 x.rev, .int .i64 x.kind, .int .i64 x.from_, .int .i64 x.until_, .int .i64 x.mlo, .int .i64 x.mhi] 59)) := Lib.hid (by rw [hu3, hbq]; exact blk_new _ _)
              have hE3 : Ext2 u0 u3 := by rw [hu3]; exact below_alloc' _ _
              skip
              have HY := Lib.hid (ext_trans HU.out hE3)
              rw [← hbq]
              clear hu3 hbq hE3
              refine ⟨HY.out, ?_⟩
              refine wpV_one ?_
              simp only [picks, List.drop_succ_cons, List.drop_zero]
              go_wp2_with (fail)
              refine andV_name (fun u2 hu2 => ?_)
              obtain ⟨be, hbe⟩ : ∃ b, b = u3.heap.size := ⟨_, rfl⟩
              have NE : Hid (u2.heap[be]? = some (Obj.cells #[] 59 (0, 0))) := Lib.hid (by rw [hu2, hbe]; exact blk_new _ _)
              have hE2 : Ext2 u3 u2 := by rw [hu2]; exact below_alloc' _ _
              have LB : Hid (w8.heap.size ≤ be) := Lib.hid (by rw [hbe]; exact HY.out.size)
              have NQ2 := Lib.hid (Ext2.blk hE2 NQ.out); have HNE : Hid (bq ≠ be) := Lib.hid (by have := blk_lt NQ.out; omega)
              have HX := Lib.hid (ext_trans HY.out hE2)
              rw [← hbe]
              clear hu2 hbe hE2
              refine ⟨HX.out, ?_⟩
              refine wpV_one ?_
              simp only [picks, List.drop_succ_cons, List.drop_zero]
              go_wp2_with (at_builtin; go_loud (refine app_sl_at elNote (c2 := ntC (O.take m)) rfl _ _ rfl w8.heap.size rfl (own_empty (c := ntC []) NE.out LB.out) ⟨takeA oa oc 8, oc⟩ m rfl (HTK.out.below (ext_trans HE8.out HX.out)) (ntC_one _) (by have := HQM.out; have := HQB.out; omega) HX.out.size (fun i j hi _ => absurd hi (Nat.not_lt_zero i)) (fun i j hi _ => by rw [Nat.zero_add]; exact ntC_take2 hi) ?_; intro v1 u4 hO1 hg4 _; rw [Nat.zero_add] at hO1; (have HO1 := Lib.hid hO1); (have HZ := Lib.hid (ext_grown HX.out hg4 (fun k hk => by cases hk; exact LB.out))); have NQ3 := Lib.hid (blk_grown hg4 NQ2.out (fun h => HNE.out (by cases h; rfl))); clear hO1 hg4))
              refine ⟨HZ.out, ?_⟩
              exact key be bq v1 _ ⟨HZ.out, HO1.out, NQ3.out⟩
          case keb =>
            rintro be bq v1 u ⟨hU, hO1, hNQ⟩
            have HU := Lib.hid hU; have HO1 := Lib.hid hO1; have NQ := Lib.hid hNQ
            clear hU hO1 hNQ
            refine wpV_one ?_
            simp only [picks, List.drop_succ_cons, List.drop_zero]
            go_wp2_with (at_builtin; go_loud (refine app_one_at [.string x.by_, .int .i64 x.number, .int .i64 x.rev, .int .i64 x.kind, .int .i64 x.from_, .int .i64 x.until_, .int .i64 x.mlo, .int .i64 x.mhi] elNote rfl _ _ rfl w8.heap.size rfl HO1.out bq 1 rfl NQ.out (by simp [Value.oneCell']) (by have := HQM.out; have := HQB.out; omega) HU.out.size ?_; intro v2 u5 hO2 hg5 _; (have HO2 : Hid (OwnR u5 w8.heap.size 59 8 v2 (m + 1) (ntC (O.take m ++ [x]))) := Lib.hid (by have hl : (O.take m).length = m := (by rw [List.length_take]; have := HQM.out; have := HQ.out; omega); have h7 := own_nt (w := u5) (base := w8.heap.size) (e := 59) (v := v2) (L := O.take m) (x := x) (by rw [hl]; exact hO2); rwa [List.length_append, List.length_singleton, hl] at h7)); (have HU5 := Lib.hid (ext_grown HU.out hg5 (own_ge HO1.out))); clear hO2 hg5))
            refine ⟨HU5.out, wpV_one ?_⟩
            simp only [picks, List.drop_succ_cons, List.drop_zero]
            go_wp2_with (at_builtin; go_loud (refine app_sl_at elNote (c2 := ntC (O.take m ++ x :: O.drop m)) rfl _ _ rfl w8.heap.size rfl HO2.out ⟨dropA oa oc m 8, oc - m⟩ (q - m) rfl (HDR.out.below (ext_trans HE8.out HU5.out)) (fun i j => ntC_one _ _ _) (by have := HQM.out; have := HQB.out; omega) HU5.out.size (fun i j hi _ => ins_left (by have := HQM.out; have := HQ.out; omega) hi) (fun i j hi _ => ins_right (by have := HQM.out; have := HQ.out; omega)) ?_; intro v3 u6 hO3 hg6 _; (have HU6 := Lib.hid (ext_grown HU5.out hg6 (own_ge HO2.out))); rw [show m + 1 + (q - m) = q + 1 by have := HQM.out; omega] at hO3; (obtain ⟨s3, hv3, hR3⟩ := OwnR.sl hO3); (obtain ⟨s3a, s3c⟩ := s3); subst hv3; (have HR3 := Lib.hid hR3); clear hO3 hg6 hR3))
            refine ⟨HU6.out, wpV_one ?_⟩
            simp only [picks, List.drop_succ_cons, List.drop_zero]
            go_wp2_with (fail)
            refine ⟨HU6.out, wpV_leaf ?_⟩
            have w1' := W1.out
            have hlt := HKL.out
            go_wp2_with (fail)
            go_roundw
            case rel => exact ⟨k + 1, ⟨s3a, s3c⟩, by go_num, by omega, by rw [HF2.out, List.length_append, List.length_cons, List.length_take, List.length_drop]; have := HQM.out; have := HQ.out; rw [show min m O.length + (O.length - m + 1) = q + 1 by omega], ext_trans HE3.out (ext_trans HE8.out HU6.out), by rw [HF2.out]; have h3 := HR3.out; rwa [show q + 1 = (O.take m ++ x :: O.drop m).length by rw [List.length_append, List.length_cons, List.length_take, List.length_drop]; have := HQM.out; have := HQ.out; omega] at h3⟩
            case measure => simp [intOf]; omega
    · obtain rfl : n = k := by omega
      have hnk : ¬ (n : Int) < (n : Int) := by omega
      rw [show l.take n = l by rw [HN.out, List.take_length]] at HO ⊢
      have HO2 : Hid (NotesS wr ⟨oa, oc⟩ (standV l)) := HO
      rw [show standK l l [] = standV l from rfl]
      go_wp2_with (fail)
      go_ret
      exact ⟨⟨⟨oa, oc⟩, rfl, HO2.out⟩, HE.out⟩
end Go.Proofs.YtojomdojblgegaaGreatDoor
