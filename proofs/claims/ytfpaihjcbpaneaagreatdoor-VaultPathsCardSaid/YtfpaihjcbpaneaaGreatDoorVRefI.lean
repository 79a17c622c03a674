/-
  ref.Way.
-/
import Derived.Test.YtfpaihjcbpaneaaGreatDoorVRefN
import Derived.Test.YtfpaihjcbpaneaaGreatDoorVRefQ
import Derived.Test.YtfpaihjcbpaneaaGreatDoorDRegX
import Derived.Deep.Cut
import Derived.Deep.CutRange
import Derived.Deep.DeepCutAuto
namespace Go.Proofs.YtfpaihjcbpaneaaGreatDoor.D
theorem wayH_none {S : Site} {base : Int} {t : Span} {L : List Nat} {i : Nat} (h : wayG S base t L i = none) : ∀ n, i ≤ n → wayG S base t L n = none
  | 0, h1 => by obtain rfl : i = 0 := by omega
                exact h
  | n + 1, h1 => by
    rcases Nat.lt_or_ge n i with h2 | h2
    · obtain rfl : i = n + 1 := by omega
      exact h
    · rw [wayG, wayH_none h n h2]
def wayN (st : List Sty) (h : Int) (rk : Nat) (x : Option (Nat × Span)) : Option (List Sty × Int × Span) :=
  match x with
  | none => none
  | some (n, u) => some (st ++ [⟨(rk : Int), (n : Int)⟩], h + n, u)
theorem wayG_step {S : Site} {base : Int} {t : Span} {L : List Nat} {k : Nat} {st : List Sty} {h : Int} {u : Span} (e : wayG S base t L k = some (st, h, u)) :
    wayG S base t L (k + 1) = if dupB L k then none else if (decide (0 < k) && barred S base (natD L k)) = true then none
      else if k + 1 < L.length then wayN st h (natD L k) (waitV S (natD L k) (natD L (k + 1)) u)
      else some (st ++ [⟨(natD L k : Int), 0⟩], h, u) := by
  rw [wayG, e]
  simp only
  split
  · rfl
  · split
    · rfl
    · split
      · cases waitV S (natD L k) (natD L (k + 1)) u <;> rfl
      · rfl
theorem wayV_none {S : Site} {base : Int} {t : Span} {L : List Nat} {k : Nat} (hk : k ≤ L.length) (h : wayG S base t L k = none) : wayV S base t L = none := by
  unfold wayV
  split
  · rfl
  · rw [wayH_none h L.length hk]; rfl
theorem dup_at {L : List Nat} {j k : Nat} (hj : j < k) (he : natD L j = natD L k) (hb : ∀ i, i < j → natD L i ≠ natD L k) : dupB L k = true := by
  unfold dupB anyF
  rw [firstN_at (k := j) (fun i hi => decide_eq_false (hb i hi)) (decide_eq_true he) hj]
  exact decide_eq_true hj
theorem dup_no {L : List Nat} {k : Nat} (hb : ∀ i, i < k → natD L i ≠ natD L k) : dupB L k = false := by
  unfold dupB anyF
  rw [firstN_none (fun i hi => decide_eq_false (hb i hi))]
  simp
theorem syD_app {l : List Sty} {x : Sty} {i : Nat} (h : i < l.length) : syD (l ++ [x]) i = syD l i := by
  unfold syD; rw [List.getD_eq_getElem?_getD, List.getD_eq_getElem?_getD, List.getElem?_append_left h]
theorem syD_new (l : List Sty) (x : Sty) : syD (l ++ [x]) l.length = x := by unfold syD; simp
end Go.Proofs.YtfpaihjcbpaneaaGreatDoor.D
namespace Go.Proofs.YtfpaihjcbpaneaaGreatDoor
open Go.RowKit D
set_option linter.unusedVariables false
set_option linter.unusedSimpArgs false
attribute [local go_sem high] run_minI run_maxI
attribute [local go_sem] upon2 cls_cell cls_frozen forall_const exists_eq_left'
attribute [local go_sem] FirstUpon
def nC (L : List Nat) (i _ : Nat) : Value := .int .i64 (natD L i : Int)
theorem n_cell {w : World} {q : Sl} {L : List Nat} (h : RowS w q 1 L.length (nC L)) {i : Nat} (hi : i < L.length) : ∃ b off, q.a = some ⟨b, off, none⟩ ∧ w.cell? ⟨b, off + i, none⟩ = some (.int .i64 (natD L i : Int)) := by
  obtain ⟨b, off, ha, h0⟩ := h.cell i 0 hi (by omega)
  refine ⟨b, off, ha, ?_⟩
  have e : off + i * 1 + 0 = off + i := by omega
  rw [e] at h0
  exact h0
theorem syW_snoc {l : List Sty} {x : Sty} {i j : Nat} (hi : i < l.length + 1) (hj : j < 2) : upd (syC l) l.length [.int .i64 x.room, .int .i64 x.hours] i j = syC (l ++ [x]) i j := by
  rcases Nat.lt_or_ge i l.length with h | h
  · rw [upd_lt h]; unfold syC; rw [syD_app h]
  · obtain rfl : i = l.length := by omega
    rw [upd_at]
    rcases (by omega : j = 0 ∨ j = 1) with rfl | rfl <;> simp [syC, syD_new]
def WayOut (w : World) (S : Site) (base : Int) (t : Span) (L : List Nat) (e : Ending) (w' : World) : Prop :=
  ∃ (v : Value) (h : Int) (b : Bool), e = .returned (.tuple #[v, .int .i64 h, .bool b]) ∧ ((wayV S base t L = none ∧ b = false) ∨ ∃ st, wayV S base t L = some (st, h) ∧ b = true ∧ 0 ≤ h ∧ h ≤ 2500 ∧ st.length ≤ 5 ∧ OwnR w' w.heap.size 93 2 v st.length (syC st)) ∧ Below w.heap.size w w'
set_option maxRecDepth 100000 in
set_option maxHeartbeats 8000000 in
theorem wayR_any {S : Site} {s : SSl} {base : Int} {t : Span} {L : List Nat} {sl : Sl} {w : World} (hS : SiteAt w S s) (hL : RowS w sl 1 L.length (nC L)) (hC : Chk S) (ht : TIn t) (hr : ∀ i, i < L.length → natD L i < S.rooms.length) :
    Calls Tryz.prog 55 #[.agg #[.slice s.r.a S.rooms.length s.r.cap, .slice s.c.a S.cans.length s.c.cap, .int .i64 S.rlo, .int .i64 S.rhi, .slice s.p.a S.steps.length s.p.cap], .int .i64 base, .agg #[.int .i64 t.lo, .int .i64 t.hi], .slice sl.a L.length sl.cap] w (WayOut w S base t L) := by
  have HS := Lib.hid hS; have HL := Lib.hid hL; have HCK := Lib.hid hC; have HTI := Lib.hid ht; have HR := Lib.hid hr
  have hll := hL.le; have hlm := hL.max
  have hrl := hS.rm.le; have hrm := hS.rm.max
  obtain ⟨la, lc⟩ := sl
  obtain ⟨⟨ra, rc⟩, cs, ps⟩ := s
  dsimp only at hll hlm hrl hrm
  obtain ⟨rb, roff, hra, -⟩ := rm_cells hS.rm (show 0 < S.rooms.length from hC.len.1.1)
  dsimp only at hra
  subst hra
  have HNO : Hid (∀ W, Below w.heap.size w W → wayV S base t L = none → WayOut w S base t L (.returned (.tuple #[.slice none 0 0, .int .i64 0, .bool false])) W) := Lib.hid fun W hW hn => ⟨_, _, _, rfl, .inl ⟨hn, rfl⟩, hW⟩
  have HWT : Hid (∀ W, Below w.heap.size w W → ∀ (a b : Nat) (u : Span), a < S.rooms.length → b < S.rooms.length → TIn u → Calls Tryz.prog 66 #[.agg #[.slice (SSl.mk ⟨some ⟨rb, roff, none⟩, rc⟩ cs ps).r.a S.rooms.length (SSl.mk ⟨some ⟨rb, roff, none⟩, rc⟩ cs ps).r.cap, .slice (SSl.mk ⟨some ⟨rb, roff, none⟩, rc⟩ cs ps).c.a S.cans.length (SSl.mk ⟨some ⟨rb, roff, none⟩, rc⟩ cs ps).c.cap, .int .i64 S.rlo, .int .i64 S.rhi, .slice (SSl.mk ⟨some ⟨rb, roff, none⟩, rc⟩ cs ps).p.a S.steps.length (SSl.mk ⟨some ⟨rb, roff, none⟩, rc⟩ cs ps).p.cap], .agg #[.int .i64 u.lo, .int .i64 u.hi], .int .i64 (a : Int), .int .i64 (b : Int)] W fun e w' => e = .returned (waitRR (waitV S a b u) (warmN S (rmD S.rooms a) 501 u)) ∧ Below W.heap.size W w') := Lib.hid fun W hW a b u ha hb hu => waitRf_any (s := (SSl.mk ⟨some ⟨rb, roff, none⟩, rc⟩ cs ps)) (HS.out.below hW) HCK.out ha hb hu
  clear hS hL hC ht hr
  go_enter Tryz.func55, Tryz.ntmps55
  go_upto_region 1 with (fail)
  refine wp_name ?_
  intro w1 hw1
  obtain ⟨n4, hn4⟩ : ∃ n, n = w.heap.size := ⟨_, rfl⟩
  obtain ⟨n6, hn6⟩ : ∃ n, n = n4 + 1 := ⟨_, rfl⟩
  have hE1 : Ext2 w w1 := by rw [hw1]; exact ext_trans (below_alloc' _ _) (below_alloc' _ _)
  have X4 : Hid (w1.heap[n4]? = some (Obj.cells #[.slice (SSl.mk ⟨some ⟨rb, roff, none⟩, rc⟩ cs ps).r.a S.rooms.length (SSl.mk ⟨some ⟨rb, roff, none⟩, rc⟩ cs ps).r.cap, .slice (SSl.mk ⟨some ⟨rb, roff, none⟩, rc⟩ cs ps).c.a S.cans.length (SSl.mk ⟨some ⟨rb, roff, none⟩, rc⟩ cs ps).c.cap, .int .i64 S.rlo, .int .i64 S.rhi, .slice (SSl.mk ⟨some ⟨rb, roff, none⟩, rc⟩ cs ps).p.a S.steps.length (SSl.mk ⟨some ⟨rb, roff, none⟩, rc⟩ cs ps).p.cap] 28)) := Lib.hid (by rw [hw1, hn4]; exact blk_alloc (blk_new _ _) _)
  have X6 : Hid (w1.heap[n6]? = some (Obj.cells #[.int .i64 t.lo, .int .i64 t.hi] 25)) := Lib.hid (by rw [hw1, hn6, hn4]; exact blk_new' _ _ (by simp))
  rw [← hn4, ← hn6]
  have HE1 := Lib.hid hE1
  have l4 : w.heap.size ≤ n4 := by omega
  have l46 : n4 < n6 := by omega
  clear hw1 hn4 hn6 hE1
  by_cases hlen : L.length < 1 ∨ 5 < L.length
  · have HN : Hid (wayV S base t L = none) := Lib.hid (by unfold wayV; rw [if_pos hlen])
    by_cases h1 : L.length < 1
    · have b1 : (L.length : Int) < 1 := by omega
      clear hlen h1
      go_wp2_with (fail)
      refine bodyPost_ret (v := .tuple #[.slice none 0 0, .int .i64 0, .bool false]) ?_ rfl ?_
      · simp [results, Tryz.results55, go_sem]
      exact HNO.out _ HE1.out HN.out
    · have b1 : ¬ (L.length : Int) < 1 := by omega
      have b2 : (5 : Int) < (L.length : Int) := by omega
      clear hlen h1
      go_wp2_with (fail)
      refine bodyPost_ret (v := .tuple #[.slice none 0 0, .int .i64 0, .bool false]) ?_ rfl ?_
      · simp [results, Tryz.results55, go_sem]
      exact HNO.out _ HE1.out HN.out
  have b1 : ¬ (L.length : Int) < 1 := by omega
  have b2 : ¬ (5 : Int) < (L.length : Int) := by omega
  have hl1 : 1 ≤ L.length := by omega
  have hl5 : L.length ≤ 5 := by omega
  have HLE := Lib.hid hlen
  obtain ⟨lb, loff, hla, -⟩ := n_cell HL.out (show 0 < L.length from hl1)
  dsimp only at hla
  subst hla
  clear hlen
  go_wp2_with (fail)
  clear b1 b2
  go_loopw [11, 12, 13] (fun v f12 z wr => ∃ (k : Nat) (st : List Sty) (h : Int) (u : Span), z = .int .i64 (k : Int) ∧ k ≤ L.length ∧ f12 = .int .i64 h ∧ wayG S base t L k = some (st, h, u) ∧ st.length = k ∧ (0 ≤ h ∧ h ≤ 500 * (k : Int)) ∧ TIn u ∧ Below w.heap.size w wr ∧ wr.heap[n4]? = some (Obj.cells #[.slice (SSl.mk ⟨some ⟨rb, roff, none⟩, rc⟩ cs ps).r.a S.rooms.length (SSl.mk ⟨some ⟨rb, roff, none⟩, rc⟩ cs ps).r.cap, .slice (SSl.mk ⟨some ⟨rb, roff, none⟩, rc⟩ cs ps).c.a S.cans.length (SSl.mk ⟨some ⟨rb, roff, none⟩, rc⟩ cs ps).c.cap, .int .i64 S.rlo, .int .i64 S.rhi, .slice (SSl.mk ⟨some ⟨rb, roff, none⟩, rc⟩ cs ps).p.a S.steps.length (SSl.mk ⟨some ⟨rb, roff, none⟩, rc⟩ cs ps).p.cap] 28) ∧ wr.heap[n6]? = some (Obj.cells #[.int .i64 u.lo, .int .i64 u.hi] 25) ∧ OwnR wr w.heap.size 93 2 v k (syC st)) (fun _ _ z _ => L.length - (intOf z).toNat)
  case atStart => exact ⟨0, [], 0, t, rfl, by omega, rfl, rfl, rfl, by omega, HTI.out, HE1.out, X4.out, X6.out, own_nil _ _ _ _ _⟩
  case round =>
    obtain ⟨wo, rfl⟩ : ∃ x, x = wr := ⟨_, rfl⟩
    obtain ⟨k, st, h, u, rfl, hk, rfl, hG, hsl, hh, hu, hB, x4, x6, hO⟩ := hrel
    have HG := Lib.hid hG; have HO := Lib.hid hO; have HB := Lib.hid hB; have X4' := Lib.hid x4; have X6' := Lib.hid x6; have HUI := Lib.hid hu; have HSL := Lib.hid hsl
    clear hG hO hu hsl
    by_cases hlt : k < L.length
    case neg =>
      obtain rfl : k = L.length := by omega
      have r1 : ¬ (L.length : Int) < (L.length : Int) := by omega
      clear hB x4 x6
      go_wp2_with (fail)
      refine bodyPost_ret (v := .tuple #[u11, .int .i64 h, .bool true]) ?_ rfl ?_
      · simp [results, Tryz.results55, go_sem]
      refine ⟨_, _, _, rfl, .inr ⟨st, by unfold wayV; rw [if_neg HLE.out, HG.out]; rfl, rfl, by omega, by omega, by rw [HSL.out]; omega, by rw [HSL.out]; exact HO.out⟩, HB.out⟩
    have HSTEP := Lib.hid (wayG_step HG.out)
    obtain ⟨rk, hrk⟩ : ∃ r, r = natD L k := ⟨_, rfl⟩
    have hrkl : rk < S.rooms.length := by rw [hrk]; exact HR.out k hlt
    obtain ⟨b', o', hc, c0⟩ := n_cell (HL.out.below hB) hlt
    cases hc
    rw [← hrk] at c0
    have C0 := Lib.hid c0; have HRK := Lib.hid hrk
    have i1 : (k : Int) < (L.length : Int) := by omega
    have i0 : (0 : Int) ≤ (k : Int) := by omega
    have i1' : decide ((k : Int) < (L.length : Int)) = true := decide_eq_true i1
    have i0' : decide ((0 : Int) ≤ (k : Int)) = true := decide_eq_true i0
    have wk1 : IntKind.i64.wrap ((k : Int) + 1) = (k : Int) + 1 := IntWalk.i64_in _ (by omega)
    clear hrk c0 x4 x6 hB
    go_wp2_with (fail)
    go_loopw [14] (fun z wi => ∃ j : Nat, z = .int .i64 (j : Int) ∧ j ≤ k ∧ Ext2 wo wi ∧ ∀ i, i < j → natD L i ≠ natD L k) (fun z _ => k - (intOf z).toNat)
    case atStart => exact ⟨0, rfl, by omega, Below.refl _ _, fun i hi => absurd hi (Nat.not_lt_zero i)⟩
    case round =>
      obtain ⟨j, rfl, hj, hE, hall⟩ := hrel
      have HE := Lib.hid hE; have HAL := Lib.hid hall
      clear hall
      by_cases hjk : j < k
      · have c0 := (Below.cell (p := ⟨lb, loff + k, none⟩) hE (cell_lt C0.out)).trans C0.out
        obtain ⟨b', o', hc, c1⟩ := n_cell (HL.out.below (below_ext HB.out hE)) (show j < L.length by omega)
        cases hc
        obtain ⟨rj, hrj⟩ : ∃ r, r = natD L j := ⟨_, rfl⟩
        rw [← hrj] at c1
        have j1 : (j : Int) < (L.length : Int) := by omega
        have j2 : (j : Int) < (k : Int) := by omega
        have j0 : (0 : Int) ≤ (j : Int) := by omega
        have j1' : decide ((j : Int) < (L.length : Int)) = true := decide_eq_true j1
        have j0' : decide ((0 : Int) ≤ (j : Int)) = true := decide_eq_true j0
        have wj1 : IntKind.i64.wrap ((j : Int) + 1) = (j : Int) + 1 := IntWalk.i64_in _ (by omega)
        have HRJ := Lib.hid hrj; have HJK := Lib.hid hjk
        clear hrj hE
        by_cases hsame : rj = rk
        · have b5 : ((rj : Int) == (rk : Int)) = true := by rw [hsame]; simp
          have HSM := Lib.hid hsame
          clear hsame
          go_wp2_with (fail)
          refine region_ev [] [0, 1, 2, 3, 4, 5, 6, 7, 8] [] [] (by kernel_rfl) (by kernel_rfl) (by intro c a d v w h; cases d <;> exact h) ?_
          simp only [picks, List.drop_succ_cons, List.drop_zero]
          repeat (refine wpQ0_step (fun K hK => ?_); go_simp; (refine hK _ ?_; clear hK K))
          refine wpQ0_nil ?_
          repeat ((with_reducible refine wpQ2_step (fun K hK => ?_)); go_simp; first | ((with_reducible refine hK _ ?_); clear hK K) | (apply Exists.intro; refine ⟨fun x => ?_, hK _ ?_⟩; (fail); clear hK K))
          refine wpQ2_nil ?_
          refine Events.none_ fun w5 hg5 => ?_
          simp only [picks, List.drop_succ_cons, List.drop_zero]
          have HB5 := Lib.hid (below_ext (below_ext HB.out HE.out) hg5)
          clear hg5 c0 c1
          go_wp2_with (fail)
          refine bodyPost_ret (v := .tuple #[.slice none 0 0, .int .i64 0, .bool false]) ?_ rfl ?_
          · simp [results, Tryz.results55, go_sem]
          refine HNO.out _ HB5.out (wayV_none (k := k + 1) hlt ?_)
          rw [HSTEP.out, if_pos (dup_at HJK.out (by rw [← HRJ.out, ← HRK.out]; exact HSM.out) HAL.out)]
        · have b5 : ((rj : Int) == (rk : Int)) = false := beq_eq_false_iff_ne.2 (by omega)
          have HSM := Lib.hid hsame
          clear hsame
          go_wp2_with (fail)
          refine region_ev [] [0, 1, 2, 3, 4, 5, 6, 7, 8] [] [] (by kernel_rfl) (by kernel_rfl) (by intro c a d v w h; cases d <;> exact h) ?_
          simp only [picks, List.drop_succ_cons, List.drop_zero]
          repeat (refine wpQ0_step (fun K hK => ?_); go_simp; (refine hK _ ?_; clear hK K))
          refine wpQ0_nil ?_
          repeat ((with_reducible refine wpQ2_step (fun K hK => ?_)); go_simp; first | ((with_reducible refine hK _ ?_); clear hK K) | (apply Exists.intro; refine ⟨fun x => ?_, hK _ ?_⟩; (fail); clear hK K))
          refine wpQ2_nil ?_
          refine Events.none_ fun w5 hg5 => ?_
          simp only [picks, List.drop_succ_cons, List.drop_zero]
          have HE5 := Lib.hid (ext_trans HE.out hg5)
          clear hg5 c0 c1
          go_wp2_with (fail)
          go_roundw
          case rel => exact ⟨j + 1, by go_num, by omega, HE5.out, fun i hi => by
            by_cases hij : i = j
            · rw [hij, ← HRJ.out, ← HRK.out]; exact HSM.out
            · exact HAL.out i (by omega)⟩
          case measure => simp [intOf]; omega
      · obtain rfl : j = k := by omega
        have r2 : ¬ (j : Int) < (j : Int) := by omega
        have HDUP := Lib.hid (dup_no HAL.out)
        have hBi := below_ext HB.out hE
        have X4i := Lib.hid (Ext2.blk hE X4'.out); have X6i := Lib.hid (Ext2.blk hE X6'.out); have HOi := Lib.hid (HO.out.below hE)
        have HBi := Lib.hid hBi
        have c0 := (Below.cell (p := ⟨lb, loff + j, none⟩) hE (cell_lt C0.out)).trans C0.out
        have C0i := Lib.hid c0
        obtain ⟨ba, hba⟩ : ∃ b : Bool, b = (decide (0 < j) && barred S base rk) := ⟨_, rfl⟩
        have HBA := Lib.hid hba
        clear hba hE
        go_upto_region 13 with fail
        go_cut [64] from 47 to 64 (fun v wx => v = .bool ba ∧ Ext2 wr wx)
        case first =>
          have x4 := X4i.out
          have q4c := cell_blk x4
          have q4f := frz_blk x4
          clear x4
          by_cases h0 : j = 0
          · have b5 : ¬ (0 : Int) < (j : Int) := by omega
            have b5' : decide ((0 : Int) < (j : Int)) = false := decide_eq_false b5
            have b6 : ¬ 0 < j := by omega
            have b6' : decide (0 < j) = false := decide_eq_false b6
            have hend : Hid (Value.bool false = Value.bool ba) := Lib.hid (by rw [HBA.out, b6']; rfl)
            clear h0
            refine region_ev [] [0, 1, 2, 3, 4, 5, 6, 7, 8, 9, 10, 11, 12, 13, 14, 15, 16, 17] [] [] (by kernel_rfl) (by kernel_rfl) (by intro c a d v w h; cases d <;> exact h) ?_
            simp only [picks, List.drop_succ_cons, List.drop_zero]
            repeat (refine wpQ0_step (fun K hK => ?_); go_simp; (refine hK _ ?_; clear hK K))
            refine wpQ0_nil ?_
            repeat ((with_reducible refine wpQ2_step (fun K hK => ?_)); go_simp; first | ((with_reducible refine hK _ ?_); clear hK K) | (apply Exists.intro; refine ⟨fun x => ?_, hK _ ?_⟩; (fail); clear hK K) | (refine ite_undef (fun h => (by have h_ : (none : Option Bool) = some _ := h; cases h_)) ?_; (with_reducible refine hK _ ?_); clear hK K))
            (with_reducible refine wpQ2_nil ?_)
            refine Events.none_ fun w5 hg5 => ?_
            simp only [picks, List.drop_succ_cons, List.drop_zero]
            go_wp2_with (fail)
            go_meet
            case rel => exact ⟨hend.out, hg5⟩
          · have b5 : (0 : Int) < (j : Int) := by omega
            have b5' : decide ((0 : Int) < (j : Int)) = true := decide_eq_true b5
            have b6 : 0 < j := by omega
            have b6' : decide (0 < j) = true := decide_eq_true b6
            by_cases hb1 : base = 1
            · have b8 : (base == 1) = true := beq_iff_eq.2 hb1
              obtain ⟨br, or, hra, -, -, -, -, -, -, e6, -, -, -⟩ := rm_cells (HS.out.below HBi.out).rm hrkl
              dsimp only at hra
              cases hra
              obtain ⟨al, hal⟩ : ∃ b, b = (rmD S.rooms rk).allows := ⟨_, rfl⟩
              rw [← hal] at e6
              have p0 : (0 : Int) ≤ (rk : Int) := by omega
              have p1 : (rk : Int) < (S.rooms.length : Int) := by omega
              have p0' : decide ((0 : Int) ≤ (rk : Int)) = true := decide_eq_true p0
              have p1' : decide ((rk : Int) < (S.rooms.length : Int)) = true := decide_eq_true p1
              have hend : Hid (Value.bool (!al) = Value.bool ba) := Lib.hid (by rw [HBA.out, b6']; unfold barred; rw [decide_eq_true hb1, hal]; simp)
              clear h0 hb1 hal
              refine region_ev [] [0, 1, 2, 3, 4, 5, 6, 7, 8, 9, 10, 11, 12, 13, 14, 15, 16, 17] [] [] (by kernel_rfl) (by kernel_rfl) (by intro c a d v w h; cases d <;> exact h) ?_
              simp only [picks, List.drop_succ_cons, List.drop_zero]
              repeat (refine wpQ0_step (fun K hK => ?_); go_simp; (refine hK _ ?_; clear hK K))
              refine wpQ0_nil ?_
              repeat ((with_reducible refine wpQ2_step (fun K hK => ?_)); go_simp; first | ((with_reducible refine hK _ ?_); clear hK K) | (apply Exists.intro; refine ⟨fun x => ?_, hK _ ?_⟩; (fail); clear hK K) | (refine ite_undef (fun h => (by have h_ : (none : Option Bool) = some _ := h; cases h_)) ?_; (with_reducible refine hK _ ?_); clear hK K))
              (with_reducible refine wpQ2_nil ?_)
              refine Events.none_ fun w5 hg5 => ?_
              simp only [picks, List.drop_succ_cons, List.drop_zero]
              go_wp2_with (fail)
              go_meet
              case rel => exact ⟨hend.out, hg5⟩
            · have b8 : (base == 1) = false := beq_eq_false_iff_ne.2 hb1
              have hend : Hid (Value.bool false = Value.bool ba) := Lib.hid (by rw [HBA.out, b6']; unfold barred; rw [decide_eq_false hb1]; simp)
              clear h0 hb1
              refine region_ev [] [0, 1, 2, 3, 4, 5, 6, 7, 8, 9, 10, 11, 12, 13, 14, 15, 16, 17] [] [] (by kernel_rfl) (by kernel_rfl) (by intro c a d v w h; cases d <;> exact h) ?_
              simp only [picks, List.drop_succ_cons, List.drop_zero]
              repeat (refine wpQ0_step (fun K hK => ?_); go_simp; (refine hK _ ?_; clear hK K))
              refine wpQ0_nil ?_
              repeat ((with_reducible refine wpQ2_step (fun K hK => ?_)); go_simp; first | ((with_reducible refine hK _ ?_); clear hK K) | (apply Exists.intro; refine ⟨fun x => ?_, hK _ ?_⟩; (fail); clear hK K) | (refine ite_undef (fun h => (by have h_ : (none : Option Bool) = some _ := h; cases h_)) ?_; (with_reducible refine hK _ ?_); clear hK K))
              (with_reducible refine wpQ2_nil ?_)
              refine Events.none_ fun w5 hg5 => ?_
              simp only [picks, List.drop_succ_cons, List.drop_zero]
              go_wp2_with (fail)
              go_meet
              case rel => exact ⟨hend.out, hg5⟩
        case rest =>
        obtain ⟨rfl, hE7⟩ := hcut
        obtain ⟨w7, rfl⟩ : ∃ x, x = wc := ⟨_, rfl⟩
        have HB7 := Lib.hid (below_ext HBi.out hE7)
        have X47 := Lib.hid (Ext2.blk hE7 X4i.out); have X67 := Lib.hid (Ext2.blk hE7 X6i.out); have HO7 := Lib.hid (HOi.out.below hE7)
        have c0 := (Below.cell (p := ⟨lb, loff + j, none⟩) hE7 (cell_lt C0i.out)).trans C0i.out
        have C07 := Lib.hid c0
        clear hE7 c0
        cases ba
        case true =>
          go_wp2_with (fail)
          refine bodyPost_ret (v := .tuple #[.slice none 0 0, .int .i64 0, .bool false]) ?_ rfl ?_
          · simp [results, Tryz.results55, go_sem]
          refine HNO.out _ HB7.out (wayV_none (k := j + 1) hlt ?_)
          rw [HSTEP.out, if_neg (by rw [HDUP.out]; simp), if_pos (by rw [← HRK.out]; exact HBA.out.symm)]
        have HST2 : Hid (wayG S base t L (j + 1) = if j + 1 < L.length then wayN st h rk (waitV S rk (natD L (j + 1)) u)
          else some (st ++ [⟨(rk : Int), 0⟩], h, u)) := Lib.hid (by
            rw [HSTEP.out, if_neg (by rw [HDUP.out]; simp), if_neg (by rw [← HRK.out, ← HBA.out]; simp), ← HRK.out])
        by_cases hnx : j + 1 < L.length
        case neg =>
          have b9 : ¬ (j : Int) + 1 < (L.length : Int) := by omega
          have HNX := Lib.hid hnx
          have wh0 : IntKind.i64.wrap (h + 0) = h := by rw [Int.add_zero]; exact IntWalk.i64_in _ (by omega)
          have wh1 : IntKind.i64.wrap h = h := IntWalk.i64_in _ (by omega)
          have c0 := C07.out
          have hsz := HB7.out.size
          have k0 := cell_lt c0
          dsimp only at k0
          clear hnx
          go_wp2_with (at_builtin; refine app_one [.int .i64 (rk : Int), .int .i64 0] elSty rfl _ _ rfl w.heap.size rfl (HO7.out.below (below_alloc' _ _)) w7.heap.size 1 rfl (blk_new _ _) (by simp [Value.oneCell']) (by omega) (by simp; omega) ?_; intro v' w8 hO8 hg8)
          have HB8 := Lib.hid (below_app HB7.out HO7.out hsz hg8)
          have X48 := Lib.hid (app_blk HO7.out hg8 X47.out (by decide)); have X68 := Lib.hid (app_blk HO7.out hg8 X67.out (by decide))
          have hO9 : OwnR w8 w.heap.size 93 2 v' (j + 1) (syC (st ++ [⟨(rk : Int), 0⟩])) := by
            have hs := HSL.out
            refine hO8.congr fun i' j' hi' hj' => ?_
            have e := syW_snoc (l := st) (x := ⟨(rk : Int), 0⟩) (i := i') (j := j') (by omega) hj'
            rw [hs] at e
            exact e
          have HO9 := Lib.hid hO9
          clear hO8 hO9 hg8 c0 k0 hsz
          go_wp2_with (fail)
          go_roundw
          case rel => exact ⟨j + 1, st ++ [⟨(rk : Int), 0⟩], h, u, by go_num, by omega, by first | rfl | simp, by rw [HST2.out, if_neg HNX.out], by rw [List.length_append, HSL.out]; rfl, by omega, HUI.out, HB8.out, X48.out, X68.out, HO9.out⟩
          case measure => simp [intOf]; omega
        case pos =>
          have b9 : (j : Int) + 1 < (L.length : Int) := by omega
          have HNX := Lib.hid hnx
          obtain ⟨rn, hrn⟩ : ∃ r, r = natD L (j + 1) := ⟨_, rfl⟩
          have hrnl : rn < S.rooms.length := by rw [hrn]; exact HR.out (j + 1) hnx
          obtain ⟨b', o', hc, c1⟩ := n_cell (HL.out.below HB7.out) hnx
          cases hc
          rw [← hrn] at c1
          obtain ⟨WT, hWT⟩ : ∃ x, x = waitV S rk rn u := ⟨_, rfl⟩
          have hwi : ∀ n v, WT = some (n, v) → TIn v ∧ n < 501 := fun n v hx => by
            rw [hWT] at hx
            have := waitF_in (S := S) (r := rmD S.rooms rk) (nx := rmD S.rooms rn) HCK.out.rates (HCK.out.room hrkl).1 501 0 HUI.out hx
            exact ⟨this.1, by omega⟩
          have hwt := HWT.out w7 HB7.out rk rn u hrkl hrnl HUI.out
          obtain ⟨a0, v0, b0, hw0, hw1⟩ : ∃ (a : Int) (v : Span) (b : Bool), waitRR WT (warmN S (rmD S.rooms rk) 501 u) = .tuple #[.int .i64 a, .agg #[.int .i64 v.lo, .int .i64 v.hi], .bool b] ∧ ((WT = none ∧ b = false) ∨ ∃ n : Nat, WT = some (n, v) ∧ a = (n : Int) ∧ b = true) := by
            rcases WT with _ | ⟨n, v⟩
            · exact ⟨_, _, _, rfl, .inl ⟨rfl, rfl⟩⟩
            · exact ⟨_, _, _, rfl, .inr ⟨n, rfl, rfl, rfl⟩⟩
          have HWX : Hid (∀ W, Ext2 w7 W → Calls Tryz.prog 66 #[.agg #[.slice (SSl.mk ⟨some ⟨rb, roff, none⟩, rc⟩ cs ps).r.a S.rooms.length (SSl.mk ⟨some ⟨rb, roff, none⟩, rc⟩ cs ps).r.cap, .slice (SSl.mk ⟨some ⟨rb, roff, none⟩, rc⟩ cs ps).c.a S.cans.length (SSl.mk ⟨some ⟨rb, roff, none⟩, rc⟩ cs ps).c.cap, .int .i64 S.rlo, .int .i64 S.rhi, .slice (SSl.mk ⟨some ⟨rb, roff, none⟩, rc⟩ cs ps).p.a S.steps.length (SSl.mk ⟨some ⟨rb, roff, none⟩, rc⟩ cs ps).p.cap], .agg #[.int .i64 u.lo, .int .i64 u.hi], .int .i64 (rk : Int), .int .i64 (rn : Int)] W fun e w' => e = .returned (.tuple #[.int .i64 a0, .agg #[.int .i64 v0.lo, .int .i64 v0.hi], .bool b0]) ∧ Below W.heap.size W w') := Lib.hid fun W hW => by
            have h1 := HWT.out W (below_ext HB7.out hW) rk rn u hrkl hrnl HUI.out
            rw [← hWT, hw0] at h1; exact h1
          have HST3 : Hid (wayG S base t L (j + 1) = wayN st h rk WT) := Lib.hid (by
              rw [HST2.out, if_pos hnx, ← hrn, ← hWT])
          have HW1 := Lib.hid hw1; have HWI := Lib.hid hwi
          have c0 := C07.out
          have wj1 : IntKind.i64.wrap ((j : Int) + 1) = (j : Int) + 1 := IntWalk.i64_in _ (by omega)
          have q0 : (0 : Int) ≤ (j : Int) + 1 := by omega
          have q0' : decide ((0 : Int) ≤ (j : Int) + 1) = true := decide_eq_true q0
          have q1' : decide ((j : Int) + 1 < (L.length : Int)) = true := decide_eq_true b9
          have q2 : ((j : Int) + 1).toNat = j + 1 := by omega
          have x4 := X47.out; have x6 := X67.out
          have q4c := cell_blk x4
          have q4f := frz_blk x4
          have q6c := cell_blk x6
          have q6f := frz_blk x6
          clear hnx hrn hWT hwi hwt hw0 hw1 x4 x6
          go_upto_region 17 with fail
          go_cut [16, 17, 18] from 70 to 85 (fun x y z wx => ∃ n17 : Nat, x = .int .i64 a0 ∧ y = .pointer (some ⟨n17, 0, none⟩) ∧ z = .bool b0 ∧ Ext2 w7 wx ∧ wx.heap[n17]? = some (Obj.cells #[.int .i64 v0.lo, .int .i64 v0.hi] 25) ∧ w7.heap.size ≤ n17)
          case first =>
            refine region_treeU (Ext2 w7) (.flt [0, 1, 2, 3, 4, 5, 6, 7, 8, 9, 10] (.two 11 (.flt [12, 13, 14, 15] (.one 16 (.one 17 (.one 18 (.one 19 .leaf))))) 16 (.one 11 (.flt [12, 13, 14, 15] (.one 17 (.one 18 (.one 19 .leaf))))))) (fun W h => h) (by kernel_rfl) (by kernel_rfl) (by intro c a d v w h; cases d <;> exact h) ?_
            intro w2 hw2
            refine wpU_flt ?_
            simp only [picks, List.drop_succ_cons, List.drop_zero]
            repeat ((with_reducible refine wpQS_step (fun K hK => ?_)); go_simp; ((with_reducible refine hK _ ?_); clear hK K))
            (with_reducible refine wpQS_nil ?_)
            refine wpU_two ?p1 ?p2
            case' p1 =>
              simp only [picks, List.drop_succ_cons, List.drop_zero]
              go_wp2_with (fail)
              refine (HWX.out _ hw2).mono ?_
              rintro e w3 ⟨rfl, hb3⟩
              go_wp2_with (fail)
              refine ⟨ext_trans hw2 hb3, ?_⟩
              refine wpU_flt ?_
              simp only [picks, List.drop_succ_cons, List.drop_zero]
              repeat ((with_reducible refine wpQS_step (fun K hK => ?_)); go_simp; ((with_reducible refine hK _ ?_); clear hK K))
              (with_reducible refine wpQS_nil ?_)
              refine wpU_one ?_
              simp only [picks, List.drop_succ_cons, List.drop_zero]
              go_wp2_with (fail)
              refine andU_name (fun w6 hw6 => ?_)
              obtain ⟨n12, hn12⟩ : ∃ b, b = w3.heap.size := ⟨_, rfl⟩
              have N12 : Hid (w6.heap[n12]? = some (Obj.cells #[.int .i64 0, .int .i64 0] 25)) := Lib.hid (by rw [hw6, hn12]; exact blk_new _ _)
              have HE6 : Hid (Ext2 w7 w6) := Lib.hid (by rw [hw6]; exact ext_trans (ext_trans hw2 hb3) (below_alloc' _ _))
              have l12 : w7.heap.size ≤ n12 := by rw [hn12]; exact (ext_trans hw2 hb3).size
              rw [← hn12]
              clear hw6 hn12 hb3 hw2
              refine ⟨HE6.out, ?_⟩
            case' p2 =>
              simp only [picks, List.drop_succ_cons, List.drop_zero]
              go_wp2_with (fail)
              refine andU_name (fun w3 hw3 => ?_)
              obtain ⟨n12, hn12⟩ : ∃ b, b = w2.heap.size := ⟨_, rfl⟩
              have N3 : w3.heap[n12]? = some (Obj.cells #[.int .i64 0, .int .i64 0] 25) := by rw [hw3, hn12]; exact blk_new _ _
              have hE3 : Ext2 w7 w3 := by rw [hw3]; exact ext_trans hw2 (below_alloc' _ _)
              have l12 : w7.heap.size ≤ n12 := by rw [hn12]; exact hw2.size
              rw [← hn12]
              clear hw3 hn12 hw2
              refine ⟨hE3, wpU_one ?_⟩
              simp only [picks, List.drop_succ_cons, List.drop_zero]
              go_wp2_with (fail)
              refine (HWX.out _ hE3).mono ?_
              rintro e w6 ⟨rfl, hb6⟩
              have N12 : Hid (w6.heap[n12]? = some (Obj.cells #[.int .i64 0, .int .i64 0] 25)) := Lib.hid (Ext2.blk hb6 N3)
              have HE6 : Hid (Ext2 w7 w6) := Lib.hid (ext_trans hE3 hb6)
              clear N3 hE3 hb6
              go_wp2_with (fail)
              refine ⟨HE6.out, ?_⟩
              refine wpU_flt ?_
              simp only [picks, List.drop_succ_cons, List.drop_zero]
              repeat ((with_reducible refine wpQS_step (fun K hK => ?_)); go_simp; ((with_reducible refine hK _ ?_); clear hK K))
              (with_reducible refine wpQS_nil ?_)
            all_goals
              refine wpU_one ?_
              simp only [picks, List.drop_succ_cons, List.drop_zero]
              go_wp2_with (fail)
              refine ⟨HE6.out, wpU_one ?_⟩
              have x12 := N12.out
              have q12c := cell_blk x12
              have q12f := frz_blk x12
              clear x12
              simp only [picks, List.drop_succ_cons, List.drop_zero]
              go_wp2_with (fail)
              refine andU_name (fun w8 hw8 => ?_)
              have HE8 : Hid (Ext2 w7 w8) := Lib.hid (by rw [hw8]; exact below_set (below_set HE6.out l12) l12)
              have N8 : Hid (w8.heap[n12]? = some (Obj.cells #[.int .i64 v0.lo, .int .i64 v0.hi] 25)) := Lib.hid (by rw [hw8]; exact Eq.trans (blk_set (blk_set N12.out 0 _) 1 _) rfl)
              refine ⟨HE8.out, wpU_one ?_⟩
              clear hw8 q12c q12f N12 HE6
              simp only [picks, List.drop_succ_cons, List.drop_zero]
              go_wp2_with (fail)
              refine ⟨HE8.out, wpU_leaf ?_⟩
              go_wp2_with (fail)
              go_meet
              case rel => exact ⟨n12, rfl, rfl, rfl, HE8.out, N8.out, l12⟩
          case rest =>
          obtain ⟨n17, rfl, rfl, rfl, hE8, x17, l17⟩ := hcut
          obtain ⟨w8, rfl⟩ : ∃ x, x = wc := ⟨_, rfl⟩
          have HB8 := Lib.hid (below_ext HB7.out hE8)
          have X48 := Lib.hid (Ext2.blk hE8 X47.out); have x6 := Ext2.blk hE8 X67.out; have HO8 := Lib.hid (HO7.out.below hE8)
          have X68 := Lib.hid x6
          have C08 := Lib.hid ((Below.cell (p := ⟨lb, loff + j, none⟩) hE8 (cell_lt C07.out)).trans C07.out)
          have n617 : n6 ≠ n17 := by have := blk_lt X67.out; omega
          clear q4c q4f q6c q6f c0 c1 hE8
          rcases HW1.out with ⟨hn0, rfl⟩ | ⟨n, hn0, rfl, rfl⟩
          · have HN0 := Lib.hid hn0
            clear hn0 x17 x6
            go_wp2_with (fail)
            refine bodyPost_ret (v := .tuple #[.slice none 0 0, .int .i64 0, .bool false]) ?_ rfl ?_
            · simp [results, Tryz.results55, go_sem]
            exact HNO.out _ HB8.out (wayV_none (k := j + 1) hlt (by rw [HST3.out, HN0.out]; rfl))
          · obtain ⟨hv0, hn5⟩ := HWI.out n v0 hn0
            have HG2 : Hid (wayG S base t L (j + 1) = some (st ++ [⟨(rk : Int), (n : Int)⟩], h + n, v0)) := Lib.hid (by rw [HST3.out, hn0]; rfl)
            have HV0 := Lib.hid hv0
            have q17c := cell_blk x17
            have q17f := frz_blk x17
            have q6c := cell_blk x6
            have q6f := frz_blk x6
            clear hn0 hv0 x17 x6
            go_wp2_with (fail)
            refine region_ev [] [0, 1, 2] [] [3] (by kernel_rfl) (by kernel_rfl) (by intro c a d v w h; cases d <;> exact h) ?_
            simp only [picks, List.drop_succ_cons, List.drop_zero]
            repeat (refine wpQ0_step (fun K hK => ?_); go_simp; (refine hK _ ?_; clear hK K))
            refine wpQ0_nil ?_
            repeat ((with_reducible refine wpQ2_step (fun K hK => ?_)); go_simp; first | ((with_reducible refine hK _ ?_); clear hK K) | (apply Exists.intro; refine ⟨fun x => ?_, hK _ ?_⟩; (fail); clear hK K))
            refine wpQ2_nil ?_
            refine Events.none_ fun w9 hg9 => ?_
            simp only [picks, List.drop_succ_cons, List.drop_zero]
            have HB9 := Lib.hid (below_ext HB8.out hg9)
            have X49 := Lib.hid (Ext2.blk hg9 X48.out); have x6 := Ext2.blk hg9 X68.out; have HO9 := Lib.hid (HO8.out.below hg9)
            have X69 := Lib.hid x6
            have C09 := Lib.hid ((Below.cell (p := ⟨lb, loff + j, none⟩) hg9 (cell_lt C08.out)).trans C08.out)
            clear q17c q17f q6c q6f hg9
            have q6c := cell_blk x6
            have q6f := frz_blk x6
            clear x6
            go_upto_region 21 with (fail)
            refine wp_name ?_
            intro w10 hw10
            have HB10 := Lib.hid (show Below w.heap.size w w10 by rw [hw10]; exact below_set (below_set HB9.out (by omega)) (by omega))
            have X410 : Hid (w10.heap[n4]? = some (Obj.cells #[.slice (SSl.mk ⟨some ⟨rb, roff, none⟩, rc⟩ cs ps).r.a S.rooms.length (SSl.mk ⟨some ⟨rb, roff, none⟩, rc⟩ cs ps).r.cap, .slice (SSl.mk ⟨some ⟨rb, roff, none⟩, rc⟩ cs ps).c.a S.cans.length (SSl.mk ⟨some ⟨rb, roff, none⟩, rc⟩ cs ps).c.cap, .int .i64 S.rlo, .int .i64 S.rhi, .slice (SSl.mk ⟨some ⟨rb, roff, none⟩, rc⟩ cs ps).p.a S.steps.length (SSl.mk ⟨some ⟨rb, roff, none⟩, rc⟩ cs ps).p.cap] 28)) := Lib.hid (by rw [hw10]; exact blk_set_ne (blk_set_ne X49.out (by omega)) (by omega))
            have X610 : Hid (w10.heap[n6]? = some (Obj.cells #[.int .i64 v0.lo, .int .i64 v0.hi] 25)) := Lib.hid (by rw [hw10]; exact Eq.trans (blk_set (blk_set X69.out _ _) _ _) rfl)
            have hO10 : OwnR w10 w.heap.size 93 2 u11 j (syC st) := by
              rw [hw10]
              have hne : ∀ g cap, u11 = .slice (some ⟨g, 0, none⟩) j cap → g ≠ n6 := by
                intro g cap he hg
                subst hg
                obtain ⟨cur, hcur⟩ := ownR_cells HO9.out (k := g) (by rw [he]; rfl)
                rw [X69.out] at hcur; simp only [Option.some.injEq, Obj.cells.injEq] at hcur
                exact absurd hcur.2.1 (by decide)
              obtain ⟨h1, h2 | ⟨g, cap, cur, e1, e2, e3, e4⟩⟩ := HO9.out
              · exact ⟨h1, .inl h2⟩
              · have hg := hne g cap e1
                exact ⟨h1, .inr ⟨g, cap, cur, e1, e2, blk_set_ne (blk_set_ne e3 (fun hh => hg hh.symm)) (fun hh => hg hh.symm), e4⟩⟩
            have HO10 := Lib.hid hO10
            have C010 : Hid (w10.cell? ⟨lb, loff + j, none⟩ = some (.int .i64 (rk : Int))) := Lib.hid (by
              obtain ⟨b', o', hc, c2⟩ := n_cell (HL.out.below HB10.out) hlt
              cases hc
              rw [← HRK.out] at c2; exact c2)
            have c0 := C010.out
            have hsz := HB10.out.size
            have k0 := cell_lt c0
            dsimp only at k0
            have wh1 : IntKind.i64.wrap (h + (n : Int)) = h + (n : Int) := IntWalk.i64_in _ (by omega)
            clear hw10 hO10 q6c q6f
            go_wp2_with (at_builtin; refine app_one [.int .i64 (rk : Int), .int .i64 (n : Int)] elSty rfl _ _ rfl w.heap.size rfl (HO10.out.below (below_alloc' _ _)) w10.heap.size 1 rfl (blk_new _ _) (by simp [Value.oneCell']) (by omega) (by simp; omega) ?_; intro v' w11 hO11 hg11)
            have HB11 := Lib.hid (below_app HB10.out HO10.out hsz hg11)
            have X411 := Lib.hid (app_blk HO10.out hg11 X410.out (by decide)); have X611 := Lib.hid (app_blk HO10.out hg11 X610.out (by decide))
            have hO12 : OwnR w11 w.heap.size 93 2 v' (j + 1) (syC (st ++ [⟨(rk : Int), (n : Int)⟩])) := by
              have hs := HSL.out
              refine hO11.congr fun i' j' hi' hj' => ?_
              have e := syW_snoc (l := st) (x := ⟨(rk : Int), (n : Int)⟩) (i := i') (j := j') (by omega) hj'
              rw [hs] at e
              exact e
            have HO12 := Lib.hid hO12
            clear hO11 hO12 hg11 c0 k0 hsz
            go_wp2_with (fail)
            go_roundw
            case rel => exact ⟨j + 1, st ++ [⟨(rk : Int), (n : Int)⟩], h + (n : Int), v0, by go_num, by omega, rfl, HG2.out, by rw [List.length_append, HSL.out]; rfl, by omega, HV0.out, HB11.out, X411.out, X611.out, HO12.out⟩
            case measure => simp [intOf]; omega
end Go.Proofs.YtfpaihjcbpaneaaGreatDoor
