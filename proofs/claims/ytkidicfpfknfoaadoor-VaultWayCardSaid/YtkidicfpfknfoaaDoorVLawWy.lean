/-
  The law VaultWay, walked.
-/
import Derived.Test.YtkidicfpfknfoaaDoorVAwake
import Derived.Test.YtkidicfpfknfoaaDoorVPlBst
import Derived.Test.YtkidicfpfknfoaaDoorVArgM
import Derived.Test.YtkidicfpfknfoaaDoorVThr
import Derived.Test.YtkidicfpfknfoaaDoorVRefC
namespace Go.Proofs.YtkidicfpfknfoaaDoor
open Go.RowKit D
set_option linter.unusedVariables false
set_option linter.unusedSimpArgs false
attribute [local go_sem high] run_minI run_maxI
attribute [local go_sem] upon2 cls_cell cls_frozen forall_const exists_eq_left'
attribute [local go_sem] FirstUpon
def alone : ByteArray := { data := #[97, 108, 111, 110, 101] }
def wayS (S : Site) (fr : Nat) : Site := ⟨S.rooms, [⟨alone, 2, 1, (fr : Int)⟩], S.rlo, S.rhi, S.steps⟩
theorem own_rowS {w : World} {base : Nat} {e : TypeId} {sz : Nat} {v : Value} {n : Nat} {c : Nat → Nat → Value} (h : OwnR w base e sz v n c) : ∃ q : Sl, v = .slice q.a n q.cap ∧ RowS w q sz n c := by
  rcases h.forms with ⟨rfl, rfl⟩ | ⟨g, cap, rfl, -, hn, hc, hr, -, -⟩
  · exact ⟨⟨none, 0⟩, rfl, Nat.le_refl _, by decide, fun i j hi _ => absurd hi (Nat.not_lt_zero i)⟩
  · exact ⟨⟨some ⟨g, 0, none⟩, cap⟩, rfl, hn, hc, fun i j hi hj => ⟨g, 0, rfl, hr.2 i j hi hj⟩⟩
theorem mvC_one {l : List Mv} {x : Mv} {i j : Nat} (hi : i < l.length + 1) (hj : j < 3) : upd (mvC l) l.length [.int .i64 x.hour, .int .i64 x.can, .int .i64 x.to_] i j = mvC (l ++ [x]) i j := by
  by_cases h : i = l.length
  · subst h
    rw [upd_at]
    rcases (by omega : j = 0 ∨ j = 1 ∨ j = 2) with rfl | rfl | rfl <;> simp [mvC, mvD_new]
  · rw [upd_lt (by omega)]
    rcases (by omega : j = 0 ∨ j = 1 ∨ j = 2) with rfl | rfl | rfl <;> simp only [mvC, mvD_app (show i < l.length by omega)]
theorem site_way {w : World} {S : Site} {s : SSl} {fr bc : Nat} (h : SiteAt w S s) (xc : w.heap[bc]? = some (.cells #[.string alone, .int .i64 2, .int .i64 1, .int .i64 (fr : Int)] 36 (0, 0))) : SiteAt w (wayS S fr) ⟨s.r, ⟨some ⟨bc, 0, none⟩, 1⟩, s.p⟩ where
  rm := h.rm
  st := h.st
  rsize := h.rsize
  cn := ⟨Nat.le_refl _, by show 1 ≤ 9223372036854775807; omega, fun i j hi hj => ⟨bc, 0, rfl, by
    have hi : i < 1 := hi
    obtain rfl : i = 0 := by omega
    simp only [Nat.zero_mul, Nat.zero_add]
    rw [cell_blk xc]
    match j, hj with
    | 0, _ => rfl
    | 1, _ => rfl
    | 2, _ => rfl
    | 3, _ => rfl⟩⟩
  csize := fun i hi => by
    have hi : i < 1 := hi
    obtain rfl : i = 0 := by omega
    show 5 ≤ maxLen
    unfold maxLen; omega
set_option maxRecDepth 100000 in
set_option maxHeartbeats 8000000 in
theorem lawWay_any {S : Site} {s : SSl} {x0 x1 : Int} {w : World} (hS : SiteAt w S s) (hx : (0 ≤ x0 ∧ x0 ≤ 255) ∧ 0 ≤ x1 ∧ x1 ≤ 255) (hm : MaxAt w) :
    Calls Tryd.prog 4 #[.agg #[.slice s.r.a S.rooms.length s.r.cap, .slice s.c.a S.cans.length s.c.cap, .int .i64 S.rlo, .int .i64 S.rhi, .slice s.p.a S.steps.length s.p.cap], .agg #[.int .u8 x0, .int .u8 x1]] w fun e w' => e = .returned (.bool true) ∧ Below w.heap.size w w' := by
  have HS := Lib.hid hS; have HM := Lib.hid hm
  have hrl := hS.rm.le; have hrm := hS.rm.max
  obtain ⟨⟨hx0, hx0'⟩, hx1, hx1'⟩ := hx
  clear hS hm
  by_cases h0 : S.rooms.length = 0
  · have b0 : ((S.rooms.length : Int) == 0) = true := beq_iff_eq.2 (by omega)
    clear h0
    go_enter Tryd.func4, Tryd.ntmps4
    go_wp2_with (fail)
    have hE : Ext2 w ((w.alloc (Obj.cells #[.slice s.r.a S.rooms.length s.r.cap, .slice s.c.a S.cans.length s.c.cap, .int .i64 S.rlo, .int .i64 S.rhi, .slice s.p.a S.steps.length s.p.cap] 28)).alloc (.cells #[.int .u8 x0, .int .u8 x1] 34 (0, 0))) := ext_trans (below_alloc' _ _) (below_alloc' _ _)
    refine (awake_any (HM.out.below hE)).mono ?_
    rintro e w2 ⟨rfl, hb2⟩
    have HB := Lib.hid (ext_trans hE hb2)
    clear hE hb2
    go_wp2_with (fail)
    go_ret
    exact ⟨rfl, HB.out⟩
  have b0 : ((S.rooms.length : Int) == 0) = false := beq_eq_false_iff_ne.2 (by omega)
  have wx0 : IntKind.i64.wrap x0 = x0 := IntWalk.i64_in _ (by omega)
  have wx1 : IntKind.i64.wrap x1 = x1 := IntWalk.i64_in _ (by omega)
  obtain ⟨fr, hfr⟩ : ∃ c : Nat, c = x0.toNat % S.rooms.length := ⟨_, rfl⟩
  obtain ⟨to, hto⟩ : ∃ c : Nat, c = x1.toNat % S.rooms.length := ⟨_, rfl⟩
  have hfl : fr < S.rooms.length := by rw [hfr]; exact Nat.mod_lt _ (by omega)
  have htl : to < S.rooms.length := by rw [hto]; exact Nat.mod_lt _ (by omega)
  have hm0 : x0.tmod (S.rooms.length : Int) = (fr : Int) := by
    rw [Int.tmod_eq_emod_of_nonneg hx0, hfr, Int.natCast_emod]; congr 1; omega
  have hm1 : x1.tmod (S.rooms.length : Int) = (to : Int) := by
    rw [Int.tmod_eq_emod_of_nonneg hx1, hto, Int.natCast_emod]; congr 1; omega
  have hz : (S.rooms.length : Int) ≠ 0 := by omega
  have hz' : ¬ S.rooms = [] := fun h => h0 (by rw [h]; rfl)
  have wf : IntKind.i64.wrap (fr : Int) = (fr : Int) := IntWalk.i64_in _ (by omega)
  have wt : IntKind.i64.wrap (to : Int) = (to : Int) := IntWalk.i64_in _ (by omega)
  clear hfr hto h0 hx0 hx0' hx1 hx1'
  go_enter Tryd.func4, Tryd.ntmps4
  go_wp2_with (fail)
  refine wp_name ?_
  intro w1 hw1
  obtain ⟨n2, hn2⟩ : ∃ n, n = w.heap.size := ⟨_, rfl⟩
  obtain ⟨n3, hn3⟩ : ∃ n, n = n2 + 1 := ⟨_, rfl⟩
  obtain ⟨n5, hn5⟩ : ∃ n, n = n3 + 1 := ⟨_, rfl⟩
  have hE1 : Ext2 w w1 := by rw [hw1]; exact ext_trans (ext_trans (below_alloc' _ _) (below_alloc' _ _)) (below_alloc' _ _)
  have X2 : Hid (w1.heap[n2]? = some (Obj.cells #[.slice s.r.a S.rooms.length s.r.cap, .slice s.c.a S.cans.length s.c.cap, .int .i64 S.rlo, .int .i64 S.rhi, .slice s.p.a S.steps.length s.p.cap] 28)) := Lib.hid (by rw [hw1, hn2]; exact blk_alloc (blk_alloc (blk_new _ _) _) _)
  have X3 : Hid (w1.heap[n3]? = some (.cells #[.int .u8 x0, .int .u8 x1] 34 (0, 0))) := Lib.hid (by rw [hw1, hn3, hn2]; exact blk_alloc (blk_new' _ _ (by simp)) _)
  have X5 : Hid (w1.heap[n5]? = some (Obj.cells #[.slice s.r.a S.rooms.length s.r.cap, .slice s.c.a S.cans.length s.c.cap, .int .i64 S.rlo, .int .i64 S.rhi, .slice s.p.a S.steps.length s.p.cap] 28)) := Lib.hid (by rw [hw1, hn5, hn3, hn2]; exact blk_new' _ _ (by simp))
  have HE1 := Lib.hid hE1
  rw [← hn2, ← hn3, ← hn5]
  have lw5 : w.heap.size ≤ n5 := by omega
  have x2 := X2.out; have x3 := X3.out
  have q2c := cell_blk x2
  have q2f := frz_blk x2
  have q3c := cell_blk x3
  have q3f := frz_blk x3
  clear hw1 hn2 hn3 hn5 hE1 x2 x3
  refine region_ev [] [0, 1, 2, 3, 4, 5, 6, 7, 8, 9, 10, 11, 12, 13, 14, 15] [] [] (by kernel_rfl) (by kernel_rfl) (by intro c a d v w h; cases d <;> exact h) ?_
  simp only [picks, List.drop_succ_cons, List.drop_zero]
  repeat (refine wpQ0_step (fun K hK => ?_); go_simp; (refine hK _ ?_; clear hK K))
  refine wpQ0_nil ?_
  repeat (refine wpQ2_step (fun K hK => ?_); go_simp; first | (refine hK _ ?_; clear hK K) | (apply Exists.intro; refine ⟨fun x => ?_, hK _ ?_⟩; (fail); clear hK K))
  refine wpQ2_nil ?_
  refine Events.none_ fun w2 hg2 => ?_
  simp only [picks, List.drop_succ_cons, List.drop_zero]
  have X52 := Lib.hid (Ext2.blk hg2 X5.out)
  have HE2 := Lib.hid (ext_trans HE1.out hg2)
  have x5 := X52.out
  have k5 := blk_lt x5
  have m5 : ¬ n5 = w2.heap.size := by omega
  clear q2c q2f q3c q3f hg2 b0 wx0 wx1 hm0 hm1 hz hz' wf wt
  have q5c := cell_blk x5
  have q5f := frz_blk x5
  clear x5
  go_wp2_with (fail)
  refine calls_name ?_
  intro w3 hw3
  obtain ⟨bc, hbc⟩ : ∃ b, b = w2.heap.size := ⟨_, rfl⟩
  have hE3 : Below w.heap.size w w3 := by
    rw [hw3]; refine Below.alloc (below_set HE2.out lw5) ?_ _; simp; exact HE2.out.size
  have x5 : w3.heap[n5]? = some (Obj.cells #[.slice (SSl.mk s.r ⟨some ⟨bc, 0, none⟩, 1⟩ s.p).r.a (wayS S fr).rooms.length (SSl.mk s.r ⟨some ⟨bc, 0, none⟩, 1⟩ s.p).r.cap, .slice (SSl.mk s.r ⟨some ⟨bc, 0, none⟩, 1⟩ s.p).c.a (wayS S fr).cans.length (SSl.mk s.r ⟨some ⟨bc, 0, none⟩, 1⟩ s.p).c.cap, .int .i64 (wayS S fr).rlo, .int .i64 (wayS S fr).rhi, .slice (SSl.mk s.r ⟨some ⟨bc, 0, none⟩, 1⟩ s.p).p.a (wayS S fr).steps.length (SSl.mk s.r ⟨some ⟨bc, 0, none⟩, 1⟩ s.p).p.cap] 28) := by
    rw [hw3, hbc]; exact blk_alloc (Eq.trans (blk_set X52.out 1 _) rfl) _
  have xc : w3.heap[bc]? = some (.cells #[.string alone, .int .i64 2, .int .i64 1, .int .i64 (fr : Int)] 36 (0, 0)) := by rw [hw3, hbc]; exact blk_new' _ _ (by simp)
  have hS3 := site_way (HS.out.below hE3) xc
  have h : Calls Tryd.prog 14 #[.agg #[.slice s.r.a S.rooms.length s.r.cap, .slice (some ⟨bc, 0, none⟩) 1 1, .int .i64 S.rlo, .int .i64 S.rhi, .slice s.p.a S.steps.length s.p.cap]] w3 (ChkOut w3 (wayS S fr)) := checkR_any (S := wayS S fr) (s := ⟨s.r, ⟨some ⟨bc, 0, none⟩, 1⟩, s.p⟩) hS3
  rw [← hbc]
  refine h.mono ?_
  clear h
  rintro e w4 ⟨rfl, hb4⟩
  obtain ⟨T, hT⟩ : ∃ T, T = wayS S fr := ⟨_, rfl⟩
  have hrT : T.rooms = S.rooms := by rw [hT]; rfl
  have hcT : T.cans = [⟨alone, 2, 1, (fr : Int)⟩] := by rw [hT]; rfl
  rw [← hT] at x5 hS3 ⊢
  have HT1 := Lib.hid hrT; have HT2 := Lib.hid hcT
  have HS4 := Lib.hid (hS3.below hb4)
  have HE4 := Lib.hid (hE3.trans (Below.mono hb4 hE3.size))
  have X54 := Lib.hid (Ext2.blk hb4 x5)
  obtain ⟨c1, c2, c3, hc⟩ : ∃ a b c, checkV T = (a, b, c) := ⟨_, _, _, rfl⟩
  rw [hc]
  have HC := Lib.hid hc
  dsimp only
  clear hc hw3 hbc hE3 xc hS3 x5 hb4 hT hrT hcT k5 m5 q5c q5f
  by_cases hc0 : c3 = 0
  case neg =>
    have hd : (c3 != 0) = true := by simp [hc0]
    clear hc0
    go_wp2_with (fail)
    refine (awake_any (HM.out.below HE4.out)).mono ?_
    rintro e w5 ⟨rfl, hb5⟩
    go_wp2_with (fail)
    go_ret
    exact ⟨rfl, HE4.out.trans (Below.mono hb5 HE4.out.size)⟩
  subst hc0
  have hd0 : ((0 : Int) != 0) = false := rfl
  have hck : Chk T := chk_iff.1 (by rw [HC.out])
  have hflT : fr < T.rooms.length := by rw [HT1.out]; exact hfl
  have htlT : to < T.rooms.length := by rw [HT1.out]; exact htl
  obtain ⟨rb, roff, hra, hrc⟩ := rm_cells HS4.out.rm hflT
  dsimp only at hra
  obtain ⟨⟨ra, rc⟩, ⟨ca, cc⟩, ps⟩ := s
  dsimp only at hra hrl hrm
  subst hra
  have d1 := hrc.c1; have d2 := hrc.c2
  obtain ⟨rr, hrr⟩ : ∃ rr, rr = rmD T.rooms fr := ⟨_, rfl⟩
  rw [← hrr] at d1 d2
  have HRR := Lib.hid hrr
  have hspan : spanE ⟨rr.tlo, rr.thi⟩ = 0 := by
    have := hck.room hflT
    rw [← hrr] at this
    exact spanE_iff.2 ⟨⟨this.1.1, this.1.2.1, this.1.2.2.1, this.1.2.2.2.1⟩, this.2.1⟩
  have hpe : pathE T 2 ⟨rr.tlo, rr.thi⟩ (fr : Int) (to : Int) = 0 := by
    rw [pathE_ask (chk_iff.2 hck) (show inB 2 1 3 = true by decide)]
    exact askE_zero hck hspan ⟨by omega, by omega⟩ ⟨by omega, by omega⟩
  have hPt : ∀ W, Ext2 w4 W → Calls Tryd.prog 16 #[.agg #[.slice (SSl.mk ⟨some ⟨rb, roff, none⟩, rc⟩ ⟨some ⟨bc, 0, none⟩, 1⟩ ps).r.a T.rooms.length (SSl.mk ⟨some ⟨rb, roff, none⟩, rc⟩ ⟨some ⟨bc, 0, none⟩, 1⟩ ps).r.cap, .slice (SSl.mk ⟨some ⟨rb, roff, none⟩, rc⟩ ⟨some ⟨bc, 0, none⟩, 1⟩ ps).c.a T.cans.length (SSl.mk ⟨some ⟨rb, roff, none⟩, rc⟩ ⟨some ⟨bc, 0, none⟩, 1⟩ ps).c.cap, .int .i64 T.rlo, .int .i64 T.rhi, .slice (SSl.mk ⟨some ⟨rb, roff, none⟩, rc⟩ ⟨some ⟨bc, 0, none⟩, 1⟩ ps).p.a T.steps.length (SSl.mk ⟨some ⟨rb, roff, none⟩, rc⟩ ⟨some ⟨bc, 0, none⟩, 1⟩ ps).p.cap], .int .i64 2, .agg #[.int .i64 rr.tlo, .int .i64 rr.thi], .int .i64 (fr : Int), .int .i64 (to : Int)] W (PathOut W T 2 ⟨rr.tlo, rr.thi⟩ (fr : Int) (to : Int)) := fun W hW => path_any (t := ⟨rr.tlo, rr.thi⟩) (HS4.out.below hW) (HM.out.below (HE4.out.trans (Below.mono hW HE4.out.size)))
  have HPT := Lib.hid hPt; have HPE := Lib.hid hpe; have HCK := Lib.hid hck
  have p0 : (0 : Int) ≤ (fr : Int) := by omega
  have p1 : (fr : Int) < (T.rooms.length : Int) := by omega
  have p0' : decide ((0 : Int) ≤ (fr : Int)) = true := decide_eq_true p0
  have p1' : decide ((fr : Int) < (T.rooms.length : Int)) = true := decide_eq_true p1
  have x5 := X54.out
  have nr : T.rooms.length ≤ rc := by rw [HT1.out]; exact hrl
  have q5c := cell_blk x5
  have q5f := frz_blk x5
  clear x5 hPt hpe hck hspan hrr hrc
  go_wp2_with (fail)
  refine region_st [⟨[], [0, 1, 2, 3, 4, 5, 6, 7, 8], [9]⟩, ⟨[], [10, 11, 12, 13, 14, 15, 16], []⟩] (by kernel_rfl) (by kernel_rfl) (by intro c a d v w h; cases d <;> exact h) ?_
  refine wpSt_cons ?_
  simp only [picks, List.drop_succ_cons, List.drop_zero]
  repeat ((with_reducible refine wpQ0_step (fun K hK => ?_)); go_simp; ((with_reducible refine hK _ ?_); clear hK K))
  refine wpQ0_nil ?_
  repeat ((with_reducible refine wpQ2_step (fun K hK => ?_)); go_simp; first | ((with_reducible refine hK _ ?_); clear hK K) | (apply Exists.intro; refine ⟨fun x => ?_, hK _ ?_⟩; (fail); clear hK K))
  refine wpQ2_nil ?_
  intro w5 hw5
  refine wpTl_cons ?_
  go_wp2_with (fail)
  refine (HPT.out _ hw5).mono ?_
  rintro e w6 ⟨⟨la, lc⟩, rfl, hRw, hb6⟩
  have hX : pathX T 2 ⟨rr.tlo, rr.thi⟩ (fr : Int) (to : Int) = if (bestP T 2 ⟨rr.tlo, rr.thi⟩ fr to).1 < 0 then 9 else 0 := by
    unfold pathX
    rw [if_neg (by rw [HPE.out]; decide), Int.toNat_natCast, Int.toNat_natCast]
  have HE6 := Lib.hid (ext_trans hw5 hb6)
  have X56 := Lib.hid (Ext2.blk HE6.out X54.out)
  obtain ⟨bp, hbp⟩ : ∃ b, b = bestP T 2 ⟨rr.tlo, rr.thi⟩ fr to := ⟨_, rfl⟩
  rw [← hbp] at hX
  have HBP := Lib.hid hbp
  have HEW := Lib.hid (HE4.out.trans (Below.mono HE6.out HE4.out.size))
  by_cases hneg : bp.1 < 0
  case pos =>
    rw [if_pos hneg] at hX
    have hL : pathL T 2 ⟨rr.tlo, rr.thi⟩ (fr : Int) (to : Int) = [] := if_neg (by rw [hX]; decide)
    have hH : pathH T 2 ⟨rr.tlo, rr.thi⟩ (fr : Int) (to : Int) = 0 := if_neg (by rw [hX]; decide)
    rw [hX, hL, hH]
    have hd9 : ((9 : Int) != 0) = true := by decide
    have he9 : ((9 : Int) == 9) = true := by decide
    clear hX hL hH hbp hneg hRw hb6 hw5 q5c q5f d1 d2
    go_wp2_with (fail)
    refine wpTl_nil ?_
    refine wpSt_name ?_
    intro w7 hw7
    refine wpSt_cons ?_
    simp only [picks, List.drop_succ_cons, List.drop_zero]
    repeat ((with_reducible refine wpQ0_step (fun K hK => ?_)); go_simp; ((with_reducible refine hK _ ?_); clear hK K))
    refine wpQ0_nil ?_
    repeat ((with_reducible refine wpQ2_step (fun K hK => ?_)); go_simp; first | ((with_reducible refine hK _ ?_); clear hK K) | (apply Exists.intro; refine ⟨fun x => ?_, hK _ ?_⟩; (fail); clear hK K))
    refine wpQ2_nil ?_
    intro w8 hw8
    refine wpTl_nil ?_
    refine wpSt_nil ?_
    subst hw7
    have HE8 := Lib.hid (HEW.out.trans (Below.mono hw8 HEW.out.size))
    clear hw8
    go_wp2_with (fail)
    refine (awake_any (HM.out.below HE8.out)).mono ?_
    rintro e w9 ⟨rfl, hb9⟩
    go_wp2_with (fail)
    go_ret
    exact ⟨rfl, HE8.out.trans (Below.mono hb9 HE8.out.size)⟩
  rw [if_neg hneg] at hX
  have hL : pathL T 2 ⟨rr.tlo, rr.thi⟩ (fr : Int) (to : Int) = bp.2 := by unfold pathL; rw [if_pos hX, Int.toNat_natCast, Int.toNat_natCast, ← hbp]
  have hH : pathH T 2 ⟨rr.tlo, rr.thi⟩ (fr : Int) (to : Int) = bp.1 := by unfold pathH; rw [if_pos hX, Int.toNat_natCast, Int.toNat_natCast, ← hbp]
  obtain ⟨m, hWM⟩ := way_m (S := T) (t := ⟨rr.tlo, rr.thi⟩) (to := to) HCK.out (by rw [HT2.out]; rfl) (by rw [HT2.out]; rfl) (by rw [HT2.out]; rfl) (by rw [HRR.out]) hflT (by rw [← hbp]; omega)
  rw [← hbp] at hWM
  obtain ⟨hours, st⟩ := bp
  simp only at hL hH hWM hneg
  rw [hL] at hRw
  rw [hX, hL, hH, hWM.len]
  rw [hWM.len] at hRw
  have HWM := Lib.hid hWM
  have hm4 := hWM.le
  have HRW := Lib.hid hRw
  have hlc := hRw.le; have hlm := hRw.max
  dsimp only at hlc hlm
  clear hX hL hH hbp hneg hRw hb6 hw5 q5c q5f d1 d2 hWM
  go_wp2_with (fail)
  refine wpTl_nil ?_
  refine wpSt_name ?_
  intro w7 hw7
  refine wpSt_cons ?_
  simp only [picks, List.drop_succ_cons, List.drop_zero]
  repeat ((with_reducible refine wpQ0_step (fun K hK => ?_)); go_simp; ((with_reducible refine hK _ ?_); clear hK K))
  refine wpQ0_nil ?_
  repeat ((with_reducible refine wpQ2_step (fun K hK => ?_)); go_simp; first | ((with_reducible refine hK _ ?_); clear hK K) | (apply Exists.intro; refine ⟨fun x => ?_, hK _ ?_⟩; (fail); clear hK K))
  refine wpQ2_nil ?_
  intro w8 hw8
  refine wpTl_nil ?_
  refine wpSt_nil ?_
  subst hw7
  have HE8 := Lib.hid (HEW.out.trans (Below.mono hw8 HEW.out.size))
  have HE68 := Lib.hid hw8
  have X58 := Lib.hid (Ext2.blk hw8 X56.out)
  have HR8 := Lib.hid (HRW.out.below hw8)
  clear hw8
  go_wp2_with (fail)
  go_loopw [14, 15, 16] (fun v a z wr => ∃ i : Nat, z = .int .i64 (i : Int) ∧ a = .int .i64 (cumH st i) ∧ i ≤ m ∧ OwnR wr w8.heap.size 46 3 v i (mvC (movesV st i)) ∧ Ext2 w8 wr) (fun _ _ z _ => m + 1 - (intOf z).toNat)
  case atStart => exact ⟨0, rfl, rfl, by omega, own_nil _ _ _ _ _, Below.refl _ _⟩
  case round =>
    obtain ⟨i, rfl, rfl, hi, hO, hE⟩ := hrel
    have HO := Lib.hid hO; have HE := Lib.hid hE
    have hcu := HWM.out.cum i hi
    obtain ⟨C, hC⟩ : ∃ C, C = cumH st i := ⟨_, rfl⟩
    rw [← hC] at hcu ⊢
    have HCu := Lib.hid hC
    have w1' : IntKind.i64.wrap ((i : Int) + 1) = (i : Int) + 1 := IntWalk.i64_in _ (by omega)
    by_cases hlt : i < m
    · go_light
      have hh := HWM.out.hr i hlt
      have hcn := HWM.out.cum (i + 1) hlt
      obtain ⟨lb, loff, hla, d1⟩ := (HR8.out.below hE).cell i 1 (by omega) (by omega)
      obtain ⟨lb', loff', hla', d2⟩ := (HR8.out.below hE).cell (i + 1) 0 (by omega) (by omega)
      dsimp only at hla hla'
      subst hla
      obtain ⟨rfl, rfl⟩ : lb = lb' ∧ loff = loff' := by simpa using hla'
      replace d1 : wr.cell? ⟨lb, loff + i * 2 + 1, none⟩ = some (.int .i64 (syD st i).hours) := d1
      replace d2 : wr.cell? ⟨lb, loff + (i + 1) * 2, none⟩ = some (.int .i64 (syD st (i + 1)).room) := d2
      have hcs : cumH st (i + 1) = C + (syD st i).hours := by rw [cumH, ← HCu.out]
      rw [hcs] at hcn
      obtain ⟨H, hH⟩ : ∃ H, H = (syD st i).hours := ⟨_, rfl⟩
      obtain ⟨R, hR⟩ : ∃ R, R = (syD st (i + 1)).room := ⟨_, rfl⟩
      rw [← hH] at d1 hcs hh hcn
      rw [← hR] at d2
      have HCS := Lib.hid hcs; have HR := Lib.hid hR
      have w2' : IntKind.i64.wrap (C + H) = C + H := IntWalk.i64_in _ (by omega)
      have p0 : (0 : Int) ≤ (i : Int) := by omega
      have p1 : (i : Int) + 1 < (m : Int) + 1 := by omega
      have p2 : (0 : Int) ≤ (i : Int) + 1 := by omega
      have p3 : (i : Int) < (m : Int) + 1 := by omega
      have p4 : (i : Int) < (m : Int) := by omega
      have hsz := hE.size
      clear hla' hO hE hcs hH hR hC
      go_wp2_with (at_builtin; refine app_one [.int .i64 (C + H), .int .i64 0, .int .i64 R] elMv rfl _ _ rfl w8.heap.size rfl (HO.out.below (below_alloc' _ _)) wr.heap.size 1 rfl (blk_new _ _) (by simp [Value.oneCell']) (by omega) (by simp; omega) ?_; intro v' w9 hO9 hg9)
      have HE9 := Lib.hid (below_app HE.out HO.out hsz hg9)
      have HO9 := Lib.hid hO9
      clear hO9 hg9 d1 d2
      go_wp2_with (fail)
      go_roundw
      case rel =>
        refine ⟨i + 1, by go_num, by rw [HCS.out], by omega, HO9.out.congr fun i' j' hi' hj' => ?_, HE9.out⟩
        have := mvC_one (l := movesV st i) (x := ⟨cumH st (i + 1), 0, (syD st (i + 1)).room⟩) (i := i') (j := j') (by rw [movesV_len]; exact hi') hj'
        rw [movesV_len] at this
        rw [movesV, ← this, HCS.out, ← HR.out]
      case measure => simp [intOf]; omega
    · obtain rfl : i = m := by omega
      have r1 : ¬ ((i : Nat) : Int) + 1 < (i : Int) + 1 := by omega
      have r1' : ¬ ((i : Nat) : Int) < (i : Int) := by omega
      obtain ⟨⟨va, vc⟩, rfl, hM⟩ := own_rowS hO
      have hCh : C = hours := by rw [HCu.out]; exact HWM.out.sum
      subst hCh
      have HMv := Lib.hid hM; have HE8r := Lib.hid hE
      have HEF := Lib.hid (HE8.out.trans (Below.mono hE HE8.out.size))
      have x5 := Ext2.blk hE X58.out
      have HSF := Lib.hid (HS4.out.below (ext_trans HE6.out (ext_trans HE68.out hE)))
      have q5c := cell_blk x5
      have q5f := frz_blk x5
      clear hM hE hO hC x5
      by_cases h24 : 2400 < C
      · go_wp2_with (fail)
        refine (awake_any (HM.out.below HEF.out)).mono ?_
        rintro e w9 ⟨rfl, hb9⟩
        go_wp2_with (fail)
        go_ret
        exact ⟨rfl, HEF.out.trans (Below.mono hb9 HEF.out.size)⟩
      have h24' : C ≤ 2400 := by omega
      have hkp := HWM.out.kept (by rw [← HCu.out]; exact h24')
      have hat := HWM.out.at_ (by rw [← HCu.out]; exact h24')
      rw [← HCu.out] at hat
      obtain ⟨M, hMM⟩ : ∃ M, M = movesV st i := ⟨_, rfl⟩
      have hml : M.length = i := by rw [hMM, movesV_len]
      rw [← hMM] at hkp hat HMv
      have hme : movedE T M = 0 := movedE_none (chk_iff.2 HCK.out) (by omega) (valid_kept hkp)
      have e1 : playMv T M = M := by unfold playMv; rw [hme, if_pos rfl, playV_kept hkp]
      have e2 : playWy T M = List.replicate M.length 0 := by unfold playWy; rw [hme, if_pos rfl, playV_kept hkp]
      have e3 : whereE T M C = 0 := whereE_zero hme ⟨by omega, h24'⟩
      have e4 : whereA T M C = [(to : Int)] := by unfold whereA; rw [if_pos e3, playV_kept hkp]; exact hat
      have hmv : RowS wr ⟨va, vc⟩ 3 M.length (mvC M) := by rw [hml]; exact HMv.out
      have HMW := Lib.hid hmv; have HE1' := Lib.hid e1; have HE2' := Lib.hid e2; have HE3' := Lib.hid e3; have HE4' := Lib.hid e4; have HME := Lib.hid hme; have HML := Lib.hid hml
      clear hkp hat hMM hme e1 e2 e3 e4 hmv hml
      go_wp2_with (fail)
      have hPy : Calls Tryd.prog 17 #[.agg #[.slice (SSl.mk ⟨some ⟨rb, roff, none⟩, rc⟩ ⟨some ⟨bc, 0, none⟩, 1⟩ ps).r.a T.rooms.length (SSl.mk ⟨some ⟨rb, roff, none⟩, rc⟩ ⟨some ⟨bc, 0, none⟩, 1⟩ ps).r.cap, .slice (SSl.mk ⟨some ⟨rb, roff, none⟩, rc⟩ ⟨some ⟨bc, 0, none⟩, 1⟩ ps).c.a T.cans.length (SSl.mk ⟨some ⟨rb, roff, none⟩, rc⟩ ⟨some ⟨bc, 0, none⟩, 1⟩ ps).c.cap, .int .i64 T.rlo, .int .i64 T.rhi, .slice (SSl.mk ⟨some ⟨rb, roff, none⟩, rc⟩ ⟨some ⟨bc, 0, none⟩, 1⟩ ps).p.a T.steps.length (SSl.mk ⟨some ⟨rb, roff, none⟩, rc⟩ ⟨some ⟨bc, 0, none⟩, 1⟩ ps).p.cap], .slice va i vc] wr fun e w' => ∃ sM sW : Sl, e = .returned (.tuple #[.slice sM.a i sM.cap, .slice sW.a i sW.cap, .int .i64 0]) ∧ RowS w' sM 3 M.length (mvC M) ∧ Below wr.heap.size wr w' := by
        have h := playA_any HSF.out HMW.out (HM.out.below HEF.out)
        unfold PlayAOut at h
        rw [HE1'.out, HE2'.out, HME.out, List.length_replicate, HML.out] at h
        refine h.mono ?_
        rintro e W ⟨sM, sW, he, h1, -, h2⟩
        exact ⟨sM, sW, he, h1, h2⟩
      refine hPy.mono ?_
      clear hPy
      rintro e w9 ⟨⟨ka, kc⟩, ⟨wa, wc⟩, rfl, hK, hb9⟩
      have HK := Lib.hid hK
      have HEX := Lib.hid (HEF.out.trans (Below.mono hb9 HEF.out.size))
      have X59 := Lib.hid (Ext2.blk hb9 (Ext2.blk HE8r.out X58.out))
      have HS9 := Lib.hid (HSF.out.below hb9)
      have HM9 := Lib.hid (HMW.out.below hb9)
      have b1 : ((0 : Int) != 0) = false := rfl
      have b2 : (C != C) = false := by simp
      have x5 := X59.out
      clear hK hb9 q5c q5f
      have q5c := cell_blk x5
      have q5f := frz_blk x5
      clear x5
      go_wp2_with (fail)
      have hMs : Calls Tryd.prog 18 #[.slice ka i kc, .slice va i vc] w9 fun e w' => e = .returned (.bool true) ∧ Below w9.heap.size w9 w' := by
        have h := mvs_any (s := ⟨ka, kc⟩) (t := ⟨va, vc⟩) HK.out HM9.out
        rw [decide_eq_true rfl, HML.out] at h
        exact h
      refine hMs.mono ?_
      clear hMs
      rintro e w10 ⟨rfl, hb10⟩
      have HEY := Lib.hid (HEX.out.trans (Below.mono hb10 HEX.out.size))
      have X510 := Lib.hid (Ext2.blk hb10 X59.out)
      have HS10 := Lib.hid (HS9.out.below hb10)
      have HM10 := Lib.hid (HM9.out.below hb10)
      have x5 := X510.out
      clear hb10 q5c q5f
      have q5c := cell_blk x5
      have q5f := frz_blk x5
      clear x5
      go_wp2_with (fail)
      have hWh : Calls Tryd.prog 19 #[.agg #[.slice (SSl.mk ⟨some ⟨rb, roff, none⟩, rc⟩ ⟨some ⟨bc, 0, none⟩, 1⟩ ps).r.a T.rooms.length (SSl.mk ⟨some ⟨rb, roff, none⟩, rc⟩ ⟨some ⟨bc, 0, none⟩, 1⟩ ps).r.cap, .slice (SSl.mk ⟨some ⟨rb, roff, none⟩, rc⟩ ⟨some ⟨bc, 0, none⟩, 1⟩ ps).c.a T.cans.length (SSl.mk ⟨some ⟨rb, roff, none⟩, rc⟩ ⟨some ⟨bc, 0, none⟩, 1⟩ ps).c.cap, .int .i64 T.rlo, .int .i64 T.rhi, .slice (SSl.mk ⟨some ⟨rb, roff, none⟩, rc⟩ ⟨some ⟨bc, 0, none⟩, 1⟩ ps).p.a T.steps.length (SSl.mk ⟨some ⟨rb, roff, none⟩, rc⟩ ⟨some ⟨bc, 0, none⟩, 1⟩ ps).p.cap], .slice va i vc, .int .i64 C] w10 fun e w' => ∃ q : Sl, e = .returned (.tuple #[.slice q.a 1 q.cap, .int .i64 0]) ∧ IntsS w' q [(to : Int)] ∧ Below w10.heap.size w10 w' := by
        have h := whereA_any (h := C) HS10.out HM10.out (HM.out.below HEY.out)
        unfold WhereOut at h
        rw [HE3'.out, HE4'.out, HML.out] at h
        exact h
      refine hWh.mono ?_
      clear hWh
      rintro e w11 ⟨⟨qa, qc⟩, rfl, hQ, hb11⟩
      have HEZ := Lib.hid (HEY.out.trans (Below.mono hb11 HEY.out.size))
      have hql := hQ.le; have hqm := hQ.max
      obtain ⟨qb, qoff, hqa, e0⟩ := int_cell hQ (i := 0) (by show 0 < 1; omega)
      dsimp only at hqa hql hqm
      subst hqa
      replace e0 : w11.cell? ⟨qb, qoff, none⟩ = some (.int .i64 (to : Int)) := e0
      have b3 : ((0 : Int) == 0) = true := rfl
      have b4 : ((i : Int) == (i : Int)) = true := by simp
      have b5 : ((to : Int) == (to : Int)) = true := by simp
      have b6 : ((1 : Int) == 1) = true := rfl
      clear hQ hb11 q5c q5f
      go_wp2_with (fail)
      refine (awake_any (HM.out.below HEZ.out)).mono ?_
      rintro e w12 ⟨rfl, hb12⟩
      go_wp2_with (fail)
      go_ret
      exact ⟨rfl, HEZ.out.trans (Below.mono hb12 HEZ.out.size)⟩
end Go.Proofs.YtkidicfpfknfoaaDoor
