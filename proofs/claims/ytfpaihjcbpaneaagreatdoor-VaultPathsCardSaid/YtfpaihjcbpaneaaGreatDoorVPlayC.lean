/-
  play: a vault behind moves, and why they are refused.
  Play, Where.
  Plain: a can's climate, hour by hour.
  Climates: the climate of a can, day by day.
-/
import Derived.Test.YtfpaihjcbpaneaaGreatDoorVMove
import Derived.Test.YtfpaihjcbpaneaaGreatDoorVCheck
import Derived.Test.YtfpaihjcbpaneaaGreatDoorVPlA
import Derived.Test.YtfpaihjcbpaneaaGreatDoorVPthA
import Derived.Test.YtfpaihjcbpaneaaGreatDoorVHoursA
namespace Go.Proofs.YtfpaihjcbpaneaaGreatDoor
open Go.RowKit D
set_option linter.unusedVariables false
set_option linter.unusedSimpArgs false
attribute [local go_sem high] run_minI run_maxI
attribute [local go_sem] upon2 cls_cell cls_frozen forall_const exists_eq_left'
attribute [local go_sem] FirstUpon
theorem elErr : Elem Tryz.prog 38 32 (.int .i64 0) 1 8 := ⟨by kernel_rfl, by kernel_rfl, rfl, by omega, by omega⟩
theorem MvsIn.of_kept {S : Site} {M : List Mv} (h : Kept S M) : MvsIn S M := ⟨h.valid, h.sort⟩
theorem VOwn.app {w0 w w' : World} {S : Site} {s : SSl} {b : Nat} {M : List Mv} {k : Sl} {e : TypeId} {sz : Nat} {v : Value} {n : Nat} {c : Nat → Nat → Value} {o : Obj} (h : VOwn w0 S s b M k w) (hO : OwnR w w0.heap.size e sz v n c) (hg : (w.alloc o).grownBy w' v.ownBlock) (h1 : 76 ≠ e) (h2 : 95 ≠ e) : VOwn w0 S s b M k w' :=
  ⟨below_app h.bel hO h.bel.size hg, h.site, h.lb, app_blk hO hg h.blk h1, own_app hO hg h.own h2⟩
/-- What play returns. -/
def PlayOut (w : World) (S : Site) (s : SSl) (L : List Mv) (e : Ending) (w' : World) : Prop :=
  (movedE S L ≠ 0 ∧ e = .returned (.tuple #[.pointer none, .slice none 0 0, .int .i64 (movedE S L)]) ∧ Below w.heap.size w w') ∨
  (movedE S L = 0 ∧ ∃ b k v, e = .returned (.tuple #[.pointer (some ⟨b, 0, none⟩), v, .int .i64 0]) ∧ VOwn w S s b (playV S L).1 k w' ∧ OwnR w' w.heap.size 32 1 v L.length (intC (playV S L).2))
theorem movedE_ok {S : Site} {L : List Mv} (h : movedE S L = 0) : Chk S ∧ L.length ≤ 60 ∧ ∀ i, i < L.length → mvE S (mvD L i) = 0 := by
  unfold movedE at h
  split at h
  · rename_i h1; exact absurd h h1
  · rename_i h1
    have h1 : (checkV S).2.2 = 0 := Decidable.not_not.1 h1
    split at h
    · cases h
    · rename_i h2
      split at h
      · rename_i h3
        exact absurd h (first_ne (p := fun i => mvE S (mvD L i)) h3)
      · rename_i h3
        exact ⟨chk_iff.1 h1, by omega, first_all.1 h3⟩
theorem movedE_first {S : Site} {L : List Mv} {k : Nat} (hc : (checkV S).2.2 = 0) (hl : L.length ≤ 60) (hall : ∀ j, j < k → mvE S (mvD L j) = 0) (hk : k < L.length) (hne : mvE S (mvD L k) ≠ 0) : movedE S L = mvE S (mvD L k) := by
  have e : fstM S L = k := firstN_at (p := fun i => mvE S (mvD L i) != 0) (fun i hi => by simp [hall i hi]) (by simpa using hne) hk
  unfold movedE
  rw [if_neg (by omega), if_neg (by omega), e, if_pos hk]
theorem movedE_none {S : Site} {L : List Mv} (hc : (checkV S).2.2 = 0) (hl : L.length ≤ 60) (hall : ∀ j, j < L.length → mvE S (mvD L j) = 0) : movedE S L = 0 := by
  unfold movedE
  rw [if_neg (by omega), if_neg (by omega), if_neg]
  unfold fstM
  rw [firstN_none (fun i hi => by simp [hall i hi])]; omega
theorem intC_snoc {l : List Int} {x : Int} {i j : Nat} (hi : i < l.length + 1) (hj : j < 1) : upd (intC l) l.length [.int .i64 x] i j = intC (l ++ [x]) i j := by
  obtain rfl : j = 0 := by omega
  by_cases h : i = l.length
  · subst h
    rw [upd_at]
    simp [intC, intD]
  · rw [upd_lt (by omega)]
    have e : intD (l ++ [x]) i = intD l i := by unfold intD; rw [List.getD_eq_getElem?_getD, List.getD_eq_getElem?_getD, List.getElem?_append_left (by omega)]
    simp [intC, e]
set_option maxRecDepth 100000 in
set_option maxHeartbeats 8000000 in
theorem play_any {S : Site} {s : SSl} {L : List Mv} {sl : Sl} {w : World} (hS : SiteAt w S s) (hL : MovesS w sl L) (hm : MaxAt w) :
    Calls Tryz.prog 32 #[.agg #[.slice s.r.a S.rooms.length s.r.cap, .slice s.c.a S.cans.length s.c.cap, .int .i64 S.rlo, .int .i64 S.rhi, .slice s.p.a S.steps.length s.p.cap], .slice sl.a L.length sl.cap] w (PlayOut w S s L) := by
  have HS := Lib.hid hS; have HL := Lib.hid hL; have HM := Lib.hid hm
  have hll := hL.le; have hlm := hL.max
  have hrl := hS.rm.le; have hrm := hS.rm.max; have hcl := hS.cn.le; have hcm := hS.cn.max
  obtain ⟨p1, p2, p3, hp⟩ : ∃ a b c, checkV S = (a, b, c) := ⟨_, _, _, rfl⟩
  have HP := Lib.hid hp
  clear hS hL hm hp
  go_enter Tryz.func32, Tryz.ntmps32
  go_wp2_with (fail)
  refine calls_name ?_
  intro w1 hw1
  obtain ⟨n2, hn2⟩ : ∃ n, n = w.heap.size := ⟨_, rfl⟩
  have hE1 : Ext2 w w1 := by rw [hw1]; exact below_alloc' _ _
  have x2 : w1.heap[n2]? = some (Obj.cells #[.slice s.r.a S.rooms.length s.r.cap, .slice s.c.a S.cans.length s.c.cap, .int .i64 S.rlo, .int .i64 S.rhi, .slice s.p.a S.steps.length s.p.cap] 28) := by rw [hw1, hn2]; exact blk_new _ _
  have hwn : w.heap.size ≤ n2 := by omega
  rw [← hn2]
  clear hw1 hn2
  refine (check_any (HS.out.below hE1) (HM.out.below hE1)).mono ?_
  rintro e w2 ⟨rfl, hb2⟩
  rw [HP.out]
  dsimp only
  have HX2 := Lib.hid (Ext2.blk hb2 x2); have HE2 := Lib.hid (ext_trans hE1 hb2)
  clear hb2 hE1 x2
  by_cases hp3 : p3 = 0
  case neg =>
    have hd : (p3 != 0) = true := by simp [hp3]
    have HPN := Lib.hid hp3
    clear hp3
    go_wp2_with (fail)
    refine bodyPost_ret (v := .tuple #[.pointer none, .slice none 0 0, .int .i64 p3]) ?_ rfl ?_
    · simp [results, Tryz.results32, go_sem]
    have e : movedE S L = p3 := by unfold movedE; rw [HP.out, if_pos HPN.out]
    exact .inl ⟨by rw [e]; exact HPN.out, by rw [e], HE2.out⟩
  subst hp3
  have hd : ((0 : Int) != 0) = false := rfl
  by_cases hlen : 60 < L.length
  · have hl2 : decide (60 < (L.length : Int)) = true := decide_eq_true (by omega)
    have hl3 : (60 : Int) < (L.length : Int) := by omega
    have HLEN := Lib.hid hlen
    go_wp2_with (fail)
    refine bodyPost_ret (v := .tuple #[.pointer none, .slice none 0 0, .int .i64 3]) ?_ rfl ?_
    · simp [results, Tryz.results32, go_sem]
    have e : movedE S L = 3 := by unfold movedE; rw [HP.out, if_neg (by simp), if_pos HLEN.out]
    exact .inl ⟨by rw [e]; decide, by rw [e], HE2.out⟩
  have hl2 : decide (60 < (L.length : Int)) = false := decide_eq_false (by omega)
  have hl3 : ¬ (60 : Int) < (L.length : Int) := by omega
  have HCV : Hid ((checkV S).2.2 = 0) := Lib.hid (by rw [HP.out])
  have HLE : Hid (L.length ≤ 60) := Lib.hid (by omega)
  clear hlen
  go_wp2_with (fail)
  clear hl2 hl3 hd
  obtain ⟨la, lc⟩ := sl
  dsimp only at hll hlm
  go_loopw [4, 5, 6, 27] (fun f4 f5 f6 z wr => f4 = .pointer none ∧ f5 = .slice none 0 0 ∧ f6 = .int .i64 0 ∧ ∃ k : Nat, z = .int .i64 (k : Int) ∧ k ≤ L.length ∧ Ext2 w wr ∧ wr.heap[n2]? = some (Obj.cells #[.slice s.r.a S.rooms.length s.r.cap, .slice s.c.a S.cans.length s.c.cap, .int .i64 S.rlo, .int .i64 S.rhi, .slice s.p.a S.steps.length s.p.cap] 28) ∧ ∀ j, j < k → mvE S (mvD L j) = 0) (fun _ _ _ z _ => L.length - (intOf z).toNat)
  case atStart => exact ⟨rfl, rfl, rfl, 0, rfl, by omega, HE2.out, HX2.out, fun j h => absurd h (by omega)⟩
  case round =>
    obtain ⟨rfl, rfl, rfl, k, rfl, hk, hB, x2, hall⟩ := hrel
    have HA := Lib.hid hall; have HB := Lib.hid hB; have X2 := Lib.hid x2
    clear hall hB
    by_cases hlt : k < L.length
    · go_light
      obtain ⟨b, off, h1, y0, y1, y2⟩ := mv_cells (HL.out.below HB.out) hlt
      dsimp only at h1
      subst h1
      have i0 : (0 : Int) ≤ (k : Int) := by omega
      have i1 : (k : Int) < (L.length : Int) := by omega
      have w3' : IntKind.i64.wrap ((k : Int) + 1) = (k : Int) + 1 := IntWalk.i64_in _ (by omega)
      have w4' : IntKind.i64.wrap ((S.cans.length : Int) - 1) = (S.cans.length : Int) - 1 := IntWalk.i64_in _ (by omega)
      have w5' : IntKind.i64.wrap ((S.rooms.length : Int) - 1) = (S.rooms.length : Int) - 1 := IntWalk.i64_in _ (by omega)
      obtain ⟨mh, hmh⟩ : ∃ x, x = (mvD L k).hour := ⟨_, rfl⟩
      obtain ⟨mc, hmc⟩ : ∃ x, x = (mvD L k).can := ⟨_, rfl⟩
      obtain ⟨mt, hmt⟩ : ∃ x, x = (mvD L k).to_ := ⟨_, rfl⟩
      rw [← hmh] at y0; rw [← hmc] at y1; rw [← hmt] at y2
      have HK := Lib.hid hlt
      have HE : Hid (mvE S (mvD L k) = if outB mh 0 2400 = true then 7 else if (outB mc 0 ((S.cans.length : Int) - 1) || outB mt 0 ((S.rooms.length : Int) - 1)) = true then 4 else 0) := Lib.hid (by
        unfold mvE
        rw [← hmh, ← hmc, ← hmt, outB_in, outB_in, outB_in]
        cases inB mh 0 2400 <;> cases inB mc 0 ((S.cans.length : Int) - 1) <;> cases inB mt 0 ((S.rooms.length : Int) - 1) <;> rfl)
      clear hmh hmc hmt
      have q2c := cell_blk x2
      have q2f := frz_blk x2
      have l2 : n2 < wr.heap.size := blk_lt X2.out
      have l2' : ¬ n2 = wr.heap.size := by omega
      clear x2
      rcases (Bool.eq_false_or_eq_true (outB mh 0 2400)).symm with ho | ho
      case inr =>
        have HO := Lib.hid ho
        go_wp2_with (go_at_call 33; (with_reducible refine (out_any _ _ _ _).mono ?_); rintro e w' ⟨rfl, rfl⟩)
        refine bodyPost_ret (v := .tuple #[.pointer none, .slice none 0 0, .int .i64 7]) ?_ rfl ?_
        · simp [results, Tryz.results32, go_sem]
        have e := movedE_first HCV.out HLE.out HA.out HK.out (by rw [HE.out, if_pos HO.out]; decide)
        rw [HE.out, if_pos HO.out] at e
        exact .inl ⟨by rw [e]; decide, by rw [e], below_ext HB.out (below_alloc' _ _)⟩
      rcases (Bool.eq_false_or_eq_true (outB mc 0 ((S.cans.length : Int) - 1) || outB mt 0 ((S.rooms.length : Int) - 1))).symm with hq | hq
      case inr =>
        have HO := Lib.hid ho; have HQ := Lib.hid hq
        have hE' := movedE_first HCV.out HLE.out HA.out HK.out (by rw [HE.out, if_neg (by rw [HO.out]; decide), if_pos HQ.out]; decide)
        rw [HE.out, if_neg (by rw [HO.out]; decide), if_pos HQ.out] at hE'
        have HEE := Lib.hid hE'
        clear hE'
        rcases (Bool.eq_false_or_eq_true (outB mc 0 ((S.cans.length : Int) - 1))).symm with h1 | h1
        · have h2 : outB mt 0 ((S.rooms.length : Int) - 1) = true := by simpa [h1] using hq
          clear hq
          go_wp2_with (go_at_call 33; (with_reducible refine (out_any _ _ _ _).mono ?_); rintro e w' ⟨rfl, rfl⟩)
          refine bodyPost_ret (v := .tuple #[.pointer none, .slice none 0 0, .int .i64 4]) ?_ rfl ?_
          · simp [results, Tryz.results32, go_sem]
          exact .inl ⟨by rw [HEE.out]; decide, by rw [HEE.out], below_ext HB.out (below_alloc' _ _)⟩
        · clear hq
          go_wp2_with (go_at_call 33; (with_reducible refine (out_any _ _ _ _).mono ?_); rintro e w' ⟨rfl, rfl⟩)
          refine bodyPost_ret (v := .tuple #[.pointer none, .slice none 0 0, .int .i64 4]) ?_ rfl ?_
          · simp [results, Tryz.results32, go_sem]
          exact .inl ⟨by rw [HEE.out]; decide, by rw [HEE.out], below_ext HB.out (below_alloc' _ _)⟩
      have h12 : outB mc 0 ((S.cans.length : Int) - 1) = false ∧ outB mt 0 ((S.rooms.length : Int) - 1) = false := by simpa using hq
      obtain ⟨h1, h2⟩ := h12
      have HZ : Hid (mvE S (mvD L k) = 0) := Lib.hid (by rw [HE.out, if_neg (by rw [ho]; decide), if_neg (by rw [hq]; decide)])
      clear hq
      go_wp2_with (go_at_call 33; (with_reducible refine (out_any _ _ _ _).mono ?_); rintro e w' ⟨rfl, rfl⟩)
      go_roundw
      case rel => exact ⟨rfl, rfl, rfl, k + 1, by go_num, by omega, below_ext HB.out (below_alloc' _ _), blk_alloc X2.out _, fun j hj => by
        by_cases hjk : j = k
        · rw [hjk]; exact HZ.out
        · exact HA.out j (by omega)⟩
      case measure => simp [intOf]; omega
    · obtain rfl : k = L.length := by omega
      have r1 : ¬ (L.length : Int) < (L.length : Int) := by omega
      have q2c := cell_blk x2
      have q2f := frz_blk x2
      clear x2
      go_wp2_with (fail)
      have HCK : Hid (Chk S) := Lib.hid (chk_iff.1 HCV.out)
      have hvd := HA.out
      have HPL : Hid (∀ k, k ≤ L.length → Played S L k) := Lib.hid fun k hk => played hvd hk
      have HVD := Lib.hid hvd
      have HME : Hid (movedE S L = 0) := Lib.hid (movedE_none HCV.out HLE.out HA.out)
      have hle60 := HLE.out
      clear hvd HA q2c q2f X2 r1
      obtain ⟨b, hb⟩ : ∃ b, b = wr.heap.size := ⟨_, rfl⟩
      refine wp_name ?_
      intro w3 hw3
      have hV3 : VOwn w S s b [] ⟨none, 0⟩ w3 := ⟨by rw [hw3]; exact below_ext HB.out (below_alloc' _ _), HS.out, by rw [hb]; exact HB.out.size, by rw [hw3, hb]; exact blk_new _ _, own_nil _ _ _ _ _⟩
      have HV3 := Lib.hid hV3
      rw [← hb]
      clear hw3 hV3 hb HB
      go_loopw [5, 58] (fun v z wr => ∃ k : Nat, z = .int .i64 (k : Int) ∧ k ≤ L.length ∧ ∃ kk, VOwn w S s b (playK S L k).1 kk wr ∧ OwnR wr w.heap.size 32 1 v k (intC (playK S L k).2)) (fun _ z _ => L.length - (intOf z).toNat)
      case atStart => exact ⟨0, rfl, by omega, ⟨none, 0⟩, HV3.out, own_nil _ _ _ _ _⟩
      case round =>
        obtain ⟨k2, rfl, hk2, kk, hV, hO⟩ := hrel
        have HV := Lib.hid hV; have HO := Lib.hid hO
        by_cases hlt : k2 < L.length
        · go_light
          obtain ⟨lb, off, h1, y0, y1, y2⟩ := mv_cells (HL.out.below HV.out.bel) hlt
          dsimp only at h1
          subst h1
          have i0 : (0 : Int) ≤ (k2 : Int) := by omega
          have i1 : (k2 : Int) < (L.length : Int) := by omega
          have w3' : IntKind.i64.wrap ((k2 : Int) + 1) = (k2 : Int) + 1 := IntWalk.i64_in _ (by omega)
          obtain ⟨m, hm⟩ : ∃ m, m = mvD L k2 := ⟨_, rfl⟩
          rw [← hm] at y0 y1 y2
          have HMK := Lib.hid hm
          have hlk := (HPL.out k2 hk2).le
          clear hV hO hm
          go_wp2_with (fail)
          refine calls_name ?_
          intro w4 hw4
          have hE4 : Ext2 wr w4 := by rw [hw4]; exact below_alloc' _ _
          refine (move_any (HV.out.below hE4) HCK.out (MvsIn.of_kept (HPL.out k2 hk2).kept) (by omega) (by rw [HMK.out]; exact HVD.out k2 hlt)).mono ?_
          rintro e w5 ⟨rfl, hsd, kk', hV5⟩
          obtain ⟨x, hx⟩ : ∃ x, x = whyV S (playK S L k2).1 m := ⟨_, rfl⟩
          rw [← hx] at hV5 ⊢
          have HO5 := Lib.hid ((HO.out.below hE4).sd hsd (by decide))
          have HV5 := Lib.hid hV5
          have hB5 := hV5.bel
          have HX := Lib.hid hx
          clear hw4 hE4 hsd hV5 hx y0 y1 y2 hlk
          go_wp2_with (at_builtin; refine app_one [.int .i64 x] elErr rfl _ _ rfl w.heap.size rfl (HO5.out.below (below_alloc' _ _)) w5.heap.size 1 rfl (blk_new _ _) (by simp [Value.oneCell']) (by omega) (by have := hB5.size; simp; omega) ?_; intro v' w6 hO6 hg6)
          have HV6 := Lib.hid (VOwn.app HV5.out HO5.out hg6 (by decide) (by decide))
          have HO6 := Lib.hid hO6
          clear hg6 hO6 hB5
          go_wp2_with (fail)
          go_roundw
          case rel =>
            refine ⟨k2 + 1, by go_num, by omega, kk', ?_, ?_⟩
            · have := HV6.out
              rw [HX.out, HMK.out] at this
              exact this
            · have h2 := (HPL.out k2 hk2).len
              have := HO6.out
              refine this.congr fun i j hi hj => ?_
              rw [HX.out, HMK.out]
              show upd (intC (playK S L k2).2) k2 _ i j = intC ((playK S L k2).2 ++ [_]) i j
              have e := @intC_snoc (playK S L k2).2 (whyV S (playK S L k2).1 (mvD L k2)) i j
              rw [h2] at e
              exact e hi hj
          case measure => simp [intOf]; omega
        · obtain rfl : k2 = L.length := by omega
          have r1 : ¬ (L.length : Int) < (L.length : Int) := by omega
          clear hV hO
          go_wp2_with (fail)
          refine bodyPost_ret (v := .tuple #[.pointer (some ⟨b, 0, none⟩), u5, .int .i64 0]) ?_ rfl ?_
          · simp [results, Tryz.results32, go_sem]
          exact .inr ⟨HME.out, b, kk, u5, rfl, HV.out, HO.out⟩
end Go.Proofs.YtfpaihjcbpaneaaGreatDoor
namespace Go.Proofs.YtfpaihjcbpaneaaGreatDoor.D
def playMv (S : Site) (L : List Mv) : List Mv := if movedE S L = 0 then (playV S L).1 else []
def playWy (S : Site) (L : List Mv) : List Int := if movedE S L = 0 then (playV S L).2 else []
def whereA (S : Site) (L : List Mv) (h : Int) : List Int := if whereE S L h = 0 then whereV S (playV S L).1 h else []
end Go.Proofs.YtfpaihjcbpaneaaGreatDoor.D
namespace Go.Proofs.YtfpaihjcbpaneaaGreatDoor
open Go.RowKit D
set_option linter.unusedVariables false
set_option linter.unusedSimpArgs false
attribute [local go_sem high] run_minI run_maxI
attribute [local go_sem] upon2 cls_cell cls_frozen forall_const exists_eq_left'
attribute [local go_sem] FirstUpon
theorem rowS_nil (w : World) (sz : Nat) (c : Nat → Nat → Value) : RowS w ⟨none, 0⟩ sz 0 c := ⟨Nat.le_refl _, by decide, fun i j hi _ => absurd hi (Nat.not_lt_zero i)⟩
def PlayAOut (w : World) (S : Site) (L : List Mv) (e : Ending) (w' : World) : Prop :=
  ∃ sM sW : Sl, e = .returned (.tuple #[.slice sM.a (playMv S L).length sM.cap, .slice sW.a (playWy S L).length sW.cap, .int .i64 (movedE S L)]) ∧ MovesS w' sM (playMv S L) ∧ IntsS w' sW (playWy S L) ∧ Below w.heap.size w w'
set_option maxRecDepth 100000 in
set_option maxHeartbeats 8000000 in
theorem playA_any {S : Site} {s : SSl} {L : List Mv} {sl : Sl} {w : World} (hS : SiteAt w S s) (hL : MovesS w sl L) (hm : MaxAt w) :
    Calls Tryz.prog 11 #[.agg #[.slice s.r.a S.rooms.length s.r.cap, .slice s.c.a S.cans.length s.c.cap, .int .i64 S.rlo, .int .i64 S.rhi, .slice s.p.a S.steps.length s.p.cap], .slice sl.a L.length sl.cap] w (PlayAOut w S L) := by
  have HS := Lib.hid hS; have HL := Lib.hid hL; have HM := Lib.hid hm
  clear hS hL hm
  go_enter Tryz.func11, Tryz.ntmps11
  go_wp2_with (fail)
  refine calls_name ?_
  intro w1 hw1
  have hE1 : Ext2 w w1 := by rw [hw1]; exact below_alloc' _ _
  refine (play_any (HS.out.below hE1) (HL.out.below hE1) (HM.out.below hE1)).mono ?_
  have HE1 := Lib.hid hE1
  clear hw1 hE1
  rintro e w2 (⟨hne, rfl, hb⟩ | ⟨h0, b, k, v, rfl, hV, hO⟩)
  · obtain ⟨x, hx⟩ : ∃ x, x = movedE S L := ⟨_, rfl⟩
    rw [← hx] at hne ⊢
    have hd : (x != 0) = true := by simp [hne]
    have HB := Lib.hid (ext_trans HE1.out hb); have HX := Lib.hid hx; have HNE := Lib.hid hne
    clear hb hx hne
    go_wp2_with (fail)
    refine bodyPost_ret (v := .tuple #[.slice none 0 0, .slice none 0 0, .int .i64 x]) ?_ rfl ?_
    · simp [results, Tryz.results11, go_sem]
    have e1 : playMv S L = [] := if_neg (by rw [← HX.out]; exact HNE.out)
    have e2 : playWy S L = [] := if_neg (by rw [← HX.out]; exact HNE.out)
    refine ⟨⟨none, 0⟩, ⟨none, 0⟩, by rw [e1, e2, HX.out]; rfl, ?_, ?_, HB.out⟩
    · rw [e1]; exact rowS_nil _ _ _
    · rw [e2]; exact rowS_nil _ _ _
  · have hd : ((0 : Int) != 0) = false := rfl
    have x0 := hV.blk
    have HV := Lib.hid hV
    have HO := Lib.hid hO; have H0 := Lib.hid h0
    clear h0 hV hO
    have q0c := cell_blk x0
    have q0f := frz_blk x0
    clear x0
    go_wp2_with (fail)
    have hV := HV.out
    obtain ⟨⟨a, c⟩, rfl, hr⟩ := HO.out.sl
    refine bodyPost_ret (v := .tuple #[.slice k.a (playV S L).1.length k.cap, .slice a L.length c, .int .i64 0]) ?_ rfl ?_
    · simp [results, Tryz.results11, go_sem]
    have e1 : playMv S L = (playV S L).1 := if_pos H0.out
    have e2 : playWy S L = (playV S L).2 := if_pos H0.out
    have e3 : (playV S L).2.length = L.length := (played (movedE_ok H0.out).2.2 (Nat.le_refl _)).len
    refine ⟨k, ⟨a, c⟩, by rw [e1, e2, e3, H0.out], ?_, ?_, below_ext HE1.out (hV.bel.mono ?_)⟩
    · rw [e1]; exact hV.at_.kept
    · rw [e2]; show RowS _ _ 1 _ _; rw [e3]; exact hr
    · exact Nat.le_refl _
def WhereOut (w : World) (S : Site) (L : List Mv) (h : Int) (e : Ending) (w' : World) : Prop :=
  ∃ s : Sl, e = .returned (.tuple #[.slice s.a (whereA S L h).length s.cap, .int .i64 (whereE S L h)]) ∧ IntsS w' s (whereA S L h) ∧ Below w.heap.size w w'
set_option maxRecDepth 100000 in
set_option maxHeartbeats 8000000 in
theorem whereA_any {S : Site} {s : SSl} {L : List Mv} {sl : Sl} {h : Int} {w : World} (hS : SiteAt w S s) (hL : MovesS w sl L) (hm : MaxAt w) :
    Calls Tryz.prog 15 #[.agg #[.slice s.r.a S.rooms.length s.r.cap, .slice s.c.a S.cans.length s.c.cap, .int .i64 S.rlo, .int .i64 S.rhi, .slice s.p.a S.steps.length s.p.cap], .slice sl.a L.length sl.cap, .int .i64 h] w (WhereOut w S L h) := by
  have HS := Lib.hid hS; have HL := Lib.hid hL; have HM := Lib.hid hm
  clear hS hL hm
  go_enter Tryz.func15, Tryz.ntmps15
  go_wp2_with (fail)
  refine calls_name ?_
  intro w1 hw1
  have hE1 : Ext2 w w1 := by rw [hw1]; exact below_alloc' _ _
  refine (play_any (HS.out.below hE1) (HL.out.below hE1) (HM.out.below hE1)).mono ?_
  have HE1 := Lib.hid hE1
  clear hw1 hE1
  rintro e w2 (⟨hne, rfl, hb⟩ | ⟨h0, b, k, v, rfl, hV, hO⟩)
  · obtain ⟨x, hx⟩ : ∃ x, x = movedE S L := ⟨_, rfl⟩
    rw [← hx] at hne ⊢
    have hd : (x != 0) = true := by simp [hne]
    have HB := Lib.hid (ext_trans HE1.out hb); have HX := Lib.hid hx; have HNE := Lib.hid hne
    clear hb hx hne
    go_wp2_with (fail)
    refine bodyPost_ret (v := .tuple #[.slice none 0 0, .int .i64 x]) ?_ rfl ?_
    · simp [results, Tryz.results15, go_sem]
    have e0 : whereE S L h = x := by unfold whereE; rw [← HX.out, if_pos HNE.out]
    have e1 : whereA S L h = [] := if_neg (by rw [e0]; exact HNE.out)
    refine ⟨⟨none, 0⟩, by rw [e1, e0]; rfl, ?_, HB.out⟩
    rw [e1]; exact rowS_nil _ _ _
  · have hd : ((0 : Int) != 0) = false := rfl
    have HV := Lib.hid hV; have H0 := Lib.hid h0
    have HB := Lib.hid (below_ext HE1.out (hV.bel.mono (Nat.le_refl _)))
    clear h0 hV hO
    rcases (Bool.eq_false_or_eq_true (outB h 0 2400)).symm with ho | ho
    case inr =>
      have HO := Lib.hid ho
      go_wp2_with (go_at_call 33; (with_reducible refine (out_any _ _ _ _).mono ?_); rintro e w' ⟨rfl, rfl⟩)
      refine bodyPost_ret (v := .tuple #[.slice none 0 0, .int .i64 7]) ?_ rfl ?_
      · simp [results, Tryz.results15, go_sem]
      have e0 : whereE S L h = 7 := by unfold whereE; rw [if_neg (by rw [H0.out]; decide), if_pos (by have := HO.out; rw [outB_in] at this; simpa using this)]
      have e1 : whereA S L h = [] := if_neg (by rw [e0]; decide)
      refine ⟨⟨none, 0⟩, by rw [e1, e0]; rfl, ?_, HB.out⟩
      rw [e1]; exact rowS_nil _ _ _
    have e0 : whereE S L h = 0 := by unfold whereE; rw [if_neg (by rw [H0.out]; decide), if_neg (by have := ho; rw [outB_in] at this; simpa using this)]
    have e1 : whereA S L h = whereV S (playV S L).1 h := if_pos e0
    have HE0 := Lib.hid e0; have HE1' := Lib.hid e1
    clear e0 e1
    have hck := (movedE_ok H0.out).1
    have hpl := played (movedE_ok H0.out).2.2 (Nat.le_refl _)
    have hll := (movedE_ok H0.out).2.1
    have HC := Lib.hid hck; have HPL := Lib.hid hpl
    have hpp := hpl.le
    clear hck hpl
    go_wp2_with (go_at_call 33; (with_reducible refine (out_any _ _ _ _).mono ?_); rintro e w' ⟨rfl, rfl⟩)
    refine (where_any HV.out.at_ HC.out.len.2.1 (fun m' h' => (mvE_iff.1 (HPL.out.kept.valid m' h')).2.1) (Nat.le_trans hpp hll)).mono ?_
    rintro e w3 ⟨g, cap, rfl, hO3, hb3⟩
    have HO3 := Lib.hid hO3
    have HB3 := Lib.hid (below_ext HB.out hb3)
    clear hO3 hb3
    go_wp2_with (fail)
    refine bodyPost_ret (v := .tuple #[.slice (some ⟨g, 0, none⟩) S.cans.length cap, .int .i64 0]) ?_ rfl ?_
    · simp [results, Tryz.results15, go_sem]
    have hl : (whereV S (playV S L).1 h).length = S.cans.length := whereV_len _ _ _
    refine ⟨⟨some ⟨g, 0, none⟩, cap⟩, by rw [HE1'.out, HE0.out, hl], ?_, HB3.out⟩
    rw [HE1'.out]
    show RowS _ _ 1 _ _
    rw [hl]
    obtain ⟨⟨a', c'⟩, h1, h2⟩ := HO3.out.sl
    cases h1
    exact h2
end Go.Proofs.YtfpaihjcbpaneaaGreatDoor
namespace Go.Proofs.YtfpaihjcbpaneaaGreatDoor.D
set_option linter.unusedVariables false
set_option linter.unusedSimpArgs false
/-- A day of which r hours were seen: its temperatures behind the last one are still to come. -/
def dayX (S : Site) (M : List Mv) (c d r : Nat) : Day := ⟨(dayJ S M c d (r - 1)).tlo, (dayJ S M c d (r - 1)).thi, (dayJ S M c d r).dlo, (dayJ S M c d r).dhi⟩
def preD (S : Site) (M : List Mv) (c d : Nat) : List Day := (List.range d).map fun d => dayJ S M c d 24
theorem preD_succ {S : Site} {M : List Mv} {c d : Nat} : preD S M c (d + 1) = preD S M c d ++ [dayJ S M c d 24] := by
  unfold preD; rw [List.range_succ, List.map_append]; rfl
theorem preD_len {S : Site} {M : List Mv} {c d : Nat} : (preD S M c d).length = d := by simp [preD]
def dmp (S : Site) (M : List Mv) (c j : Nat) : Span := ⟨(rmAt S M c (j : Int)).dlo, (rmAt S M c (j : Int)).dhi⟩
def wideS (a b : Span) : Span := ⟨min a.lo b.lo, max a.hi b.hi⟩
/-- What is known of the days behind j hours. -/
def ClL (S : Site) (M : List Mv) (c j : Nat) (L : List Day) : Prop := (j = 0 ∧ L = []) ∨ ∃ d r, 1 ≤ r ∧ r ≤ 24 ∧ j = d * 24 + r ∧ L = preD S M c d ++ [dayX S M c d r]
def dayW (x : Day) (t d : Span) : Day := ⟨(wideS ⟨x.tlo, x.thi⟩ t).lo, (wideS ⟨x.tlo, x.thi⟩ t).hi, (wideS ⟨x.dlo, x.dhi⟩ d).lo, (wideS ⟨x.dlo, x.dhi⟩ d).hi⟩
theorem dayX_next {S : Site} {M : List Mv} {c d r : Nat} (h1 : 1 ≤ r) : dayW (dayX S M c d r) (ownT S M c (d * 24 + r)) (dmp S M c (d * 24 + r)) = dayX S M c d (r + 1) := by
  obtain ⟨q, rfl⟩ : ∃ q, r = q + 1 := ⟨r - 1, by omega⟩
  rfl
theorem dayX_close {S : Site} {M : List Mv} {c d : Nat} : (⟨(wideS ⟨(dayX S M c d 24).tlo, (dayX S M c d 24).thi⟩ (ownT S M c (d * 24 + 24))).lo, (wideS ⟨(dayX S M c d 24).tlo, (dayX S M c d 24).thi⟩ (ownT S M c (d * 24 + 24))).hi, (dayX S M c d 24).dlo, (dayX S M c d 24).dhi⟩ : Day) = dayJ S M c d 24 := rfl
theorem dayX_first {S : Site} {M : List Mv} {c d : Nat} : dayW ⟨(ownT S M c (d * 24)).lo, (ownT S M c (d * 24)).hi, (dmp S M c (d * 24)).lo, (dmp S M c (d * 24)).hi⟩ (ownT S M c (d * 24)) (dmp S M c (d * 24)) = dayX S M c d 1 := by
  unfold dayW wideS dayX
  simp only [Int.min_self, Int.max_self, Nat.sub_self, dayJ, dmp, Nat.add_zero]
end Go.Proofs.YtfpaihjcbpaneaaGreatDoor.D
namespace Go.Proofs.YtfpaihjcbpaneaaGreatDoor
open Go.RowKit D
set_option linter.unusedVariables false
set_option linter.unusedSimpArgs false
attribute [local go_sem high] run_minI run_maxI
attribute [local go_sem] upon2 cls_cell cls_frozen forall_const exists_eq_left'
attribute [local go_sem] FirstUpon Oper.semAt_some
theorem elDay : Elem Tryz.prog 31 79 (.agg #[.int .i64 0, .int .i64 0, .int .i64 0, .int .i64 0]) 4 32 := ⟨by kernel_rfl, by kernel_rfl, rfl, by omega, by omega⟩
theorem bp_nm {P : Program} {fn : Func} {R : Ending → World → Prop} {e : Exit} {a : Act} {w : World} (h : ∀ w0, w0 = w → bodyPost P fn R e a w0) : bodyPost P fn R e a w := h w rfl
set_option maxRecDepth 100000 in
set_option maxHeartbeats 2000000 in
theorem wide_any (a b : Span) (w : World) : Calls Tryz.prog 35 #[.agg #[.int .i64 a.lo, .int .i64 a.hi], .agg #[.int .i64 b.lo, .int .i64 b.hi]] w fun e w' => e = .returned (.agg #[.int .i64 (wideS a b).lo, .int .i64 (wideS a b).hi]) ∧ Below w.heap.size w w' := by
  go_enter Tryz.func35, Tryz.ntmps35
  go_wp2_with (fail)
  refine bp_nm ?_
  intro w1 h1
  obtain ⟨b2, hb2⟩ : ∃ n, n = w.heap.size + 1 + 1 := ⟨_, rfl⟩
  have k0 : w1.heap[b2]? = some (.cells #[.int .i64 (min a.lo b.lo), .int .i64 (max a.hi b.hi)] 25 (0, 0)) := by rw [h1, hb2]; exact blk_new' _ _ (by simp)
  have hB : Below w.heap.size w w1 := by rw [h1]; exact ext_trans (ext_trans (below_alloc' _ _) (below_alloc' _ _)) (below_alloc' _ _)
  rw [← hb2]
  clear h1 hb2
  refine bodyPost_ret (v := .agg #[.int .i64 (min a.lo b.lo), .int .i64 (max a.hi b.hi)]) ?_ rfl ⟨rfl, hB⟩
  have zc := cell_blk k0
  have zf := frz_blk k0
  simp [results, Tryz.results35, go_sem, zc]
def climA (S : Site) (L : List Mv) (c d : Int) : List Day := if climE S L c d = 0 then climV S (playV S L).1 c.toNat d.toNat else []
def ClimOut (w : World) (S : Site) (L : List Mv) (c d : Int) (e : Ending) (w' : World) : Prop :=
  ∃ s : Sl, e = .returned (.tuple #[.slice s.a (climA S L c d).length s.cap, .int .i64 (climE S L c d)]) ∧ RowS w' s 4 (climA S L c d).length (dyC (climA S L c d)) ∧ Below w.heap.size w w'
/-- Climates is left with an error. -/
theorem climNo {w W : World} {S : Site} {L : List Mv} {c d e : Int} {n8 : Nat} {T : Array Value} (hx : climE S L c d = e) (h0 : e ≠ 0) (hB : Below w.heap.size w W) (l8 : w.heap.size ≤ n8)
    (x8 : ∃ v, W.heap[n8]? = some (.cells #[v] 31 (0, 0))) (t8 : T.getD 8 undef = .pointer (some ⟨n8, 0, none⟩)) (t9 : T.getD 9 undef = .int .i64 e) :
    bodyPostM Fence.wide 0 Tryz.prog Tryz.f7 (ClimOut w S L c d) .ret { tmps := T, defers := [] } (W.setCell ⟨n8, 0, none⟩ (.slice none 0 0)) := by
  obtain ⟨v, x8⟩ := x8
  have y8 := Eq.trans (blk_set x8 0 (.slice none 0 0)) rfl
  have c8 := cell_blk y8
  have u8 : T[8]?.getD undef = .pointer (some ⟨n8, 0, none⟩) := by rw [← t8, Array.getD_eq_getD_getElem?]
  have u9 : T[9]?.getD undef = .int .i64 e := by rw [← t9, Array.getD_eq_getD_getElem?]
  have e1 : climA S L c d = [] := if_neg (by rw [hx]; exact h0)
  refine ⟨.tuple #[.slice none 0 0, .int .i64 e], ?_, ⟨none, 0⟩, by rw [e1, hx]; rfl, by rw [e1]; exact rowS_nil _ _ _, below_set hB l8⟩
  simp [results, Tryz.results7, go_sem, c8, t8, t9, u8, u9]
/-- Between two rounds of Climates. -/
structure ClSt (S : Site) (s : SSl) (kk : Sl) (M : List Mv) (c days b n7 n8 n10 n12 : Nat) (w w3 : World) (W : World) (j : Nat) : Prop where
  vb : W.heap[b]? = some (Obj.cells #[.slice s.r.a S.rooms.length s.r.cap, .slice s.c.a S.cans.length s.c.cap, .int .i64 S.rlo, .int .i64 S.rhi, .slice s.p.a S.steps.length s.p.cap, (.slice kk.a M.length kk.cap)] 76)
  bel : Below w.heap.size w W
  size : w3.heap.size ≤ W.heap.size
  le : j ≤ days * 24
  box7 : W.heap[n7]? = some (.cells #[.int .i64 (days : Int)] 3 (0, 0))
  box10 : W.heap[n10]? = some (.cells #[.pointer (some ⟨b, 0, none⟩)] 66 (0, 0))
  hour : W.heap[n12]? = some (.cells #[.int .i64 (j : Int)] 3 (0, 0))
  l : ∃ L : List Day, ClL S M c j L ∧ ∃ sl : Sl, W.heap[n8]? = some (.cells #[.slice sl.a L.length sl.cap] 31 (0, 0)) ∧ OwnR W w3.heap.size 79 4 (.slice sl.a L.length sl.cap) L.length (dyC L)
theorem ClSt.sd {S : Site} {s : SSl} {kk : Sl} {M : List Mv} {c days b n7 n8 n10 n12 : Nat} {w w3 W W' : World} {j B : Nat} (h : ClSt S s kk M c days b n7 n8 n10 n12 w w3 W j) (hs : Sd B [25] W W') (hB : w.heap.size ≤ B) : ClSt S s kk M c days b n7 n8 n10 n12 w w3 W' j := by
  obtain ⟨L, h1, sl, h2, h3⟩ := h.l
  exact ⟨hs.keep _ _ _ _ h.vb (by decide), h.bel.trans (hs.bel.mono hB), Nat.le_trans h.size hs.bel.size, h.le, hs.keep _ _ _ _ h.box7 (by decide), hs.keep _ _ _ _ h.box10 (by decide), hs.keep _ _ _ _ h.hour (by decide), L, h1, sl, hs.keep _ _ _ _ h2 (by decide), h3.sd hs (by decide)⟩
/-- What the rounds turn. -/
def clmT (N n8 n12 : Nat) (g : Nat) (t : TypeId) : Prop := g = n8 ∨ g = n12 ∨ (N ≤ g ∧ t = 79)
theorem HrAt.bwO {S : Site} {s : SSl} {b : Nat} {M : List Mv} {k : Sl} {b1 b2 c N n8 n12 : Nat} {w wq w2 W W' : World} (hs : SiteAt w S s) (hV : VOwn wq S s b M k w2) (x8 : w2.heap[n8]? = some (.cells #[.slice none 0 0] 31 (0, 0))) (l12 : w2.heap.size ≤ n12) (lN : w2.heap.size ≤ N)
    (h : HrAt S s b M k b1 b2 c W) (hb : Bw w.heap.size (clmT N n8 n12) W W') (h1 : b1 < N ∧ b1 ≠ n8 ∧ b1 ≠ n12) (h2 : b2 < N ∧ b2 ≠ n8 ∧ b2 ≠ n12) : HrAt S s b M k b1 b2 c W' := by
  have key : ∀ g o, g < N → g ≠ n8 → g ≠ n12 → W.heap[g]? = some o → W'.heap[g]? = some o := fun g o hg n1 n2 ho => hb.keep g o ho (fun c e f _ ht => by rcases ht with h | h | h <;> omega)
  have hbl := blk_lt hV.blk
  have hb8 : b ≠ n8 := fun e => by
    have := hV.blk
    rw [e, x8] at this
    simp at this
  refine ⟨key _ _ h1.1 h1.2.1 h1.2.2 h.box1, key _ _ h2.1 h2.2.1 h2.2.2 h.box2, key _ _ (by omega) hb8 (by omega) h.vlt.blk,
    ⟨RowS.kept h.vlt.site.rm (fun b off ha hn hz => hs.rm.block ha hn hz) hb.bel, RowS.kept h.vlt.site.cn (fun b off ha hn hz => hs.cn.block ha hn hz) hb.bel, RowS.kept h.vlt.site.st (fun b off ha hn hz => hs.st.block ha hn hz) hb.bel, h.vlt.site.rsize, h.vlt.site.csize⟩, ?_⟩
  refine ⟨h.vlt.kept.le, h.vlt.kept.max, fun i j hi hj => ?_⟩
  obtain ⟨g, off, ha, hc⟩ := h.vlt.kept.cell i j hi hj
  obtain ⟨g', off', ha', hc'⟩ := hV.at_.kept.cell i j hi hj
  have e := ha'
  rw [ha] at e
  obtain ⟨rfl, rfl⟩ : g = g' ∧ off = off' := by simpa using e
  have hgl := cell_lt hc'
  dsimp only at hgl
  have hg8 : g ≠ n8 := fun e => by
    rw [e, cell_blk x8] at hc'
    rcases Nat.eq_zero_or_pos (off + i * 3 + j) with h0 | h0
    · rw [h0] at hc'
      have : (Value.slice none 0 0) = mvC M i j := by simpa using hc'
      unfold mvC at this
      split at this <;> cases this
    · have hnone : (#[Value.slice none 0 0] : Array Value)[off + i * 3 + j]? = none := by simp; omega
      rw [hnone] at hc'; cases hc'
  have hgW := cell_lt hc
  dsimp only at hgW
  obtain ⟨o, ho⟩ : ∃ o, W.heap[g]? = some o := ⟨_, Array.getElem?_eq_getElem hgW⟩
  exact ⟨g, off, ha, (World.cell?_of_block (a := ⟨g, off + i * 3 + j, none⟩) ((key g o (by omega) hg8 (by omega) ho).trans ho.symm)).trans hc⟩
theorem dyD_snoc (P : List Day) (x : Day) (i : Nat) : dyD (P ++ [x]) i = if i = P.length then x else if i < P.length then dyD P i else default := by
  unfold dyD
  rw [List.getD_eq_getElem?_getD]
  by_cases h : i = P.length
  · subst h; rw [if_pos rfl]; simp
  · rw [if_neg h]
    by_cases h2 : i < P.length
    · rw [if_pos h2, List.getElem?_append_left h2, List.getD_eq_getElem?_getD]
    · rw [if_neg h2, List.getElem?_eq_none (by simp; omega)]; rfl
/-- The last day is written. -/
theorem own_last {W : World} {B g n cap : Nat} {P : List Day} {x y : Day} (hn : P.length = n) (hO : OwnR W B 79 4 (.slice (some ⟨g, 0, none⟩) (n + 1) cap) (n + 1) (dyC (P ++ [x]))) :
    OwnR ((((W.setCell ⟨g, n * 4, none⟩ (.int .i64 y.tlo)).setCell ⟨g, n * 4 + 1, none⟩ (.int .i64 y.thi)).setCell ⟨g, n * 4 + 2, none⟩ (.int .i64 y.dlo)).setCell ⟨g, n * 4 + 3, none⟩ (.int .i64 y.dhi)) B 79 4 (.slice (some ⟨g, 0, none⟩) (n + 1) cap) (n + 1) (dyC (P ++ [y])) := by
  have h := (((hO.set (i := n) (j := 0) (by omega) (by omega) (.int .i64 y.tlo)).set (i := n) (j := 1) (by omega) (by omega) (.int .i64 y.thi)).set (i := n) (j := 2) (by omega) (by omega) (.int .i64 y.dlo)).set (i := n) (j := 3) (by omega) (by omega) (.int .i64 y.dhi)
  refine OwnR.congr h fun i j hi hj => ?_
  by_cases hin : i = n
  · subst hin
    rcases (by omega : j = 0 ∨ j = 1 ∨ j = 2 ∨ j = 3) with rfl | rfl | rfl | rfl <;> simp [dyC, dyD_snoc, hn]
  · rcases (by omega : j = 0 ∨ j = 1 ∨ j = 2 ∨ j = 3) with rfl | rfl | rfl | rfl <;> simp [dyC, dyD_snoc, hn, hin]
/-- The temperatures of the last day are written. -/
theorem own_last2 {W : World} {B g n cap : Nat} {P : List Day} {x y : Day} (hn : P.length = n) (h2 : y.dlo = x.dlo) (h3 : y.dhi = x.dhi) (hO : OwnR W B 79 4 (.slice (some ⟨g, 0, none⟩) (n + 1) cap) (n + 1) (dyC (P ++ [x]))) :
    OwnR ((W.setCell ⟨g, n * 4, none⟩ (.int .i64 y.tlo)).setCell ⟨g, n * 4 + 1, none⟩ (.int .i64 y.thi)) B 79 4 (.slice (some ⟨g, 0, none⟩) (n + 1) cap) (n + 1) (dyC (P ++ [y])) := by
  have h := (hO.set (i := n) (j := 0) (by omega) (by omega) (.int .i64 y.tlo)).set (i := n) (j := 1) (by omega) (by omega) (.int .i64 y.thi)
  refine OwnR.congr h fun i j hi hj => ?_
  by_cases hin : i = n
  · subst hin
    rcases (by omega : j = 0 ∨ j = 1 ∨ j = 2 ∨ j = 3) with rfl | rfl | rfl | rfl <;> simp [dyC, dyD_snoc, hn, h2, h3]
  · rcases (by omega : j = 0 ∨ j = 1 ∨ j = 2 ∨ j = 3) with rfl | rfl | rfl | rfl <;> simp [dyC, dyD_snoc, hn, hin]
theorem last_cells {W : World} {B g n cap : Nat} {P : List Day} {x : Day} (hn : P.length = n) (hO : OwnR W B 79 4 (.slice (some ⟨g, 0, none⟩) (n + 1) cap) (n + 1) (dyC (P ++ [x]))) :
    (W.cell? ⟨g, n * 4, none⟩ = some (.int .i64 x.tlo) ∧ W.cell? ⟨g, n * 4 + 1, none⟩ = some (.int .i64 x.thi) ∧ W.cell? ⟨g, n * 4 + 2, none⟩ = some (.int .i64 x.dlo) ∧ W.cell? ⟨g, n * 4 + 3, none⟩ = some (.int .i64 x.dhi)) ∧ (∀ o, W.frozen? ⟨g, o, none⟩ = false) ∧ B ≤ g ∧ g < W.heap.size ∧ n + 1 ≤ cap ∧ cap ≤ 9223372036854775807 := by
  rcases hO.forms with ⟨h0, -⟩ | ⟨g', cap', h0, hb, hle, hmx, hr, hf, -⟩
  · cases h0
  · cases h0
    have c := fun j (hj : j < 4) => hr.2 n j (by omega) hj
    simp only [Nat.zero_add] at c
    have e : dyD (P ++ [x]) n = x := by rw [dyD_snoc, if_pos hn.symm]
    have c0 := c 0 (by omega); have c1 := c 1 (by omega); have c2 := c 2 (by omega); have c3 := c 3 (by omega)
    simp only [dyC, e, Nat.add_zero] at c0 c1 c2 c3
    exact ⟨⟨c0, c1, c2, c3⟩, hf, hb, hr.1, hle, hmx⟩
theorem bw_app {B N n8 n12 n : Nat} {w w' : World} {v : Value} {c : Nat → Nat → Value} {o : Obj} (hO : OwnR w N 79 4 v n c) (hg : (w.alloc o).grownBy w' v.ownBlock) (hB : B ≤ w.heap.size) (hN : B ≤ N) : Bw B (clmT N n8 n12) w w' := by
  refine ⟨below_app (Below.refl _ _) (hO.base hN) hB hg, fun g o' ho hno => ?_⟩
  have h1 := blk_alloc ho o
  rw [hg.block g (blk_lt h1) ?_]
  · exact h1
  · intro he
    rcases hO.forms with ⟨rfl, -⟩ | ⟨g', cap, rfl, hb, -, -, -, -, cur, hcur⟩
    · cases he
    · have e : g = g' := by simpa [Value.ownBlock] using he
      subst e
      rw [hcur] at ho
      cases ho
      exact hno _ _ _ rfl (.inr (.inr ⟨hb, rfl⟩))
theorem dyC_snoc {l : List Day} {x : Day} {i j : Nat} (hi : i < l.length + 1) (hj : j < 4) : upd (dyC l) l.length [.int .i64 x.tlo, .int .i64 x.thi, .int .i64 x.dlo, .int .i64 x.dhi] i j = dyC (l ++ [x]) i j := by
  by_cases h : i = l.length
  · subst h
    rw [upd_at]
    rcases (by omega : j = 0 ∨ j = 1 ∨ j = 2 ∨ j = 3) with rfl | rfl | rfl | rfl <;> simp [dyC, dyD_snoc]
  · rw [upd_lt (by omega)]
    have h2 : i < l.length := by omega
    rcases (by omega : j = 0 ∨ j = 1 ∨ j = 2 ∨ j = 3) with rfl | rfl | rfl | rfl <;> simp [dyC, dyD_snoc, h, h2]
/-- The end of a round: the last day is written, the hour counted on. -/
theorem clEnd {S : Site} {s : SSl} {kk : Sl} {M : List Mv} {c days b n7 n8 n10 n12 g n cap j : Nat} {w w3 W Wq : World} {P : List Day} {X Y : Day} (hbw : Bw w.heap.size (clmT w3.heap.size n8 n12) W Wq) (vb : Wq.heap[b]? = some (Obj.cells #[.slice s.r.a S.rooms.length s.r.cap, .slice s.c.a S.cans.length s.c.cap, .int .i64 S.rlo, .int .i64 S.rhi, .slice s.p.a S.steps.length s.p.cap, (.slice kk.a M.length kk.cap)] 76)) (hB : Below w.heap.size w Wq) (hz : w3.heap.size ≤ Wq.heap.size) (hwz : w.heap.size ≤ w3.heap.size)
    (x7 : Wq.heap[n7]? = some (.cells #[.int .i64 (days : Int)] 3 (0, 0))) (x10 : Wq.heap[n10]? = some (.cells #[.pointer (some ⟨b, 0, none⟩)] 66 (0, 0))) (x12 : Wq.heap[n12]? = some (.cells #[.int .i64 (j : Int)] 3 (0, 0)))
    (x8 : Wq.heap[n8]? = some (.cells #[.slice (some ⟨g, 0, none⟩) (n + 1) cap] 31 (0, 0))) (hn : P.length = n) (hO : OwnR Wq w3.heap.size 79 4 (.slice (some ⟨g, 0, none⟩) (n + 1) cap) (n + 1) (dyC (P ++ [X]))) (hcl : ClL S M c (j + 1) (P ++ [Y])) (hle : j + 1 ≤ days * 24)
    (l : b < w3.heap.size ∧ n7 < w3.heap.size ∧ n8 < w3.heap.size ∧ n10 < w3.heap.size ∧ n12 < w3.heap.size ∧ w.heap.size ≤ n12) (ne : n12 ≠ b ∧ n12 ≠ n7 ∧ n12 ≠ n8 ∧ n12 ≠ n10) :
    Bw w.heap.size (clmT w3.heap.size n8 n12) W (((((Wq.setCell ⟨g, n * 4, none⟩ (.int .i64 Y.tlo)).setCell ⟨g, n * 4 + 1, none⟩ (.int .i64 Y.thi)).setCell ⟨g, n * 4 + 2, none⟩ (.int .i64 Y.dlo)).setCell ⟨g, n * 4 + 2 + 1, none⟩ (.int .i64 Y.dhi)).setCell ⟨n12, 0, none⟩ (.int .i64 ((j : Int) + 1))) ∧
    ClSt S s kk M c days b n7 n8 n10 n12 w w3 (((((Wq.setCell ⟨g, n * 4, none⟩ (.int .i64 Y.tlo)).setCell ⟨g, n * 4 + 1, none⟩ (.int .i64 Y.thi)).setCell ⟨g, n * 4 + 2, none⟩ (.int .i64 Y.dlo)).setCell ⟨g, n * 4 + 2 + 1, none⟩ (.int .i64 Y.dhi)).setCell ⟨n12, 0, none⟩ (.int .i64 ((j : Int) + 1))) (j + 1) := by
  obtain ⟨-, -, hgB, -⟩ := last_cells hn hO
  obtain ⟨cur, xg⟩ := ownR_cells hO (k := g) rfl
  have hT : clmT w3.heap.size n8 n12 g 79 := .inr (.inr ⟨hgB, rfl⟩)
  have hT12 : clmT w3.heap.size n8 n12 n12 3 := .inr (.inl rfl)
  have k : ∀ {a : Nat} {o : Obj}, Wq.heap[a]? = some o → a ≠ g → ((((Wq.setCell ⟨g, n * 4, none⟩ (.int .i64 Y.tlo)).setCell ⟨g, n * 4 + 1, none⟩ (.int .i64 Y.thi)).setCell ⟨g, n * 4 + 2, none⟩ (.int .i64 Y.dlo)).setCell ⟨g, n * 4 + 2 + 1, none⟩ (.int .i64 Y.dhi)).heap[a]? = some o := fun h hg => blk_set_ne (blk_set_ne (blk_set_ne (blk_set_ne h (Ne.symm hg)) (Ne.symm hg)) (Ne.symm hg)) (Ne.symm hg)
  have b1 : Bw w.heap.size (clmT w3.heap.size n8 n12) Wq ((((Wq.setCell ⟨g, n * 4, none⟩ (.int .i64 Y.tlo)).setCell ⟨g, n * 4 + 1, none⟩ (.int .i64 Y.thi)).setCell ⟨g, n * 4 + 2, none⟩ (.int .i64 Y.dlo)).setCell ⟨g, n * 4 + 2 + 1, none⟩ (.int .i64 Y.dhi)) :=
    (((Bw.set xg hT (by omega) _).trans (Bw.set (blk_set xg _ _) hT (by omega) _)).trans (Bw.set (blk_set (blk_set xg _ _) _ _) hT (by omega) _)).trans (Bw.set (blk_set (blk_set (blk_set xg _ _) _ _) _ _) hT (by omega) _)
  have b2 := b1.trans (Bw.set (o := 0) (k x12 (by omega)) hT12 l.2.2.2.2.2 (.int .i64 ((j : Int) + 1)))
  have hs : Sd w3.heap.size [3] ((((Wq.setCell ⟨g, n * 4, none⟩ (.int .i64 Y.tlo)).setCell ⟨g, n * 4 + 1, none⟩ (.int .i64 Y.thi)).setCell ⟨g, n * 4 + 2, none⟩ (.int .i64 Y.dlo)).setCell ⟨g, n * 4 + 2 + 1, none⟩ (.int .i64 Y.dhi)) ((((Wq.setCell ⟨g, n * 4, none⟩ (.int .i64 Y.tlo)).setCell ⟨g, n * 4 + 1, none⟩ (.int .i64 Y.thi)).setCell ⟨g, n * 4 + 2, none⟩ (.int .i64 Y.dlo)).setCell ⟨g, n * 4 + 2 + 1, none⟩ (.int .i64 Y.dhi)) := Sd.refl _ _ _
  refine ⟨hbw.trans b2, blk_set_ne (k vb (by omega)) ne.1, hB.trans b2.bel, Nat.le_trans hz b2.bel.size, hle, blk_set_ne (k x7 (by omega)) ne.2.1, blk_set_ne (k x10 (by omega)) ne.2.2.2, ?_, P ++ [Y], hcl, ⟨some ⟨g, 0, none⟩, cap⟩, ?_, ?_⟩
  · have e : (((j + 1 : Nat) : Int)) = (j : Int) + 1 := by omega
    rw [e]; exact Eq.trans (blk_set (k x12 (by omega)) 0 _) rfl
  · rw [List.length_append, List.length_singleton, hn]; exact blk_set_ne (k x8 (by omega)) ne.2.2.1
  · rw [List.length_append, List.length_singleton, hn]
    exact OwnR.sd (Sd.set (B := w.heap.size) (ts := [3]) (k x12 (by omega)) (by simp) l.2.2.2.2.2 _) (own_last hn hO) (by decide)
set_option maxRecDepth 100000 in
set_option maxHeartbeats 8000000 in
theorem clim_any {S : Site} {s : SSl} {L : List Mv} {sl : Sl} {c d : Int} {w : World} (hS : SiteAt w S s) (hL : MovesS w sl L) (hm : MaxAt w) :
    Calls Tryz.prog 7 #[.agg #[.slice s.r.a S.rooms.length s.r.cap, .slice s.c.a S.cans.length s.c.cap, .int .i64 S.rlo, .int .i64 S.rhi, .slice s.p.a S.steps.length s.p.cap], .slice sl.a L.length sl.cap, .int .i64 c, .int .i64 d] w (ClimOut w S L c d) := by
  have HS := Lib.hid hS; have HL := Lib.hid hL; have HM := Lib.hid hm
  have hcl := hS.cn.le; have hcm := hS.cn.max
  clear hS hL hm
  refine calls_of_wp_marks Tryz.func7 rfl ?_
  simp only [Tryz.ntmps7, List.size_toArray, List.length_cons, List.length_nil, Nat.reduceAdd, Nat.reduceSub, Array.replicate_succ, Array.replicate_zero, List.push_toArray, List.append_toArray, List.nil_append, List.cons_append]
  go_wp2_with (fail)
  refine calls_name ?_
  intro w1 hw1
  obtain ⟨n4, hn4⟩ : ∃ n, n = w.heap.size := ⟨_, rfl⟩
  obtain ⟨n7, hn7⟩ : ∃ n, n = n4 + 1 := ⟨_, rfl⟩
  obtain ⟨n8, hn8⟩ : ∃ n, n = n7 + 1 := ⟨_, rfl⟩
  have hE1 : Ext2 w w1 := by rw [hw1]; exact ext_trans (ext_trans (below_alloc' _ _) (below_alloc' _ _)) (below_alloc' _ _)
  have x4 : w1.heap[n4]? = some (Obj.cells #[.slice s.r.a S.rooms.length s.r.cap, .slice s.c.a S.cans.length s.c.cap, .int .i64 S.rlo, .int .i64 S.rhi, .slice s.p.a S.steps.length s.p.cap] 28) := by rw [hw1, hn4]; exact blk_alloc (blk_alloc (blk_new _ _) _) _
  have x7 : w1.heap[n7]? = some (.cells #[.int .i64 d] 3 (0, 0)) := by rw [hw1, hn7, hn4]; exact blk_alloc (blk_new' _ _ (by simp)) _
  have x8 : w1.heap[n8]? = some (.cells #[.slice none 0 0] 31 (0, 0)) := by rw [hw1, hn8, hn7, hn4]; exact blk_new' _ _ (by simp)
  have hsz : w1.heap.size = w.heap.size + 3 := by rw [hw1]; simp
  rw [← hn4, ← hn7, ← hn8]
  have l4 : w.heap.size ≤ n4 := by omega
  have l47 : n4 < n7 := by omega
  have l78 : n7 < n8 := by omega
  have l8 : n8 < w1.heap.size := by omega
  clear hw1 hn4 hn7 hn8 hsz
  refine (play_any (HS.out.below hE1) (HL.out.below hE1) (HM.out.below hE1)).mono ?_
  have HE1 := Lib.hid hE1; have X4 := Lib.hid x4; have X7 := Lib.hid x7; have X8 := Lib.hid x8
  clear hE1 x4 x7 x8
  rintro e w2 (⟨hne, rfl, hb⟩ | ⟨h0, b, k, v, rfl, hV, hO⟩)
  · obtain ⟨x, hx⟩ : ∃ x, x = movedE S L := ⟨_, rfl⟩
    rw [← hx] at hne ⊢
    have hd : (x != 0) = true := by simp [hne]
    have HB := Lib.hid (ext_trans HE1.out hb); have HX := Lib.hid hx; have HNE := Lib.hid hne
    have Y8 := Lib.hid (Ext2.blk hb X8.out)
    have ll := hb.size
    have x8 := blk_alloc Y8.out (Obj.cells #[.pointer none] 66 (0, 0))
    have q8c := cell_blk x8
    have q8f := frz_blk x8
    clear hb hx hne x8
    go_wp2_with (fail)
    exact climNo (e := x) (by unfold climE playE; rw [if_pos (by rw [if_pos (by rw [← HX.out]; exact HNE.out)]; rw [← HX.out]; exact HNE.out), if_pos (by rw [← HX.out]; exact HNE.out), HX.out]) HNE.out (ext_trans HB.out (below_alloc' _ _)) (by omega) ⟨_, blk_alloc Y8.out _⟩ rfl rfl
  · have hd : ((0 : Int) != 0) = false := rfl
    have HV := Lib.hid hV; have H0 := Lib.hid h0
    have HB := Lib.hid (below_ext HE1.out (hV.bel.mono (Nat.le_refl _)))
    have Y4 := Lib.hid (below_blk hV.bel X4.out (blk_lt X4.out)); have Y7 := Lib.hid (below_blk hV.bel X7.out (blk_lt X7.out)); have Y8 := Lib.hid (below_blk hV.bel X8.out (blk_lt X8.out))
    have ll := hV.bel.size
    clear h0 hV hO
    have w4' : IntKind.i64.wrap ((S.cans.length : Int) - 1) = (S.cans.length : Int) - 1 := IntWalk.i64_in _ (by omega)
    obtain ⟨o, ho⟩ : ∃ o, o = Obj.cells #[.pointer (some ⟨b, 0, none⟩)] 66 (0, 0) := ⟨_, rfl⟩
    have x8 := blk_alloc Y8.out (Obj.cells #[.pointer (some ⟨b, 0, none⟩)] 66 (0, 0))
    have x4 := blk_alloc Y4.out (Obj.cells #[.pointer (some ⟨b, 0, none⟩)] 66 (0, 0))
    have x7 := blk_alloc Y7.out (Obj.cells #[.pointer (some ⟨b, 0, none⟩)] 66 (0, 0))
    have q8c := cell_blk x8
    have q8f := frz_blk x8
    have q4c := cell_blk x4
    have q4f := frz_blk x4
    have q7c := cell_blk x7
    have q7f := frz_blk x7
    clear x4 x7 x8 ho
    have HPE : Hid (playE S L c = if inB c 0 ((S.cans.length : Int) - 1) = false then 4 else 0) := Lib.hid (by unfold playE; rw [if_neg (by rw [H0.out]; decide)])
    rcases (Bool.eq_false_or_eq_true (outB c 0 ((S.cans.length : Int) - 1))).symm with ho1 | ho1
    case inr =>
      have HO := Lib.hid ho1
      go_wp2_with (go_at_call 33; (with_reducible refine (out_any _ _ _ _).mono ?_); rintro e w' ⟨rfl, rfl⟩)
      have e1 : playE S L c = 4 := by rw [HPE.out, if_pos (by have := HO.out; rw [outB_in] at this; simpa using this)]
      exact climNo (e := 4) (by unfold climE; rw [if_pos (by rw [e1]; decide), e1]) (by decide) (ext_trans HB.out (below_alloc' _ _)) (by omega) ⟨_, blk_alloc Y8.out _⟩ rfl rfl
    have HIC : Hid (inB c 0 ((S.cans.length : Int) - 1) = true) := Lib.hid (by have := ho1; rw [outB_in] at this; simpa using this)
    rcases (Bool.eq_false_or_eq_true (outB d 0 100)).symm with ho2 | ho2
    case inr =>
      have HO := Lib.hid ho2
      go_wp2_with (go_at_call 33; (with_reducible refine (out_any _ _ _ _).mono ?_); rintro e w' ⟨rfl, rfl⟩)
      have e1 : playE S L c = 0 := by rw [HPE.out, if_neg (by rw [HIC.out]; decide)]
      exact climNo (e := 7) (by unfold climE; rw [if_neg (by rw [e1]; decide), if_pos (by have := HO.out; rw [outB_in] at this; simpa using this)]) (by decide) (ext_trans HB.out (below_alloc' _ _)) (by omega) ⟨_, blk_alloc Y8.out _⟩ rfl rfl
    have HID : Hid (inB d 0 100 = true) := Lib.hid (by have := ho2; rw [outB_in] at this; simpa using this)
    go_wp2_with (go_at_call 33; (with_reducible refine (out_any _ _ _ _).mono ?_); rintro e w' ⟨rfl, rfl⟩)
    obtain ⟨hc0, hc1⟩ := inB_iff.1 HIC.out
    obtain ⟨hd0, hd1⟩ := inB_iff.1 HID.out
    obtain ⟨cn, hcn⟩ : ∃ n : Nat, n = c.toNat := ⟨_, rfl⟩
    obtain ⟨days, hdn⟩ : ∃ n : Nat, n = d.toNat := ⟨_, rfl⟩
    have ec : c = (cn : Int) := by omega
    have ed : d = (days : Int) := by omega
    have hcl2 : cn < S.cans.length := by omega
    have hdl : days ≤ 100 := by omega
    have HCN := Lib.hid hcn; have HDN := Lib.hid hdn; have HED := Lib.hid ed
    refine (hours_any _ _ _).mono ?_
    rintro e w3 ⟨rfl, hw3⟩
    obtain ⟨n10, hn10⟩ : ∃ n, n = w2.heap.size := ⟨_, rfl⟩
    obtain ⟨n12, hn12⟩ : ∃ n, n = n10 + 1 := ⟨_, rfl⟩
    obtain ⟨b1, hb1⟩ : ∃ n, n = n12 + 1 := ⟨_, rfl⟩
    obtain ⟨b2, hb2⟩ : ∃ n, n = b1 + 1 := ⟨_, rfl⟩
    rw [ec] at hw3
    have hE3 : Ext2 w2 w3 := by rw [hw3]; exact (four_blk w2 _ _ _ _).2.2.2.2.2
    have x10 : w3.heap[n10]? = some (.cells #[.pointer (some ⟨b, 0, none⟩)] 66 (0, 0)) := by rw [hw3, hn10]; exact (four_blk w2 _ _ _ _).1
    have x12 : w3.heap[n12]? = some (.cells #[.int .i64 0] 3 (0, 0)) := by rw [hw3, hn12, hn10]; exact (four_blk w2 _ _ _ _).2.1
    have y1 : w3.heap[b1]? = some (.cells #[.pointer (some ⟨b, 0, none⟩)] 66 (0, 0)) := by rw [hw3, hb1, hn12, hn10]; exact (four_blk w2 _ _ _ _).2.2.1
    have y2 : w3.heap[b2]? = some (.cells #[.int .i64 (cn : Int)] 3 (0, 0)) := by rw [hw3, hb2, hb1, hn12, hn10]; exact (four_blk w2 _ _ _ _).2.2.2.1
    have hsz : w3.heap.size = n10 + 4 := by rw [hw3, hn10]; simp
    simp only [World.size_alloc]
    rw [← hn10, ← hn12, ← hb1, ← hb2]
    have hck := (movedE_ok H0.out).1
    have hpl := played (movedE_ok H0.out).2.2 (Nat.le_refl _)
    have hll60 := (movedE_ok H0.out).2.1
    obtain ⟨M, hM⟩ : ∃ M, M = (playV S L).1 := ⟨_, rfl⟩
    have hMI : MvsIn S M := by rw [hM]; exact MvsIn.of_kept hpl.kept
    have hMl : M.length ≤ 60 := by rw [hM]; exact Nat.le_trans hpl.le hll60
    have hVM := HV.out
    rw [← hM] at hVM
    have HVM := Lib.hid hVM
    have HMM := Lib.hid hM; have HC := Lib.hid hck; have HMI := Lib.hid hMI
    have hm : HrAt S s b M k b1 b2 cn w3 := ⟨y1, y2, hVM.at_.below hE3⟩
    have HH := Lib.hid hm
    have hB3 : Below w.heap.size w w3 := ext_trans HB.out hE3
    have HB3 := Lib.hid hB3; have HE23 := Lib.hid hE3
    have l2n : w2.heap.size ≤ n10 := by omega
    have Z7 := Lib.hid (Ext2.blk hE3 Y7.out); have Z8 := Lib.hid (Ext2.blk hE3 Y8.out)
    have X10 := Lib.hid x10; have X12 := Lib.hid x12
    have lbb : b < n10 := by have := blk_lt hVM.blk; omega
    have l8n : n8 < n10 := by have := blk_lt Y8.out; omega
    have l1012 : n10 < n12 := by omega
    have l12b : n12 < b1 := by omega
    have lb12 : b1 < b2 := by omega
    have lb2 : b2 < w3.heap.size := by omega
    clear hw3 y1 y2 hm hE3 hB3 hsz hb2 hb1 hn12 hn10 hM hVM hck hpl hll60 q8c q8f q4c q4f q7c q7f hd ho1 ho2 w4' hcn hdn ec ed hc0 hc1 hd0 hd1 x10 x12
    go_wp2_with (fail)
    refine wp_aname ?_
    intro a0 ha0
    refine st_out (B9 := w3.heap.size) (gf := 68) (lb := #[.pointer (some ⟨b1, 0, none⟩), .pointer (some ⟨b2, 0, none⟩)]) (by rw [ha0]; rfl) (enters_of Tryz.func68 (by kernel_rfl) rfl) (hoursIter (s := s) (b := b) (b1 := b1) (b2 := b2) (kk := k) (B := w.heap.size) HC.out HMI.out.each HMI.out.sort hcl2 hMl (by omega)) (ts := clmT w3.heap.size n8 n12)
      (fun W1 W2 h1 h2 => h1.bwO HS.out HVM.out Y8.out (by omega) HE23.out.size h2 ⟨by omega, by omega, by omega⟩ ⟨by omega, by omega, by omega⟩) (fun g hg t ht => by
        have ht' := List.mem_singleton.1 ht
        subst ht'
        rintro (h | h | h)
        · omega
        · omega
        · exact absurd h.2 (by decide)) (fun _ => rfl)
      (fun j W => ClSt S s k M cn days b n7 n8 n10 n12 w w3 W j)
      (fun j a' W => ∃ b13, W.heap[b13]? = some (Obj.cells #[.int .i64 (ownT S M cn j).lo, .int .i64 (ownT S M cn j).hi] 25) ∧ w3.heap.size ≤ b13 ∧ ClSt S s k M cn days b n7 n8 n10 n12 w w3 W j ∧ a' = { tmps := (((a0.tmps.setIfInBounds 42 (.agg #[.int .i64 (ownT S M cn j).lo, .int .i64 (ownT S M cn j).hi])).setIfInBounds 43 (.int .i64 (atV S M cn (j : Int)))).setIfInBounds 13 (.pointer (some ⟨b13, 0, none⟩))).setIfInBounds 14 (.int .i64 (atV S M cn (j : Int))), defers := [] })
      (fun cd j W => cd = .exit 1 ∧ Below w.heap.size w W ∧ ∃ sl : Sl, W.heap[n8]? = some (.cells #[.slice sl.a days sl.cap] 31 (0, 0)) ∧ OwnR W w3.heap.size 79 4 (.slice sl.a days sl.cap) days (dyC (climV S M cn days))) ?hI ?hJ ?hX ?hBB ?hp0 ?h0 ?h9 ?assign ?body ?done ?stop
    case hI => exact fun j W W' hs hd => hs.sd hd (Nat.le_trans HB3.out.size (Nat.le_refl _))
    case hJ =>
      rintro j a' W W' ⟨b13, h1, h2, h3, h4⟩ hs
      exact ⟨b13, hs.keep _ _ _ _ h1 (by decide), h2, h3.sd (hs.types (fun t ht => by cases ht)) (Nat.le_trans HB3.out.size (Nat.le_refl _)), h4⟩
    case hX =>
      rintro cd j W W' ⟨h0, h1, sl, h2, h3⟩ hs
      exact ⟨h0, h1.trans (hs.bel.mono HB3.out.size), sl, hs.keep _ _ _ _ h2 (by decide), h3.sd hs (by decide)⟩
    case hBB => exact HB3.out.size
    case hp0 => exact fun W hW => HH.out.below hW
    case h0 => exact ⟨Ext2.blk HE23.out HVM.out.blk, HB3.out, Nat.le_refl _, Nat.zero_le _, by rw [← HED.out]; exact Z7.out, X10.out, X12.out, [], .inl ⟨rfl, rfl⟩, ⟨none, 0⟩, Z8.out, own_nil _ _ _ _ _⟩
    case h9 => exact Nat.le_refl _
    case assign =>
      rintro l j W hj hi
      subst ha0
      gi_wp2
      have h6 := hi.size
      have h7 := hi.bel.size
      exact ⟨Bw.ext (below_alloc' _ _) h7, W.heap.size, blk_new _ _, h6, hi.sd (Sd.alloc (B := w.heap.size) (ts := [25]) _ h7) (Nat.le_refl _), by simp only [List.setIfInBounds_toArray, List.set_cons_succ, List.set_cons_zero]⟩
    case body =>
      rintro l j a' W hl hr hj ⟨b13, x13, h13, hS, rfl⟩
      subst ha0
      simp only [List.setIfInBounds_toArray, List.set_cons_succ, List.set_cons_zero]
      obtain ⟨xb, hB, hz, hle, x7, x10, x12, L', hcl, ⟨sa, sc⟩, x8, hO⟩ := hS
      have hra := HC.out.atIn HMI.out.each hcl2 (j : Int)
      obtain ⟨rN, hrN⟩ : ∃ n : Nat, n = (atV S M cn (j : Int)).toNat := ⟨_, rfl⟩
      have erN : atV S M cn (j : Int) = (rN : Int) := by omega
      have hrl : rN < S.rooms.length := by omega
      obtain ⟨bR, oR, haR, hcR⟩ := rm_cells (HS.out.below hB).rm hrl
      have c3 := hcR.c3; have c4 := hcR.c4
      have eD : dmp S M cn j = ⟨(rmD S.rooms rN).dlo, (rmD S.rooms rN).dhi⟩ := by unfold dmp rmAt; rw [← hrN]
      obtain ⟨D, hD⟩ : ∃ D, D = dmp S M cn j := ⟨_, rfl⟩
      rw [← hD] at eD
      have eD1 : (rmD S.rooms rN).dlo = D.lo := by rw [eD]
      have eD2 : (rmD S.rooms rN).dhi = D.hi := by rw [eD]
      rw [eD1] at c3; rw [eD2] at c4
      obtain ⟨T, hT⟩ : ∃ T, T = ownT S M cn j := ⟨_, rfl⟩
      rw [← hT] at x13
      rw [← hT, erN]
      have HD := Lib.hid hD; have HT := Lib.hid hT
      have hrmc := (HS.out.rm).le; have hrmm := (HS.out.rm).max
      have i0 : (0 : Int) ≤ (rN : Int) := by omega
      have i1 : (rN : Int) < (S.rooms.length : Int) := by omega
      rw [haR] at xb
      have wj : IntKind.i64.wrap ((j : Int) + 1) = (j : Int) + 1 := IntWalk.i64_in _ (by omega)
      have wd : IntKind.i64.wrap ((days : Int) * 24) = (days : Int) * 24 := IntWalk.i64_in _ (by omega)
      have HWI : Hid (∀ (a b : Span) (W : World), Calls Tryz.prog 35 #[.agg #[.int .i64 a.lo, .int .i64 a.hi], .agg #[.int .i64 b.lo, .int .i64 b.hi]] W fun e w' => e = .returned (.agg #[.int .i64 (wideS a b).lo, .int .i64 (wideS a b).hi]) ∧ Below W.heap.size W w') := Lib.hid wide_any
      have HB := Lib.hid hB; have XB := Lib.hid xb; have XX7 := Lib.hid x7; have XX10 := Lib.hid x10; have XX12 := Lib.hid x12; have XX13 := Lib.hid x13
      have lb13 := blk_lt x13
      have k7 := blk_lt x7; have k8 := blk_lt x8; have k12 := blk_lt x12
      have m7 : ¬ n7 = W.heap.size := by omega
      have m8 : ¬ n8 = W.heap.size := by omega
      have m12 : ¬ n12 = W.heap.size := by omega
      have m13 : ¬ b13 = W.heap.size := by omega
      have HAR := Lib.hid haR
      clear hcR hra hrN erN eD eD1 eD2 hD hT haR hB
      have HZ := Lib.hid hz
      have hq0 : (j = 0 ∧ L' = []) ∨ (∃ dd, j = dd * 24 + 24 ∧ L' = preD S M cn dd ++ [dayX S M cn dd 24]) ∨ ∃ dd r, 1 ≤ r ∧ r < 24 ∧ j = dd * 24 + r ∧ L' = preD S M cn dd ++ [dayX S M cn dd r] := by
        rcases hcl with h | ⟨dd, r, h1, h2, h3, h4⟩
        · exact .inl h
        · by_cases h24 : r = 24
          · subst h24; exact .inr (.inl ⟨dd, h3, h4⟩)
          · exact .inr (.inr ⟨dd, r, h1, by omega, h3, h4⟩)
      clear hcl
      rcases hq0 with ⟨hj0, hL0⟩ | ⟨dd, hjr, hLr⟩ | ⟨dd, r, hr1, hr2, hjr, hLr⟩
      case inr.inr =>
        have hr24 : r ≠ 24 := by omega
        have hln : (preD S M cn dd).length = dd := preD_len
        have hll : L'.length = dd + 1 := by rw [hLr, List.length_append, List.length_singleton, hln]
        rw [hll] at x8 hO
        rw [hLr] at hO
        obtain ⟨g, cap, hsl, -⟩ := own_some hO (by omega)
        cases hsl
        obtain ⟨⟨d0, d1, d2, d3⟩, df, hgB, hgl, hcap, hcapm⟩ := last_cells hln hO
        have hnx := dayX_next (S := S) (M := M) (c := cn) (d := dd) hr1
        rw [← hjr, ← HT.out, ← HD.out] at hnx
        obtain ⟨X, hX⟩ : ∃ X, X = dayX S M cn dd r := ⟨_, rfl⟩
        rw [← hX] at d0 d1 d2 d3 hO hnx
        have HW1 : Hid (∀ W, Calls Tryz.prog 35 #[.agg #[.int .i64 X.tlo, .int .i64 X.thi], .agg #[.int .i64 T.lo, .int .i64 T.hi]] W fun e w' => e = .returned (.agg #[.int .i64 (dayW X T D).tlo, .int .i64 (dayW X T D).thi]) ∧ Below W.heap.size W w') := Lib.hid fun W => wide_any ⟨X.tlo, X.thi⟩ T W
        have HW2 : Hid (∀ W, Calls Tryz.prog 35 #[.agg #[.int .i64 X.dlo, .int .i64 X.dhi], .agg #[.int .i64 D.lo, .int .i64 D.hi]] W fun e w' => e = .returned (.agg #[.int .i64 (dayW X T D).dlo, .int .i64 (dayW X T D).dhi]) ∧ Below W.heap.size W w') := Lib.hid fun W => wide_any ⟨X.dlo, X.dhi⟩ D W
        obtain ⟨Y, hY⟩ : ∃ Y, Y = dayW X T D := ⟨_, rfl⟩
        rw [← hY] at HW1 HW2 hnx
        have HO := Lib.hid hO; have HNX := Lib.hid hnx
        have HJR := Lib.hid hjr
        have hjd : j + 1 ≤ days * 24 := by omega
        clear hX hY hnx hO hjr
        have hm24 : (j : Int).tmod 24 = (r : Int) := by rw [Int.tmod_eq_emod_of_nonneg (by omega)]; have := HJR.out; omega
        have hb24 : ((r : Int) == 0) = false := by simp; omega
        have hdd : ((j : Int) == (days : Int) * 24) = false := by have := HJR.out; simp; omega
        have i2 : (0 : Int) ≤ (dd : Int) := by omega
        have i3 : (dd : Int) < (dd : Int) + 1 := by omega
        have wn : IntKind.i64.wrap (dd : Int) = (dd : Int) := IntWalk.i64_in _ (by omega)
        have mg : ¬ g = W.heap.size := by omega
        have X8' := Lib.hid x8
        have q7c := cell_blk x7
        have q7f := frz_blk x7
        have q8c := cell_blk x8
        have q8f := frz_blk x8
        have q10c := cell_blk x10
        have q10f := frz_blk x10
        have q12c := cell_blk x12
        have q12f := frz_blk x12
        have q13c := cell_blk x13
        have q13f := frz_blk x13
        have qbc := cell_blk xb
        have qbf := frz_blk xb
        clear x7 x8 x10 x12 x13 xb
        gi_wp2
        refine round_region_ev [1] [0, 2, 3, 4, 5, 6, 7, 8, 9, 10, 11, 12, 13, 14, 15] [] [16, 17, 18, 19] (by kernel_rfl) (by rintro ⟨a_, w_, h_⟩; exact h_) (by kernel_rfl) (by kernel_rfl) (by intro c a d v w h; cases d <;> exact h) ?_
        simp only [picks, List.drop_succ_cons, List.drop_zero]
        repeat (refine wpQ0_step (fun K hK => ?_); go_simp; (refine hK _ ?_; clear hK K))
        refine wpQ0_nil ?_
        repeat ((with_reducible refine wpQ2_step (fun K hK => ?_)); go_simp; first | ((with_reducible refine hK _ ?_); clear hK K) | (apply Exists.intro; refine ⟨fun x => ?_, hK _ ?_⟩; (first | (with_reducible exact HW1.out x.1) | (with_reducible exact HW2.out x.1)); clear hK K))
        refine wpQ2_nil ?_
        refine Events.none_ fun w9 hg9 => ?_
        simp only [picks, List.drop_succ_cons, List.drop_zero]
        have hE9 : Ext2 W w9 := ext_trans (below_alloc' _ _) hg9
        have HO9 := Lib.hid (HO.out.below hE9)
        have HE9 := Lib.hid hE9
        have y12 := Ext2.blk hE9 XX12.out
        have Y12 := Lib.hid y12
        obtain ⟨⟨e0, e1, e2, e3⟩, ef, -, egl, -⟩ := last_cells hln HO9.out
        have ng12 : ¬ g = n12 := by omega
        have n12g : ¬ n12 = g := by omega
        clear q7c q7f q8c q8f q10c q10f q12c q12f q13c q13f qbc qbf d0 d1 d2 d3 df c3 c4 hg9 hE9 HW1 HW2 m7 m8 m12 m13 mg
        have q12c := cell_blk y12
        have q12f := frz_blk y12
        clear y12
        go_wp2_with (fail)
        gi_wp2
        exact clEnd (Bw.ext HE9.out HB.out.size) (HE9.out.blk (by rw [HAR.out]; exact XB.out)) (below_ext HB.out HE9.out) (Nat.le_trans hz HE9.out.size) HB3.out.size (HE9.out.blk XX7.out) (HE9.out.blk XX10.out) Y12.out (HE9.out.blk X8'.out) hln HO9.out (.inr ⟨dd, r + 1, by omega, by omega, by have := HJR.out; omega, by rw [HNX.out]⟩) hjd ⟨by omega, by omega, by omega, by omega, by omega, by omega⟩ ⟨by omega, by omega, by omega, by omega⟩
      case inl =>
        have hm24 : (j : Int).tmod 24 = 0 := by rw [hj0]; rfl
        have hln0 : L'.length = 0 := by rw [hL0]; rfl
        obtain ⟨q, hq⟩ : ∃ q, q = L'.length := ⟨_, rfl⟩
        rw [← hq] at x8 hO
        have HQ0 : Hid (q = 0) := Lib.hid (hq.trans hln0)
        have hq1 : ¬ (0 : Int) < (q : Int) := by have := HQ0.out; omega
        have hq2 : decide ((0 : Int) < (q : Int)) = false := decide_eq_false hq1
        clear hln0 hL0 hq
        have q7c := cell_blk x7
        have q7f := frz_blk x7
        have q8c := cell_blk x8
        have q8f := frz_blk x8
        have q10c := cell_blk x10
        have q10f := frz_blk x10
        have q12c := cell_blk x12
        have q12f := frz_blk x12
        have q13c := cell_blk x13
        have q13f := frz_blk x13
        have qbc := cell_blk xb
        have qbf := frz_blk xb
        have X8' := Lib.hid x8; have HO := Lib.hid hO; have HJ0 := Lib.hid hj0
        clear x7 x8 x10 x12 x13 xb hO hj0
        by_cases hbr : days = 0
        · have hdd : ((j : Int) == (days : Int) * 24) = true := by have := HJ0.out; simp; omega
          have HBR := Lib.hid hbr
          clear hbr
          gi_wp2
          refine ⟨⟨by simp, fun g o hg ho _ => blk_alloc ho _⟩, rfl, below_ext HB.out (below_alloc' _ _), ⟨sa, sc⟩, ?_, ?_⟩
          · rw [HBR.out.trans HQ0.out.symm]; exact blk_alloc X8'.out _
          · rw [HBR.out.trans HQ0.out.symm]; exact (HO.out.below (below_alloc' _ _)).congr fun i' j' hi' _ => absurd hi' (by rw [HQ0.out]; exact Nat.not_lt_zero _)
        · have hdd : ((j : Int) == (days : Int) * 24) = false := by have := HJ0.out; simp; omega
          have hjd : j + 1 ≤ days * 24 := by have := HJ0.out; omega
          have HJQ : Hid (j = q * 24) := Lib.hid (by rw [HJ0.out, HQ0.out])
          have hdds : q ≤ 101 := by have := HQ0.out; omega
          have hn8b : n8 ≠ b := by intro h; have h1 := XB.out; rw [← h, X8'.out] at h1; simp at h1
          clear hbr
          repeat (first | (refine round_region_list (by kernel_rfl) (by rintro ⟨a_, w_, h_⟩; exact h_) ?_) | go_values | gi_guarded | gi_step)
          go_wp2_with (fail)
          repeat (first | (refine round_region_list (by kernel_rfl) (by rintro ⟨a_, w_, h_⟩; exact h_) ?_) | go_values | gi_guarded | gi_step)
          go_wp2_with (fail)
          repeat (first | (refine round_region_list (by kernel_rfl) (by rintro ⟨a_, w_, h_⟩; exact h_) ?_) | go_values | gi_guarded | gi_step)
          go_wp2_with (fail)
          repeat (first | (refine round_region_list (by kernel_rfl) (by rintro ⟨a_, w_, h_⟩; exact h_) ?_) | go_values | gi_guarded | gi_step)
          go_wp2_with (fail)
          repeat (first | (refine round_region_list (by kernel_rfl) (by rintro ⟨a_, w_, h_⟩; exact h_) ?_) | go_values | gi_guarded | gi_step)
          go_wp2_with (fail)
          repeat (first | (refine round_region_list (by kernel_rfl) (by rintro ⟨a_, w_, h_⟩; exact h_) ?_) | go_values | gi_guarded | gi_step)
          have hEA : Ext2 W (W.alloc (Obj.cells #[.int .i64 D.lo, .int .i64 D.hi] 25)) := below_alloc' _ _
          have HOA : Hid (OwnR (W.alloc (Obj.cells #[.int .i64 D.lo, .int .i64 D.hi] 25)) w3.heap.size 79 4 (.slice sa q sc) q (dyC (preD S M cn q))) := Lib.hid ((HO.out.below hEA).congr fun i' j' hi' _ => absurd hi' (by rw [HQ0.out]; exact Nat.not_lt_zero _))
          have X8A := Lib.hid (hEA.blk X8'.out); have X7A := Lib.hid (hEA.blk XX7.out); have X10A := Lib.hid (hEA.blk XX10.out); have X12A := Lib.hid (hEA.blk XX12.out); have X13A := Lib.hid (hEA.blk XX13.out)
          have XBA : Hid ((W.alloc (Obj.cells #[.int .i64 D.lo, .int .i64 D.hi] 25)).heap[b]? = some (Obj.cells #[.slice s.r.a S.rooms.length s.r.cap, .slice s.c.a S.cans.length s.c.cap, .int .i64 S.rlo, .int .i64 S.rhi, .slice s.p.a S.steps.length s.p.cap, (.slice k.a M.length k.cap)] 76)) := Lib.hid (hEA.blk (by rw [HAR.out]; exact XB.out))
          have X15A := Lib.hid (blk_new W (Obj.cells #[.int .i64 D.lo, .int .i64 D.hi] 25))
          have HBA := Lib.hid (below_ext HB.out hEA)
          have HZA : Hid (w3.heap.size ≤ (W.alloc (Obj.cells #[.int .i64 D.lo, .int .i64 D.hi] 25)).heap.size) := Lib.hid (Nat.le_trans HZ.out hEA.size)
          have BWA : Hid (Bw w.heap.size (clmT w3.heap.size n8 n12) W (W.alloc (Obj.cells #[.int .i64 D.lo, .int .i64 D.hi] 25))) := Lib.hid (Bw.ext hEA HB.out.size)
          clear hEA q7c q7f q8c q8f q10c q10f q12c q12f q13c q13f qbc qbf c3 c4
          have hq9 : q ≤ 1000000000 := by omega
          have hsz9 := HBA.out.size
          have x8a := X8A.out; have x13a := X13A.out; have x15a := X15A.out
          have q8c := cell_blk x8a
          have q8f := frz_blk x8a
          have q13c := cell_blk x13a
          have q13f := frz_blk x13a
          have q15c := cell_blk x15a
          have q15f := frz_blk x15a
          clear x8a x13a x15a
          go_wp2_with (at_builtin; refine app_one [.int .i64 T.lo, .int .i64 T.hi, .int .i64 D.lo, .int .i64 D.hi] elDay rfl _ _ rfl w3.heap.size rfl (HOA.out.below (below_alloc' _ _)) _ 1 rfl (blk_new' _ _ (by simp)) (by simp [Value.oneCell']) hq9 (by have := HZA.out; simp only [World.size_alloc, World.size_setCell] at this ⊢; omega) ?_; intro v5 w5 hO5 hg5; obtain ⟨g5, c5, hv5, -⟩ := own_some hO5 (by omega); subst hv5; have HO5 := Lib.hid hO5; have HG5 := Lib.hid hg5; clear hO5 hg5; have z8 := app_blk HOA.out HG5.out X8A.out (by decide); have p8c := cell_blk z8; have p8f := frz_blk z8; clear z8)
          refine wpIn_name ?_
          intro wB hwB
          have z8 := app_blk HOA.out HG5.out X8A.out (by decide)
          have BWB : Hid (Bw w.heap.size (clmT w3.heap.size n8 n12) W wB) := Lib.hid (by rw [hwB]; exact (BWA.out.trans (bw_app HOA.out HG5.out HBA.out.size HB3.out.size)).trans (Bw.set z8 (.inl rfl) (by omega) _))
          have X8B : Hid (wB.heap[n8]? = some (.cells #[.slice (some ⟨g5, 0, none⟩) (q + 1) c5] 31 (0, 0))) := Lib.hid (by rw [hwB]; exact Eq.trans (blk_set z8 0 _) rfl)
          have X12B : Hid (wB.heap[n12]? = some (.cells #[.int .i64 (j : Int)] 3 (0, 0))) := Lib.hid (by rw [hwB]; exact blk_set_ne (app_blk HOA.out HG5.out X12A.out (by decide)) (by omega))
          have X7B : Hid (wB.heap[n7]? = some (.cells #[.int .i64 (days : Int)] 3 (0, 0))) := Lib.hid (by rw [hwB]; exact blk_set_ne (app_blk HOA.out HG5.out X7A.out (by decide)) (by omega))
          have X10B : Hid (wB.heap[n10]? = some (.cells #[.pointer (some ⟨b, 0, none⟩)] 66 (0, 0))) := Lib.hid (by rw [hwB]; exact blk_set_ne (app_blk HOA.out HG5.out X10A.out (by decide)) (by omega))
          have XBB : Hid (wB.heap[b]? = some (Obj.cells #[.slice s.r.a S.rooms.length s.r.cap, .slice s.c.a S.cans.length s.c.cap, .int .i64 S.rlo, .int .i64 S.rhi, .slice s.p.a S.steps.length s.p.cap, (.slice k.a M.length k.cap)] 76)) := Lib.hid (by rw [hwB]; exact blk_set_ne (app_blk HOA.out HG5.out XBA.out (by decide)) hn8b)
          have X13B : Hid (wB.heap[b13]? = some (Obj.cells #[.int .i64 T.lo, .int .i64 T.hi] 25)) := Lib.hid (by rw [hwB]; exact blk_set_ne (app_blk HOA.out HG5.out X13A.out (by decide)) (by omega))
          have X15B : Hid (wB.heap[W.heap.size]? = some (Obj.cells #[.int .i64 D.lo, .int .i64 D.hi] 25)) := Lib.hid (by rw [hwB]; exact blk_set_ne (app_blk HOA.out HG5.out X15A.out (by decide)) (by omega))
          have hln : (preD S M cn (q)).length = q := preD_len
          have OB : Hid (OwnR wB w3.heap.size 79 4 (.slice (some ⟨g5, 0, none⟩) (q + 1) c5) (q + 1) (dyC (preD S M cn (q) ++ [⟨T.lo, T.hi, D.lo, D.hi⟩]))) := Lib.hid (by
            rw [hwB]
            refine OwnR.sd (Sd.set (B := w.heap.size) (ts := [31]) z8 (by simp) (by omega) _) (HO5.out.congr fun i' j' hi' hj' => ?_) (by decide)
            have e := @dyC_snoc (preD S M cn (q)) ⟨T.lo, T.hi, D.lo, D.hi⟩ i' j'
            rw [hln] at e
            exact e hi' hj')
          clear hwB z8 q8c q8f q13c q13f q15c q15f p8c p8f HO5 HG5
          obtain ⟨X, hX⟩ : ∃ X : Day, X = ⟨T.lo, T.hi, D.lo, D.hi⟩ := ⟨_, rfl⟩
          rw [← hX] at OB
          obtain ⟨⟨d0, d1, d2, d3⟩, df, hgB, hgl, hcap, hcapm⟩ := last_cells hln OB.out
          have hfx := dayX_first (S := S) (M := M) (c := cn) (d := q)
          rw [← HJQ.out, ← HT.out, ← HD.out, ← hX] at hfx
          have HW1 : Hid (∀ W, Calls Tryz.prog 35 #[.agg #[.int .i64 X.tlo, .int .i64 X.thi], .agg #[.int .i64 T.lo, .int .i64 T.hi]] W fun e w' => e = .returned (.agg #[.int .i64 (dayW X T D).tlo, .int .i64 (dayW X T D).thi]) ∧ Below W.heap.size W w') := Lib.hid fun W => wide_any ⟨X.tlo, X.thi⟩ T W
          have HW2 : Hid (∀ W, Calls Tryz.prog 35 #[.agg #[.int .i64 X.dlo, .int .i64 X.dhi], .agg #[.int .i64 D.lo, .int .i64 D.hi]] W fun e w' => e = .returned (.agg #[.int .i64 (dayW X T D).dlo, .int .i64 (dayW X T D).dhi]) ∧ Below W.heap.size W w') := Lib.hid fun W => wide_any ⟨X.dlo, X.dhi⟩ D W
          obtain ⟨Y, hY⟩ : ∃ Y, Y = dayW X T D := ⟨_, rfl⟩
          rw [← hY] at HW1 HW2 hfx
          have HNX := Lib.hid hfx
          have wn : IntKind.i64.wrap ((q : Nat) : Int) = ((q : Nat) : Int) := IntWalk.i64_in _ (by omega)
          have wn2 : IntKind.i64.wrap (((q + 1 : Nat) : Int) - 1) = ((q : Nat) : Int) := by rw [IntWalk.i64_in _ (by omega)]; omega
          have wn3 : IntKind.i64.wrap (((q : Nat) : Int) + 1 - 1) = ((q : Nat) : Int) := by rw [IntWalk.i64_in _ (by omega)]; omega
          have i2 : (0 : Int) ≤ ((q : Nat) : Int) := by omega
          have i3 : ((q : Nat) : Int) < ((q : Nat) : Int) + 1 := by omega
          clear hX hY hfx
          have x8b := X8B.out; have x12b := X12B.out; have x13b := X13B.out; have x15b := X15B.out
          have q8c := cell_blk x8b
          have q8f := frz_blk x8b
          have q12c := cell_blk x12b
          have q12f := frz_blk x12b
          have q13c := cell_blk x13b
          have q13f := frz_blk x13b
          have q15c := cell_blk x15b
          have q15f := frz_blk x15b
          clear x8b x12b x13b x15b
          gi_wp2
          refine round_region_ev [1] [0, 2, 3, 4, 5, 6, 7, 8, 9, 10, 11, 12, 13, 14, 15] [] [16, 17, 18, 19] (by kernel_rfl) (by rintro ⟨a_, w_, h_⟩; exact h_) (by kernel_rfl) (by kernel_rfl) (by intro c a d v w h; cases d <;> exact h) ?_
          simp only [picks, List.drop_succ_cons, List.drop_zero]
          repeat (refine wpQ0_step (fun K hK => ?_); go_simp; (refine hK _ ?_; clear hK K))
          refine wpQ0_nil ?_
          repeat ((with_reducible refine wpQ2_step (fun K hK => ?_)); go_simp; first | ((with_reducible refine hK _ ?_); clear hK K) | (apply Exists.intro; refine ⟨fun x => ?_, hK _ ?_⟩; (first | (with_reducible exact HW1.out x.1) | (with_reducible exact HW2.out x.1)); clear hK K))
          refine wpQ2_nil ?_
          refine Events.none_ fun w9 hg9 => ?_
          simp only [picks, List.drop_succ_cons, List.drop_zero]
          have HE9 := Lib.hid hg9
          have HO9 := Lib.hid (OB.out.below hg9)
          have y12 := Ext2.blk hg9 X12B.out
          have Y12 := Lib.hid y12
          obtain ⟨⟨e0, e1, e2, e3⟩, ef, -, egl, -⟩ := last_cells hln HO9.out
          have ng12 : ¬ g5 = n12 := by omega
          have n12g : ¬ n12 = g5 := by omega
          clear q8c q8f q12c q12f q13c q13f q15c q15f d0 d1 d2 d3 df hg9 HW1 HW2
          have q12c := cell_blk y12
          have q12f := frz_blk y12
          clear y12
          go_wp2_with (fail)
          gi_wp2
          exact clEnd (BWB.out.trans (Bw.ext HE9.out (Nat.le_trans HB.out.size BWB.out.bel.size))) (HE9.out.blk XBB.out) (below_ext (HB.out.trans BWB.out.bel) HE9.out) (Nat.le_trans HZ.out (Nat.le_trans BWB.out.bel.size HE9.out.size)) HB3.out.size (HE9.out.blk X7B.out) (HE9.out.blk X10B.out) Y12.out (HE9.out.blk X8B.out) hln HO9.out (.inr ⟨q, 1, by omega, by omega, by have := HJQ.out; omega, by rw [HNX.out]⟩) hjd ⟨by omega, by omega, by omega, by omega, by omega, by omega⟩ ⟨by omega, by omega, by omega, by omega⟩
      case inr.inl =>
        have hln : (preD S M cn dd).length = dd := preD_len
        have hll : L'.length = dd + 1 := by rw [hLr, List.length_append, List.length_singleton, hln]
        rw [hll] at x8 hO
        rw [hLr] at hO
        obtain ⟨g, cap, hsl, -⟩ := own_some hO (by omega)
        cases hsl
        obtain ⟨⟨d0, d1, d2, d3⟩, df, hgB, hgl, hcap, hcapm⟩ := last_cells hln hO
        have hm24 : (j : Int).tmod 24 = 0 := by rw [Int.tmod_eq_emod_of_nonneg (by omega)]; omega
        have hdds : dd + 1 ≤ 101 := by omega
        have hcls := dayX_close (S := S) (M := M) (c := cn) (d := dd)
        rw [← hjr, ← HT.out] at hcls
        obtain ⟨X, hX⟩ : ∃ X, X = dayX S M cn dd 24 := ⟨_, rfl⟩
        rw [← hX] at d0 d1 d2 d3 hO hcls
        have HW0 : Hid (∀ W, Calls Tryz.prog 35 #[.agg #[.int .i64 X.tlo, .int .i64 X.thi], .agg #[.int .i64 T.lo, .int .i64 T.hi]] W fun e w' => e = .returned (.agg #[.int .i64 (wideS ⟨X.tlo, X.thi⟩ T).lo, .int .i64 (wideS ⟨X.tlo, X.thi⟩ T).hi]) ∧ Below W.heap.size W w') := Lib.hid fun W => wide_any ⟨X.tlo, X.thi⟩ T W
        obtain ⟨yl, hyl⟩ : ∃ y, y = (wideS ⟨X.tlo, X.thi⟩ T).lo := ⟨_, rfl⟩
        obtain ⟨yh, hyh⟩ : ∃ y, y = (wideS ⟨X.tlo, X.thi⟩ T).hi := ⟨_, rfl⟩
        rw [← hyl, ← hyh] at HW0 hcls
        have HO := Lib.hid hO; have HCLS := Lib.hid hcls; have HJR := Lib.hid hjr
        have i2 : (0 : Int) ≤ (dd : Int) := by omega
        have i3 : (dd : Int) < (dd : Int) + 1 := by omega
        have i4 : (0 : Int) < (dd : Int) + 1 := by omega
        have i5 : decide ((0 : Int) < (dd : Int) + 1) = true := decide_eq_true i4
        have wn : IntKind.i64.wrap (dd : Int) = (dd : Int) := IntWalk.i64_in _ (by omega)
        have mg : ¬ g = W.heap.size := by omega
        have X8' := Lib.hid x8
        have hn8b : n8 ≠ b := by intro h; have h1 := XB.out; rw [← h, X8'.out] at h1; simp at h1
        have q7c := cell_blk x7
        have q7f := frz_blk x7
        have q8c := cell_blk x8
        have q8f := frz_blk x8
        have q10c := cell_blk x10
        have q10f := frz_blk x10
        have q12c := cell_blk x12
        have q12f := frz_blk x12
        have q13c := cell_blk x13
        have q13f := frz_blk x13
        have qbc := cell_blk xb
        have qbf := frz_blk xb
        clear x7 x8 x10 x12 x13 xb hX hyl hyh hcls hjr hO
        gi_wp2
        refine round_region_ev [] [0, 1, 2, 3, 4, 5, 6, 7, 8, 9, 10, 11, 12] [] [13] (by kernel_rfl) (by rintro ⟨a_, w_, h_⟩; exact h_) (by kernel_rfl) (by kernel_rfl) (by intro c a d v w h; cases d <;> exact h) ?_
        simp only [picks, List.drop_succ_cons, List.drop_zero]
        repeat (refine wpQ0_step (fun K hK => ?_); go_simp; (refine hK _ ?_; clear hK K))
        refine wpQ0_nil ?_
        repeat ((with_reducible refine wpQ2_step (fun K hK => ?_)); go_simp; first | ((with_reducible refine hK _ ?_); clear hK K) | (apply Exists.intro; refine ⟨fun x => ?_, hK _ ?_⟩; ((with_reducible exact HW0.out x.1)); clear hK K))
        refine wpQ2_nil ?_
        refine Events.none_ fun wq hgq => ?_
        simp only [picks, List.drop_succ_cons, List.drop_zero]
        have hEQ : Ext2 W wq := ext_trans (below_alloc' _ _) hgq
        have HOQ := Lib.hid (HO.out.below hEQ)
        have X15Q := Lib.hid (Ext2.blk hgq (blk_new W (Obj.cells #[.int .i64 D.lo, .int .i64 D.hi] 25)))
        obtain ⟨⟨e0, e1, e2, e3⟩, ef, egB, egl, -⟩ := last_cells hln HOQ.out
        obtain ⟨cur, xgq⟩ := ownR_cells HOQ.out (k := g) rfl
        have HGQ := Lib.hid xgq
        have HEQ := Lib.hid hEQ
        have z7 := hEQ.blk XX7.out; have z12 := hEQ.blk XX12.out
        have ng12 : ¬ g = n12 := by omega
        have n12g : ¬ n12 = g := by omega
        have ng7 : ¬ g = n7 := by omega
        have n7g : ¬ n7 = g := by omega
        clear q7c q7f q8c q8f q10c q10f q12c q12f q13c q13f qbc qbf d0 d1 d2 d3 df c3 c4 hgq hEQ HW0 xgq m7 m8 m12 m13 mg
        have q7c := cell_blk z7
        have q7f := frz_blk z7
        have q12c := cell_blk z12
        have q12f := frz_blk z12
        clear z7 z12
        have hOA : OwnR ((wq.setCell ⟨g, dd * 4, none⟩ (.int .i64 yl)).setCell ⟨g, dd * 4 + 1, none⟩ (.int .i64 yh)) w3.heap.size 79 4 (.slice (some ⟨g, 0, none⟩) (dd + 1) sc) (dd + 1) (dyC (preD S M cn (dd + 1))) := by
          rw [preD_succ, ← HCLS.out]
          exact own_last2 (x := X) (y := ⟨yl, yh, X.dlo, X.dhi⟩) hln rfl rfl HOQ.out
        have HOA := Lib.hid hOA
        have hTg : clmT w3.heap.size n8 n12 g 79 := .inr (.inr ⟨egB, rfl⟩)
        have BWA : Hid (Bw w.heap.size (clmT w3.heap.size n8 n12) W ((wq.setCell ⟨g, dd * 4, none⟩ (.int .i64 yl)).setCell ⟨g, dd * 4 + 1, none⟩ (.int .i64 yh))) := Lib.hid ((Bw.ext HEQ.out HB.out.size).trans ((Bw.set HGQ.out hTg (Nat.le_trans HB3.out.size egB) _).trans (Bw.set (blk_set HGQ.out _ _) hTg (Nat.le_trans HB3.out.size egB) _)))
        have kA : ∀ {a : Nat} {o : Obj}, W.heap[a]? = some o → a ≠ g → ((wq.setCell ⟨g, dd * 4, none⟩ (.int .i64 yl)).setCell ⟨g, dd * 4 + 1, none⟩ (.int .i64 yh)).heap[a]? = some o := fun h hg => blk_set_ne (blk_set_ne (HEQ.out.blk h) (Ne.symm hg)) (Ne.symm hg)
        have X8A := Lib.hid (kA X8'.out (by omega)); have X7A := Lib.hid (kA XX7.out (by omega)); have X10A := Lib.hid (kA XX10.out (by omega)); have X12A := Lib.hid (kA XX12.out (by omega))
        have hb13g : b13 ≠ g := by intro h; have h1 := XX13.out; have h2 := HEQ.out.blk h1; rw [h, HGQ.out] at h2; simp at h2
        have X13A := Lib.hid (kA XX13.out hb13g)
        have X15A : Hid (((wq.setCell ⟨g, dd * 4, none⟩ (.int .i64 yl)).setCell ⟨g, dd * 4 + 1, none⟩ (.int .i64 yh)).heap[W.heap.size]? = some (Obj.cells #[.int .i64 D.lo, .int .i64 D.hi] 25)) := Lib.hid (blk_set_ne (blk_set_ne X15Q.out (by omega)) (by omega))
        have XBA : Hid (((wq.setCell ⟨g, dd * 4, none⟩ (.int .i64 yl)).setCell ⟨g, dd * 4 + 1, none⟩ (.int .i64 yh)).heap[b]? = some (Obj.cells #[.slice s.r.a S.rooms.length s.r.cap, .slice s.c.a S.cans.length s.c.cap, .int .i64 S.rlo, .int .i64 S.rhi, .slice s.p.a S.steps.length s.p.cap, (.slice k.a M.length k.cap)] 76)) := Lib.hid (kA (by rw [HAR.out]; exact XB.out) (by omega))
        have HBA := Lib.hid (HB.out.trans BWA.out.bel)
        have HZA : Hid (w3.heap.size ≤ ((wq.setCell ⟨g, dd * 4, none⟩ (.int .i64 yl)).setCell ⟨g, dd * 4 + 1, none⟩ (.int .i64 yh)).heap.size) := Lib.hid (Nat.le_trans HZ.out BWA.out.bel.size)
        have HJQ : Hid (j = (dd + 1) * 24) := Lib.hid (by have := HJR.out; omega)
        clear kA hOA
        by_cases hbr : days = dd + 1
        · have hdd : ((j : Int) == (days : Int) * 24) = true := by have := HJR.out; simp; omega
          have HBR := Lib.hid hbr
          clear hbr
          go_wp2_with (fail)
          gi_wp2
          refine ⟨⟨Nat.le_trans HEQ.out.size (by simp), fun g' o hg' ho hoc => ?_⟩, rfl, HBA.out, ⟨some ⟨g, 0, none⟩, sc⟩, ?_, ?_⟩
          · have hgg : g' ≠ g := by intro h; have h2 := HEQ.out.blk ho; rw [h, HGQ.out] at h2; cases h2; cases hoc
            exact blk_set_ne (blk_set_ne (HEQ.out.blk ho) (Ne.symm hgg)) (Ne.symm hgg)
          · rw [HBR.out]; exact X8A.out
          · rw [HBR.out]; exact HOA.out
        · have hdd : ((j : Int) == (days : Int) * 24) = false := by have := HJR.out; simp; omega
          have hjd : j + 1 ≤ days * 24 := by have := HJR.out; omega
          clear hbr
          go_wp2_with (fail)
          repeat (first | (refine round_region_list (by kernel_rfl) (by rintro ⟨a_, w_, h_⟩; exact h_) ?_) | go_values | gi_guarded | gi_step)
          go_wp2_with (fail)
          repeat (first | (refine round_region_list (by kernel_rfl) (by rintro ⟨a_, w_, h_⟩; exact h_) ?_) | go_values | gi_guarded | gi_step)
          go_wp2_with (fail)
          repeat (first | (refine round_region_list (by kernel_rfl) (by rintro ⟨a_, w_, h_⟩; exact h_) ?_) | go_values | gi_guarded | gi_step)
          clear q7c q7f q12c q12f e0 e1 e2 e3 ef
          have hq9 : dd + 1 ≤ 1000000000 := by omega
          have hsz9 := HBA.out.size
          have x8a := X8A.out; have x13a := X13A.out; have x15a := X15A.out
          have q8c := cell_blk x8a
          have q8f := frz_blk x8a
          have q13c := cell_blk x13a
          have q13f := frz_blk x13a
          have q15c := cell_blk x15a
          have q15f := frz_blk x15a
          clear x8a x13a x15a
          go_wp2_with (at_builtin; refine app_one [.int .i64 T.lo, .int .i64 T.hi, .int .i64 D.lo, .int .i64 D.hi] elDay rfl _ _ rfl w3.heap.size rfl (HOA.out.below (below_alloc' _ _)) _ 1 rfl (blk_new' _ _ (by simp)) (by simp [Value.oneCell']) hq9 (by have := HZA.out; simp only [World.size_alloc, World.size_setCell] at this ⊢; omega) ?_; intro v5 w5 hO5 hg5; obtain ⟨g5, c5, hv5, -⟩ := own_some hO5 (by omega); subst hv5; have HO5 := Lib.hid hO5; have HG5 := Lib.hid hg5; clear hO5 hg5; have z8 := app_blk HOA.out HG5.out X8A.out (by decide); have p8c := cell_blk z8; have p8f := frz_blk z8; clear z8)
          refine wpIn_name ?_
          intro wB hwB
          have z8 := app_blk HOA.out HG5.out X8A.out (by decide)
          have BWB : Hid (Bw w.heap.size (clmT w3.heap.size n8 n12) W wB) := Lib.hid (by rw [hwB]; exact (BWA.out.trans (bw_app HOA.out HG5.out HBA.out.size HB3.out.size)).trans (Bw.set z8 (.inl rfl) (by omega) _))
          have X8B : Hid (wB.heap[n8]? = some (.cells #[.slice (some ⟨g5, 0, none⟩) (dd + 1 + 1) c5] 31 (0, 0))) := Lib.hid (by rw [hwB]; exact Eq.trans (blk_set z8 0 _) rfl)
          have X12B : Hid (wB.heap[n12]? = some (.cells #[.int .i64 (j : Int)] 3 (0, 0))) := Lib.hid (by rw [hwB]; exact blk_set_ne (app_blk HOA.out HG5.out X12A.out (by decide)) (by omega))
          have X7B : Hid (wB.heap[n7]? = some (.cells #[.int .i64 (days : Int)] 3 (0, 0))) := Lib.hid (by rw [hwB]; exact blk_set_ne (app_blk HOA.out HG5.out X7A.out (by decide)) (by omega))
          have X10B : Hid (wB.heap[n10]? = some (.cells #[.pointer (some ⟨b, 0, none⟩)] 66 (0, 0))) := Lib.hid (by rw [hwB]; exact blk_set_ne (app_blk HOA.out HG5.out X10A.out (by decide)) (by omega))
          have XBB : Hid (wB.heap[b]? = some (Obj.cells #[.slice s.r.a S.rooms.length s.r.cap, .slice s.c.a S.cans.length s.c.cap, .int .i64 S.rlo, .int .i64 S.rhi, .slice s.p.a S.steps.length s.p.cap, (.slice k.a M.length k.cap)] 76)) := Lib.hid (by rw [hwB]; exact blk_set_ne (app_blk HOA.out HG5.out XBA.out (by decide)) hn8b)
          have X13B : Hid (wB.heap[b13]? = some (Obj.cells #[.int .i64 T.lo, .int .i64 T.hi] 25)) := Lib.hid (by rw [hwB]; exact blk_set_ne (app_blk HOA.out HG5.out X13A.out (by decide)) (by omega))
          have X15B : Hid (wB.heap[W.heap.size]? = some (Obj.cells #[.int .i64 D.lo, .int .i64 D.hi] 25)) := Lib.hid (by rw [hwB]; exact blk_set_ne (app_blk HOA.out HG5.out X15A.out (by decide)) (by omega))
          clear hln
          have hln : (preD S M cn (dd + 1)).length = dd + 1 := preD_len
          have OB : Hid (OwnR wB w3.heap.size 79 4 (.slice (some ⟨g5, 0, none⟩) (dd + 1 + 1) c5) (dd + 1 + 1) (dyC (preD S M cn (dd + 1) ++ [⟨T.lo, T.hi, D.lo, D.hi⟩]))) := Lib.hid (by
            rw [hwB]
            refine OwnR.sd (Sd.set (B := w.heap.size) (ts := [31]) z8 (by simp) (by omega) _) (HO5.out.congr fun i' j' hi' hj' => ?_) (by decide)
            have e := @dyC_snoc (preD S M cn (dd + 1)) ⟨T.lo, T.hi, D.lo, D.hi⟩ i' j'
            rw [hln] at e
            exact e hi' hj')
          clear hwB z8 q8c q8f q13c q13f q15c q15f p8c p8f HO5 HG5
          obtain ⟨X, hX⟩ : ∃ X : Day, X = ⟨T.lo, T.hi, D.lo, D.hi⟩ := ⟨_, rfl⟩
          rw [← hX] at OB
          obtain ⟨⟨d0, d1, d2, d3⟩, df, hgB, hgl, hcap, hcapm⟩ := last_cells hln OB.out
          have hfx := dayX_first (S := S) (M := M) (c := cn) (d := dd + 1)
          rw [← HJQ.out, ← HT.out, ← HD.out, ← hX] at hfx
          have HW1 : Hid (∀ W, Calls Tryz.prog 35 #[.agg #[.int .i64 X.tlo, .int .i64 X.thi], .agg #[.int .i64 T.lo, .int .i64 T.hi]] W fun e w' => e = .returned (.agg #[.int .i64 (dayW X T D).tlo, .int .i64 (dayW X T D).thi]) ∧ Below W.heap.size W w') := Lib.hid fun W => wide_any ⟨X.tlo, X.thi⟩ T W
          have HW2 : Hid (∀ W, Calls Tryz.prog 35 #[.agg #[.int .i64 X.dlo, .int .i64 X.dhi], .agg #[.int .i64 D.lo, .int .i64 D.hi]] W fun e w' => e = .returned (.agg #[.int .i64 (dayW X T D).dlo, .int .i64 (dayW X T D).dhi]) ∧ Below W.heap.size W w') := Lib.hid fun W => wide_any ⟨X.dlo, X.dhi⟩ D W
          obtain ⟨Y, hY⟩ : ∃ Y, Y = dayW X T D := ⟨_, rfl⟩
          rw [← hY] at HW1 HW2 hfx
          have HNX := Lib.hid hfx
          have wn : IntKind.i64.wrap ((dd + 1 : Nat) : Int) = ((dd + 1 : Nat) : Int) := IntWalk.i64_in _ (by omega)
          have wn2 : IntKind.i64.wrap (((dd + 1 + 1 : Nat) : Int) - 1) = ((dd + 1 : Nat) : Int) := by rw [IntWalk.i64_in _ (by omega)]; omega
          have wn3 : IntKind.i64.wrap (((dd + 1 : Nat) : Int) + 1 - 1) = ((dd + 1 : Nat) : Int) := by rw [IntWalk.i64_in _ (by omega)]; omega
          have i2 : (0 : Int) ≤ ((dd + 1 : Nat) : Int) := by omega
          have i3 : ((dd + 1 : Nat) : Int) < ((dd + 1 : Nat) : Int) + 1 := by omega
          clear hX hY hfx
          have x8b := X8B.out; have x12b := X12B.out; have x13b := X13B.out; have x15b := X15B.out
          have q8c := cell_blk x8b
          have q8f := frz_blk x8b
          have q12c := cell_blk x12b
          have q12f := frz_blk x12b
          have q13c := cell_blk x13b
          have q13f := frz_blk x13b
          have q15c := cell_blk x15b
          have q15f := frz_blk x15b
          clear x8b x12b x13b x15b
          gi_wp2
          refine round_region_ev [1] [0, 2, 3, 4, 5, 6, 7, 8, 9, 10, 11, 12, 13, 14, 15] [] [16, 17, 18, 19] (by kernel_rfl) (by rintro ⟨a_, w_, h_⟩; exact h_) (by kernel_rfl) (by kernel_rfl) (by intro c a d v w h; cases d <;> exact h) ?_
          simp only [picks, List.drop_succ_cons, List.drop_zero]
          repeat (refine wpQ0_step (fun K hK => ?_); go_simp; (refine hK _ ?_; clear hK K))
          refine wpQ0_nil ?_
          repeat ((with_reducible refine wpQ2_step (fun K hK => ?_)); go_simp; first | ((with_reducible refine hK _ ?_); clear hK K) | (apply Exists.intro; refine ⟨fun x => ?_, hK _ ?_⟩; (first | (with_reducible exact HW1.out x.1) | (with_reducible exact HW2.out x.1)); clear hK K))
          refine wpQ2_nil ?_
          refine Events.none_ fun w9 hg9 => ?_
          simp only [picks, List.drop_succ_cons, List.drop_zero]
          have HE9 := Lib.hid hg9
          have HO9 := Lib.hid (OB.out.below hg9)
          have y12 := Ext2.blk hg9 X12B.out
          have Y12 := Lib.hid y12
          obtain ⟨⟨e0, e1, e2, e3⟩, ef, -, egl, -⟩ := last_cells hln HO9.out
          have ng12 : ¬ g5 = n12 := by omega
          have n12g : ¬ n12 = g5 := by omega
          clear q8c q8f q12c q12f q13c q13f q15c q15f d0 d1 d2 d3 df hg9 HW1 HW2
          have q12c := cell_blk y12
          have q12f := frz_blk y12
          clear y12
          go_wp2_with (fail)
          gi_wp2
          exact clEnd (BWB.out.trans (Bw.ext HE9.out (Nat.le_trans HB.out.size BWB.out.bel.size))) (HE9.out.blk XBB.out) (below_ext (HB.out.trans BWB.out.bel) HE9.out) (Nat.le_trans HZ.out (Nat.le_trans BWB.out.bel.size HE9.out.size)) HB3.out.size (HE9.out.blk X7B.out) (HE9.out.blk X10B.out) Y12.out (HE9.out.blk X8B.out) hln HO9.out (.inr ⟨dd + 1, 1, by omega, by omega, by have := HJQ.out; omega, by rw [HNX.out]⟩) hjd ⟨by omega, by omega, by omega, by omega, by omega, by omega⟩ ⟨by omega, by omega, by omega, by omega⟩
    case done =>
      rintro d' W hd' hS hD
      exact absurd hS.le (by omega)
    case stop =>
      rintro d' cd j W hd' hj ⟨rfl, hB, sl', x8, hO⟩ hD
      subst ha0
      have HB5 := Lib.hid hB; have HO5 := Lib.hid hO; have X8S := Lib.hid x8; have HDD := Lib.hid hD
      have q8c := cell_blk x8
      have q8f := frz_blk x8
      clear hB hO x8 hD
      go_wp2_with (fail)
      have hs8 : Sd w.heap.size [31] W (W.setCell ⟨n8, 0, none⟩ (.slice sl'.a days sl'.cap)) := Sd.set X8S.out (List.mem_singleton.2 rfl) (by omega) _
      have y8 := Eq.trans (blk_set X8S.out 0 (.slice sl'.a days sl'.cap)) rfl
      refine leaveM_take (by simp) (blk_set_ne HDD.out (by omega)) ?_
      have z8 := blk_put (d := d') (o := .deferred none) y8 (by omega)
      have zc := cell_blk z8
      have e0 : climE S L c d = 0 := by
        unfold climE
        rw [HPE.out, HIC.out, HID.out]; rfl
      have e1 : climA S L c d = climV S M cn days := by unfold climA; rw [if_pos e0, ← HMM.out, ← HCN.out, ← HDN.out]
      have hlen : (climV S M cn days).length = days := by simp [climV]
      refine ⟨.tuple #[.slice sl'.a days sl'.cap, .int .i64 0], ?_, ⟨sl'.a, sl'.cap⟩, by rw [e1, e0, hlen], ?_, below_put (HB5.out.trans hs8.bel) (by omega)⟩
      · simp [results, Tryz.results7, go_sem, zc]
      · rw [e1, hlen]
        obtain ⟨⟨a', c'⟩, h1, h2⟩ := (HO5.out.sd hs8 (by decide)).sl
        have h3 : Value.slice sl'.a days sl'.cap = Value.slice a' days c' := h1
        injection h3 with h4 _ h5
        rw [← h4, ← h5] at h2
        refine ⟨h2.le, h2.max, fun i' j' hi' hj' => ?_⟩
        obtain ⟨g', off', ha', hc'⟩ := h2.cell i' j' hi' hj'
        refine ⟨g', off', ha', Eq.trans (World.cell?_of_block (a := ⟨g', off' + i' * 4 + j', none⟩) (World.putObj_heap_other ?_)) hc'⟩
        intro he
        have hcl' := hc'
        simp only [World.cell?] at hcl'
        have hdd' : (W.setCell ⟨n8, 0, none⟩ (.slice sl'.a days sl'.cap)).heap[d']? = some (.deferred (some [])) := blk_set_ne HDD.out (by omega)
        dsimp only at he
        rw [he, hdd'] at hcl'
        cases hcl'
end Go.Proofs.YtfpaihjcbpaneaaGreatDoor
