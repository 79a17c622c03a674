/-
  hours: the temperature of a can at the beginning of each hour, and the room in which it is then.
  hours, as an iterator; and the function that makes it.
  Leaving a function that ranges over a function.
  temp: the temperature of a can at the beginning of an hour.
-/
import Derived.Test.YtfpaihjcbpaneaaGreatDoorVAirA
import Derived.Test.YtfpaihjcbpaneaaGreatDoorVPlA
import Derived.Test.YtfpaihjcbpaneaaGreatDoorDIterT
import Derived.Test.YtfpaihjcbpaneaaGreatDoorDRegX
import Derived.Test.YtfpaihjcbpaneaaGreatDoorDMem
import Derived.Recover
import Derived.RecoverIn
import Derived.Defers
import Derived.Shelf.Abstract
namespace Go.Proofs.YtfpaihjcbpaneaaGreatDoor
open Go.RowKit D
set_option linter.unusedVariables false
set_option linter.unusedSimpArgs false
attribute [local go_sem high] run_minI run_maxI
attribute [local go_sem] upon2 cls_cell cls_frozen forall_const exists_eq_left'
attribute [local go_sem] FirstUpon
/-- What hours finds in memory. -/
structure HrAt (S : Site) (s : SSl) (b : Nat) (M : List Mv) (kk : Sl) (b1 b2 c : Nat) (W : World) : Prop where
  box1 : W.heap[b1]? = some (.cells #[.pointer (some ⟨b, 0, none⟩)] 66 (0, 0))
  box2 : W.heap[b2]? = some (.cells #[.int .i64 (c : Int)] 3 (0, 0))
  vlt : VltAt W S s b M kk
theorem HrAt.below {S : Site} {s : SSl} {b : Nat} {M : List Mv} {kk : Sl} {b1 b2 c : Nat} {W W' : World} (h : HrAt S s b M kk b1 b2 c W) (hb : Below W.heap.size W W') : HrAt S s b M kk b1 b2 c W' :=
  ⟨below_blk hb h.box1 (blk_lt h.box1), below_blk hb h.box2 (blk_lt h.box2), h.vlt.below hb⟩
theorem VltAt.later {S : Site} {s : SSl} {b : Nat} {M : List Mv} {k : Sl} {W0 W W' : World} (h0 : VltAt W0 S s b M k) (h : VltAt W S s b M k) (hb : Below W0.heap.size W W') : VltAt W' S s b M k :=
  ⟨below_blk hb h.blk (blk_lt h0.blk), ⟨RowS.kept h.site.rm (fun b off ha hn hz => h0.site.rm.block ha hn hz) hb, RowS.kept h.site.cn (fun b off ha hn hz => h0.site.cn.block ha hn hz) hb, RowS.kept h.site.st (fun b off ha hn hz => h0.site.st.block ha hn hz) hb, h.site.rsize, h.site.csize⟩, RowS.kept h.kept (fun b off ha hn hz => h0.kept.block ha hn hz) hb⟩
theorem HrAt.later {S : Site} {s : SSl} {b : Nat} {M : List Mv} {kk : Sl} {b1 b2 c : Nat} {W0 W W' : World} (h0 : HrAt S s b M kk b1 b2 c W0) (h : HrAt S s b M kk b1 b2 c W) (hb : Below W0.heap.size W W') : HrAt S s b M kk b1 b2 c W' :=
  ⟨below_blk hb h.box1 (blk_lt h0.box1), below_blk hb h.box2 (blk_lt h0.box2), h0.vlt.later h.vlt hb⟩
set_option maxRecDepth 100000 in
set_option maxHeartbeats 8000000 in
theorem hoursIter_in (Fe : Fence) (hFe : Fe = Fence.wide) (hro : Fe.round = none) {S : Site} {s : SSl} {b b1 b2 c B : Nat} {M : List Mv} {kk : Sl} (hC : Chk S) (hM : ∀ m ∈ M, mvE S m = 0) (hso : SortH M) (hc : c < S.cans.length) (hml : M.length ≤ 60)
    (T : Nat → TypeId → Prop) (l : Nat) (I X : Nat → World → Prop) (W : World) (hp0 : HrAt S s b M kk b1 b2 c W) (hBW : B ≤ W.heap.size) (hpk : ∀ W1 W2, HrAt S s b M kk b1 b2 c W1 → Bw B T W1 W2 → HrAt S s b M kk b1 b2 c W2) (hts : ∀ g, W.heap.size ≤ g → ∀ t ∈ [25], ¬ T g t) (h0 : I 0 W) (hI : ∀ k W1 W2, I k W1 → Sd W.heap.size [25] W1 W2 → I k W2)
    (hY : ∀ k W1, k < 2401 → I k W1 → YieldAt Fe 0 Tryz.prog l #[.agg #[.int .i64 (ownT S M c k).lo, .int .i64 (ownT S M c k).hi], .int .i64 (atV S M c (k : Int))] W1 fun e W' => (e = .returned (.bool true) ∧ Bw B T W1 W' ∧ I (k + 1) W') ∨ (e = .returned (.bool false) ∧ KeepsFrom W.heap.size W1 W' ∧ X k W')) :
    CallsIn Fe 1 Tryz.prog 68 (#[.func (.yield l) #[] #[]] ++ #[.pointer (some ⟨b1, 0, none⟩), .pointer (some ⟨b2, 0, none⟩)]) W fun e W' => (∃ v, e = .returned v) ∧ (I 2401 W' ∨ ∃ k, k < 2401 ∧ X k W') := by
  have HY := Lib.hid hY; have HI := Lib.hid hI; have H0 := Lib.hid h0; have HP0 := Lib.hid hp0; have HCK := Lib.hid hC; have HMV := Lib.hid hM; have HSO := Lib.hid hso; have HPK := Lib.hid hpk; have HTS := Lib.hid hts; have HF := Lib.hid hFe
  have y1 := hp0.box1; have y2 := hp0.box2; have x0 := hp0.vlt.blk
  have hrl := hp0.vlt.site.rm.le; have hrm := hp0.vlt.site.rm.max; have hcl := hp0.vlt.site.cn.le; have hcm := hp0.vlt.site.cn.max; have hkl := hp0.vlt.kept.le; have hkm := hp0.vlt.kept.max
  obtain ⟨cb, coff, hca, -, -, -, c3⟩ := cn_cells hp0.vlt.site.cn hc
  have hr0 := hC.cans.room c hc
  obtain ⟨r, hr⟩ : ∃ r : Nat, (cnD S.cans c).room = (r : Int) := ⟨(cnD S.cans c).room.toNat, by omega⟩
  rw [hr] at c3 hr0
  obtain ⟨rb, roff, hra, hcc⟩ := rm_cells hp0.vlt.site.rm (i := r) (by omega)
  have d1 := hcc.c1; have d2 := hcc.c2
  obtain ⟨⟨ra, rc⟩, ⟨ca, cc⟩, ps⟩ := s
  obtain ⟨ka, kc⟩ := kk
  dsimp only at hca hra hrl hrm hcl hcm hkl hkm
  subst hca; subst hra
  have HR := Lib.hid hr
  have p0 : (0 : Int) ≤ (c : Int) := by omega
  have p1 : (c : Int) < (S.cans.length : Int) := by omega
  have p2 : (0 : Int) ≤ (r : Int) := by omega
  have p3 : (r : Int) < (S.rooms.length : Int) := by omega
  clear hY hI h0 hp0 hC hM hso hpk hts hr hcc
  refine callsIn_of_wp Tryz.func68 rfl (by rw [hFe]; trivial) ?_ hro
  clear hFe
  simp only [Tryz.ntmps68, List.size_toArray, List.length_cons, List.length_nil, Nat.reduceAdd, Nat.reduceSub, Array.replicate_succ, Array.replicate_zero, List.push_toArray, List.append_toArray, List.nil_append, List.cons_append]
  have q1c := cell_blk y1
  have q1f := frz_blk y1
  have q2c := cell_blk y2
  have q2f := frz_blk y2
  have q0c := cell_blk x0
  have q0f := frz_blk x0
  gi_wp2
  rw [HF.out]
  refine wide_region_ev [0, 1, 2, 3, 4, 5, 6, 7, 8, 9] [] (by rintro ⟨a_, w_, h_⟩; have h2_ : (∃ v, Ending.outgrown = Ending.returned v) ∧ _ := h_; obtain ⟨⟨v_, hv_⟩, -⟩ := h2_; cases hv_) (by kernel_rfl) (by kernel_rfl) (by intro c a d v w h; cases d <;> exact h) ?_
  simp only [picks, List.drop_succ_cons, List.drop_zero]
  repeat ((with_reducible refine wpQ2_step (fun K hK => ?_)); go_simp; first | ((with_reducible refine hK _ ?_); clear hK K) | (apply Exists.intro; refine ⟨fun x => ?_, hK _ ?_⟩; (fail); clear hK K))
  refine wpQ2_nil ?_
  intro W2 hE2
  have hPW2 := HP0.out.below hE2
  have hi2 := HI.out _ _ _ H0.out (Sd.ext hE2 (Nat.le_refl _))
  have x0 := hPW2.vlt.blk; have y1 := hPW2.box1
  have e1 := ext_cell' hE2 d1; have e2 := ext_cell' hE2 d2
  have HI2 := Lib.hid hi2; have HPW2 := Lib.hid hPW2
  have hsz2 := hE2.size
  clear q0c q0f q1c q1f q2c q2f d1 d2 c3 y2 hi2 hPW2
  have q1c := cell_blk y1
  have q1f := frz_blk y1
  have q0c := cell_blk x0
  have q0f := frz_blk x0
  gi_wp2
  refine wpIn_name ?_
  intro W3 h3
  obtain ⟨b5, hb5⟩ : ∃ b, b = W2.heap.size := ⟨_, rfl⟩
  have hE3' : Ext2 W2 W3 := by rw [h3]; exact below_alloc' _ _
  have y5 : W3.heap[b5]? = some (Obj.cells #[.int .i64 (ownT S M c 0).lo, .int .i64 (ownT S M c 0).hi] 25) := by
    rw [h3, hb5]; refine (blk_new _ _).trans ?_
    simp only [ownT]; rw [HR.out]; rfl
  have hE3 := ext_trans hE2 hE3'
  have HPW3 := Lib.hid (HP0.out.below hE3)
  have HI3 := Lib.hid (HI.out _ _ _ H0.out (Sd.ext hE3 (Nat.le_refl _)))
  have hle5 : W.heap.size ≤ b5 := by rw [hb5]; exact hsz2
  have Y5 := Lib.hid y5
  rw [← hb5]
  have HE3 := Lib.hid (Bw.ext (B := B) (T := T) hE3 hBW)
  have hsz3 := hE3.size
  have hrA : (r : Int) = atI S M c 0 := HR.out.symm
  have HRA := Lib.hid hrA
  clear q0c q0f q1c q1f x0 y1 e1 e2 h3 hb5 hE3' y5 hE3 HI2 HPW2 hE2 hrA
  gi_loopw [4, 6, 26] (fun v z h wr => ∃ (m n : Nat), v = .int .i64 (atI S M c m) ∧ z = .int .i64 (m : Int) ∧ h = .int .i64 (n : Int) ∧ n ≤ 2401 ∧ m ≤ M.length ∧ (∀ i, i < m → (mvD M i).hour < (n : Int)) ∧ W.heap.size ≤ wr.heap.size ∧ HrAt S ⟨⟨some ⟨rb, roff, none⟩, rc⟩, ⟨some ⟨cb, coff, none⟩, cc⟩, ps⟩ b M ⟨ka, kc⟩ b1 b2 c wr ∧ wr.heap[b5]? = some (Obj.cells #[.int .i64 (ownT S M c n).lo, .int .i64 (ownT S M c n).hi] 25) ∧ I n wr) (fun _ _ h _ => 2401 - (intOf h).toNat)
  case atStart => exact ⟨0, 0, by rw [HRA.out], rfl, rfl, by omega, by omega, fun i hi => absurd hi (Nat.not_lt_zero i), hsz3, HPW3.out, Y5.out, HI3.out⟩
  case round =>
    obtain ⟨m, n, rfl, rfl, rfl, hn, hm, hlo, hsw, hP, y5, hi⟩ := hrel
    have HLO := Lib.hid hlo; have HP := Lib.hid hP; have HIK := Lib.hid hi
    clear hlo hP hi
    by_cases hlt : n < 2401
    · have w3' : IntKind.i64.wrap ((n : Int) + 1) = (n : Int) + 1 := IntWalk.i64_in _ (by omega)
      have hd27 : decide ((n : Int) < 2401) = true := decide_eq_true (by omega)
      have hi27 : (n : Int) < 2401 := by omega
      have Y5n := Lib.hid y5
      have hle : ∀ i, i < m → (mvD M i).hour ≤ (n : Int) := fun i hi => by have := HLO.out i hi; omega
      have HLE := Lib.hid hle
      clear y5 hle
      gi_wp2
      obtain ⟨wo, hwo⟩ : ∃ wo, wo = wr := ⟨_, rfl⟩
      rw [← hwo] at HP HIK Y5n hsw
      have hE0 : Ext2 wo wr := by rw [hwo]; exact Below.refl _ _
      clear hwo
      gi_loopw [4, 6] (fun v z wi => ∃ q : Nat, v = .int .i64 (atI S M c q) ∧ z = .int .i64 (q : Int) ∧ q ≤ M.length ∧ (∀ i, i < q → (mvD M i).hour ≤ (n : Int)) ∧ Ext2 wo wi) (fun _ z _ => M.length - (intOf z).toNat)
      case atStart => exact ⟨m, rfl, rfl, hm, HLE.out, hE0⟩
      case round =>
        clear hE0
        obtain ⟨q, rfl, rfl, hq, hlq, hE⟩ := hrel
        have HLQ := Lib.hid hlq
        have hPq := HP.out.below hE
        have HPq := Lib.hid hPq
        have y1 := hPq.box1; have y2 := hPq.box2; have x0 := hPq.vlt.blk
        have t0 : (0 : Int) ≤ (q : Int) := by omega
        have w4' : IntKind.i64.wrap ((q : Int) + 1) = (q : Int) + 1 := IntWalk.i64_in _ (by omega)
        clear hlq hPq
        have q1c := cell_blk y1
        have q1f := frz_blk y1
        have q2c := cell_blk y2
        have q2f := frz_blk y2
        have q0c := cell_blk x0
        have q0f := frz_blk x0
        by_cases hgo : q < M.length ∧ (mvD M q).hour ≤ (n : Int)
        · obtain ⟨hg1, hg2⟩ := hgo
          obtain ⟨mb, moff, hka, m0, m1, m2⟩ := mv_cells HPq.out.vlt.kept hg1
          dsimp only at hka
          subst hka
          obtain ⟨mm, hmm⟩ : ∃ mm, mm = mvD M q := ⟨_, rfl⟩
          have HLH := Lib.hid hg2
          rw [← hmm] at m0 m1 m2 hg2
          have HMM := Lib.hid hmm
          have t1 : (q : Int) < (M.length : Int) := by omega
          have hat : atI S M c (q + 1) = if mm.can = (c : Int) then mm.to_ else atI S M c q := by rw [atI, ← hmm]
          have HAT := Lib.hid hat
          clear hmm hat
          gi_wp2
          rw [HF.out]
          have hnx : ∀ W5, Ext2 wr W5 → (∀ i, i < q + 1 → (mvD M i).hour ≤ (n : Int)) ∧ Ext2 wo W5 := fun W5 h5 => ⟨fun i hi => by
            rcases Nat.lt_or_ge i q with h | h
            · exact HLQ.out i h
            · obtain rfl : i = q := by omega
              exact HLH.out, ext_trans hE h5⟩
          have HNX := Lib.hid hnx
          clear hnx hE
          by_cases hcan : mm.can = (c : Int)
          · have hcb : (mm.can == (c : Int)) = true := by simp [hcan]
            have HA2 : Hid (mm.to_ = atI S M c (q + 1)) := Lib.hid (by rw [HAT.out, if_pos hcan])
            clear hcan
            refine wide_region_ev [0, 1, 2, 3, 4, 5, 6, 7, 8, 9] [] (by rintro ⟨a_, w_, h_⟩; have h2_ : (∃ v, Ending.outgrown = Ending.returned v) ∧ _ := h_; obtain ⟨⟨v_, hv_⟩, -⟩ := h2_; cases hv_) (by kernel_rfl) (by kernel_rfl) (by intro c a d v w h; cases d <;> exact h) ?_
            simp only [picks, List.drop_succ_cons, List.drop_zero]
            repeat ((with_reducible refine wpQ2_step (fun K hK => ?_)); go_simp; first | ((with_reducible refine hK _ ?_); clear hK K) | (apply Exists.intro; refine ⟨fun x => ?_, hK _ ?_⟩; (fail); clear hK K))
            refine wpQ2_nil ?_
            intro W5 hE5
            have m2' := ext_cell' hE5 m2
            have y1 := Ext2.blk hE5 y1; have x0 := Ext2.blk hE5 x0
            obtain ⟨hn1, hn2⟩ := HNX.out W5 hE5
            have HN1 := Lib.hid hn1; have HN2 := Lib.hid hn2
            clear q0c q0f q1c q1f q2c q2f m0 m1 m2 y2 hE5 hn1 hn2
            have q1c := cell_blk y1
            have q1f := frz_blk y1
            have q0c := cell_blk x0
            have q0f := frz_blk x0
            gi_wp2
            go_roundw
            case rel => exact ⟨q + 1, by rw [HA2.out], by go_num, by omega, HN1.out, HN2.out⟩
            case measure => simp [intOf]; omega
          · have hcb : (mm.can == (c : Int)) = false := by simp [hcan]
            have HA2 : Hid (atI S M c (q + 1) = atI S M c q) := Lib.hid (by rw [HAT.out, if_neg hcan])
            clear hcan
            refine wide_region_ev [0, 1, 2, 3, 4, 5, 6, 7, 8, 9] [] (by rintro ⟨a_, w_, h_⟩; have h2_ : (∃ v, Ending.outgrown = Ending.returned v) ∧ _ := h_; obtain ⟨⟨v_, hv_⟩, -⟩ := h2_; cases hv_) (by kernel_rfl) (by kernel_rfl) (by intro c a d v w h; cases d <;> exact h) ?_
            simp only [picks, List.drop_succ_cons, List.drop_zero]
            repeat ((with_reducible refine wpQ2_step (fun K hK => ?_)); go_simp; first | ((with_reducible refine hK _ ?_); clear hK K) | (apply Exists.intro; refine ⟨fun x => ?_, hK _ ?_⟩; (fail); clear hK K))
            refine wpQ2_nil ?_
            intro W5 hE5
            obtain ⟨hn1, hn2⟩ := HNX.out W5 hE5
            have HN1 := Lib.hid hn1; have HN2 := Lib.hid hn2
            clear q0c q0f q1c q1f q2c q2f m0 m1 m2 y1 y2 x0 hE5 hn1 hn2
            gi_wp2
            go_roundw
            case rel => exact ⟨q + 1, by rw [HA2.out], by go_num, by omega, HN1.out, HN2.out⟩
            case measure => simp [intOf]; omega
        · have hnb : q < M.length → (n : Int) < (mvD M q).hour := fun h => by
            refine Int.not_le.1 fun h2 => hgo ⟨h, h2⟩
          have hat : atV S M c (n : Int) = atI S M c q := atV_atI HSO.out hq HLQ.out hnb
          have hin := HCK.out.atIn HMV.out hc (n : Int)
          have HYN := HY.out n wr hlt (HI.out _ _ _ HIK.out (Sd.ext hE hsw))
          rw [hat] at hin HYN
          have HYQ := Lib.hid HYN
          have y5 := Ext2.blk hE Y5n.out
          obtain ⟨rr, hrr⟩ : ∃ rr : Nat, atI S M c q = (rr : Int) := ⟨(atI S M c q).toNat, by omega⟩
          have HRR := Lib.hid hrr
          have hrm := HCK.out.rmAt HMV.out hc (n : Int)
          have hrat : rmAt S M c (n : Int) = rmD S.rooms rr := by unfold rmAt; rw [hat, hrr]; rfl
          have hown : ownT S M c (n + 1) = warmV S (rmD S.rooms rr) (ownT S M c n) := by rw [ownT, hrat]
          rw [hrat] at hrm
          have HOWN := Lib.hid hown
          have HRM := Lib.hid hrm.1
          have HTI := Lib.hid (HCK.out.own HMV.out hc n)
          have hrl2 : rr < S.rooms.length := by omega
          obtain ⟨tt, htt⟩ : ∃ t, t = ownT S M c n := ⟨_, rfl⟩
          rw [← htt] at y5 HYQ HOWN HTI
          have Y5 := Lib.hid y5
          have HLV := Lib.hid (show ∀ i, i < q → (mvD M i).hour < ((n + 1 : Nat) : Int) from fun i hi => by have := HLQ.out i hi; omega)
          have hq2 : (q < M.length ∧ (n : Int) < (mvD M q).hour) ∨ ¬ q < M.length := by
            by_cases h : q < M.length
            · exact .inl ⟨h, hnb h⟩
            · exact .inr h
          have hsr : W.heap.size ≤ wr.heap.size := Nat.le_trans hsw hE.size
          clear hgo hnb hat hin HYN hrr hrm hrat hown htt hE
          have hfin : ∀ (u : Value) (W6 W7 W8 : World), HrAt S ⟨⟨some ⟨rb, roff, none⟩, rc⟩, ⟨some ⟨cb, coff, none⟩, cc⟩, ps⟩ b M ⟨ka, kc⟩ b1 b2 c W6 → True := fun _ _ _ _ _ => trivial
          clear hfin
          obtain ⟨fn, tmps, assign, body, hy, hR9⟩ := HYQ.out
          have HRR2 := Lib.hid hR9
          clear hR9
          rcases hq2 with ⟨hg1, hg2⟩ | hg1
          · obtain ⟨mb, moff, hka, m0, -, -⟩ := mv_cells HPq.out.vlt.kept hg1
            dsimp only at hka
            subst hka
            have t1 : (q : Int) < (M.length : Int) := by omega
            have q5c := cell_blk y5
            have q5f := frz_blk y5
            gi_wp2
            refine HRR2.out.mono ?_
            rintro e W3 (⟨rfl, hB3, hI3⟩ | ⟨rfl, hkf, hX⟩)
            · have hP3 := HPK.out _ _ HPq.out hB3
              have y53 := hB3.blk Y5.out (HTS.out b5 hle5 _ (by simp))
              have y13 := hP3.box1
              have HWM := Lib.hid (warm_any hP3.vlt hrl2 HCK.out.rates HRM.out HTI.out)
              rw [← HOWN.out] at HWM
              obtain ⟨nx, hnx⟩ : ∃ nx, nx = ownT S M c (n + 1) := ⟨_, rfl⟩
              rw [← hnx] at HWM
              have HNX := Lib.hid hnx
              have HP3 := Lib.hid hP3; have HI3' := Lib.hid hI3; have HB3 := Lib.hid hB3
              have Y53 := Lib.hid y53
              have hs3 := hB3.bel.size
              have hsz3 := hB3.others.size
              clear q0c q0f q1c q1f q2c q2f q5c q5f hP3 hI3 hB3 hnx hy y1 y2 x0 y5 HRR2 m0
              rw [HRR.out]
              have q1c := cell_blk y13
              have q1f := frz_blk y13
              have q5c := cell_blk y53
              have q5f := frz_blk y53
              gi_wp2
              rw [HF.out]
              refine ⟨trivial, CallsIn.mono (callsIn_wide.2 HWM.out) ?_⟩
              rintro e W4 ⟨rfl, hb4⟩
              have y54 := Ext2.blk hb4 Y53.out
              have hP4 := HP3.out.below hb4
              have HP4 := Lib.hid hP4; have Y54 := Lib.hid y54
              have hs4 := hb4.size
              have hSd : ∀ x y : Value, Sd W.heap.size [25] W3 ((W4.setCell ⟨b5, 0, none⟩ x).setCell ⟨b5, 1, none⟩ y) := fun x y => ((Sd.ext hb4 (Nat.le_trans hsr hsz3)).trans (Sd.set y54 (by simp) hle5 x)).trans (Sd.set (blk_set y54 _ _) (by simp) hle5 y)
              have HSD := Lib.hid hSd
              clear q1c q1f q5c q5f y53 y13 hP4 hb4 hSd
              have q5c := cell_blk y54
              have q5f := frz_blk y54
              clear y54
              gi_wp2
              go_roundw
              case rel =>
                refine ⟨q, n + 1, by rw [HRR.out], rfl, by go_num, by omega, hq, HLV.out, ?_, ?_, ?_, HI.out _ _ _ HI3'.out (HSD.out _ _)⟩
                · simp; omega
                · exact HrAt.later HP0.out HP4.out (below_set (below_set (Below.refl _ _) hle5) hle5)
                · refine Eq.trans (blk_set (blk_set Y54.out _ _) _ _) ?_
                  rw [← HNX.out]; rfl
              case measure => simp [intOf]; omega
            · have HX := Lib.hid hX
              clear hX hkf hy
              gi_wp2
              refine bodyPost_ret (results_none rfl _ _ _) rfl ?_
              exact ⟨⟨_, rfl⟩, .inr ⟨n, hlt, HX.out⟩⟩
          · skip
            have q5c := cell_blk y5
            have q5f := frz_blk y5
            gi_wp2
            refine HRR2.out.mono ?_
            rintro e W3 (⟨rfl, hB3, hI3⟩ | ⟨rfl, hkf, hX⟩)
            · have hP3 := HPK.out _ _ HPq.out hB3
              have y53 := hB3.blk Y5.out (HTS.out b5 hle5 _ (by simp))
              have y13 := hP3.box1
              have HWM := Lib.hid (warm_any hP3.vlt hrl2 HCK.out.rates HRM.out HTI.out)
              rw [← HOWN.out] at HWM
              obtain ⟨nx, hnx⟩ : ∃ nx, nx = ownT S M c (n + 1) := ⟨_, rfl⟩
              rw [← hnx] at HWM
              have HNX := Lib.hid hnx
              have HP3 := Lib.hid hP3; have HI3' := Lib.hid hI3; have HB3 := Lib.hid hB3
              have Y53 := Lib.hid y53
              have hs3 := hB3.bel.size
              have hsz3 := hB3.others.size
              clear q0c q0f q1c q1f q2c q2f q5c q5f hP3 hI3 hB3 hnx hy y1 y2 x0 y5 HRR2 
              rw [HRR.out]
              have q1c := cell_blk y13
              have q1f := frz_blk y13
              have q5c := cell_blk y53
              have q5f := frz_blk y53
              gi_wp2
              rw [HF.out]
              refine ⟨trivial, CallsIn.mono (callsIn_wide.2 HWM.out) ?_⟩
              rintro e W4 ⟨rfl, hb4⟩
              have y54 := Ext2.blk hb4 Y53.out
              have hP4 := HP3.out.below hb4
              have HP4 := Lib.hid hP4; have Y54 := Lib.hid y54
              have hs4 := hb4.size
              have hSd : ∀ x y : Value, Sd W.heap.size [25] W3 ((W4.setCell ⟨b5, 0, none⟩ x).setCell ⟨b5, 1, none⟩ y) := fun x y => ((Sd.ext hb4 (Nat.le_trans hsr hsz3)).trans (Sd.set y54 (by simp) hle5 x)).trans (Sd.set (blk_set y54 _ _) (by simp) hle5 y)
              have HSD := Lib.hid hSd
              clear q1c q1f q5c q5f y53 y13 hP4 hb4 hSd
              have q5c := cell_blk y54
              have q5f := frz_blk y54
              clear y54
              gi_wp2
              go_roundw
              case rel =>
                refine ⟨q, n + 1, by rw [HRR.out], rfl, by go_num, by omega, hq, HLV.out, ?_, ?_, ?_, HI.out _ _ _ HI3'.out (HSD.out _ _)⟩
                · simp; omega
                · exact HrAt.later HP0.out HP4.out (below_set (below_set (Below.refl _ _) hle5) hle5)
                · refine Eq.trans (blk_set (blk_set Y54.out _ _) _ _) ?_
                  rw [← HNX.out]; rfl
              case measure => simp [intOf]; omega
            · have HX := Lib.hid hX
              clear hX hkf hy
              gi_wp2
              refine bodyPost_ret (results_none rfl _ _ _) rfl ?_
              exact ⟨⟨_, rfl⟩, .inr ⟨n, hlt, HX.out⟩⟩
    · obtain rfl : n = 2401 := by omega
      gi_wp2
      go_end0
      exact ⟨⟨_, rfl⟩, .inl HIK.out⟩
end Go.Proofs.YtfpaihjcbpaneaaGreatDoor
namespace Go.Proofs.YtfpaihjcbpaneaaGreatDoor
open Go.RowKit D
set_option linter.unusedVariables false
set_option linter.unusedSimpArgs false
attribute [local go_sem high] run_minI run_maxI
attribute [local go_sem] upon2 cls_cell cls_frozen forall_const exists_eq_left'
attribute [local go_sem] FirstUpon
theorem hoursIter {S : Site} {s : SSl} {b b1 b2 c B : Nat} {M : List Mv} {kk : Sl} (hC : Chk S) (hM : ∀ m ∈ M, mvE S m = 0) (hso : SortH M) (hc : c < S.cans.length) (hml : M.length ≤ 60) (hB : B ≤ b1) :
    IterT Tryz.prog 68 #[.pointer (some ⟨b1, 0, none⟩), .pointer (some ⟨b2, 0, none⟩)] 2401 (fun k => #[.agg #[.int .i64 (ownT S M c k).lo, .int .i64 (ownT S M c k).hi], .int .i64 (atV S M c (k : Int))]) [25] B (HrAt S s b M kk b1 b2 c) :=
  fun T l I X W hp0 hpk hts h0 hI _ hY => callsIn_wide.2 (callsIn_wide.1 (hoursIter_in Fence.wide rfl rfl hC hM hso hc hml T l I X W hp0 (Nat.le_of_lt (Nat.lt_of_le_of_lt hB (blk_lt hp0.box1))) hpk hts h0 hI hY))
/-- What the iterator finds, behind a body that turns what lies elsewhere. -/
theorem HrAt.bw {S : Site} {s : SSl} {b : Nat} {M : List Mv} {kk : Sl} {b1 b2 c : Nat} {w W W' : World} {T : Nat → TypeId → Prop} (h0 : VltAt w S s b M kk) (h : HrAt S s b M kk b1 b2 c W) (hb : Bw w.heap.size T W W') (n1 : ¬ T b1 66) (n2 : ¬ T b2 3) : HrAt S s b M kk b1 b2 c W' :=
  ⟨hb.blk h.box1 n1, hb.blk h.box2 n2, h0.later h.vlt hb.bel⟩
theorem hours_any (b : Nat) (c : Int) (w : World) : Calls Tryz.prog 34 #[.pointer (some ⟨b, 0, none⟩), .int .i64 c] w fun e w' => e = .returned (.func (.func 68) #[] #[.pointer (some ⟨w.heap.size, 0, none⟩), .pointer (some ⟨w.heap.size + 1, 0, none⟩)]) ∧ w' = (w.alloc (.cells #[.pointer (some ⟨b, 0, none⟩)] 66 (0, 0))).alloc (.cells #[.int .i64 c] 3 (0, 0)) := by
  go_enter Tryz.func34, Tryz.ntmps34
  go_wp2
  go_ret
  exact ⟨by simp, rfl⟩
end Go.Proofs.YtfpaihjcbpaneaaGreatDoor
namespace Go.Proofs.YtfpaihjcbpaneaaGreatDoor
open Go.RowKit D
set_option linter.unusedVariables false
set_option linter.unusedSimpArgs false
attribute [local go_sem high] run_minI run_maxI
theorem leaveM_take {fn : Func} {R : Ending → World → Prop} {w1 : World} {d : Nat} {u : FrameMode} {tmps : Array Value} {ds : List Deferred} (hu : u ≠ .run) (hd : w1.heap[d]? = some (.deferred (some []))) (hr : LeavesInM Fence.wide 0 Tryz.prog fn tmps R ds u (w1.putObj d (.deferred none))) :
    LeavesInM Fence.wide 0 Tryz.prog fn tmps R ({ target := .collected d, args := #[] } :: ds) u w1 :=
  ⟨hu, .inl ⟨_, _, rfl, run_takeDeferred hd, hr⟩⟩
theorem blk_put {W : World} {b d : Nat} {x o : Obj} (h : W.heap[b]? = some x) (hne : b ≠ d) : (W.putObj d o).heap[b]? = some x := (World.putObj_heap_other hne).trans h
theorem below_put {B d : Nat} {w W : World} {o : Obj} (h : Below B w W) (hB : B ≤ d) : Below B w (W.putObj d o) :=
  ⟨h.os, h.tape, h.output, Nat.le_trans h.size (grownBy_putObj' W d o).size, fun k hk => (World.putObj_heap_other (by omega)).trans (h.block k hk)⟩
end Go.Proofs.YtfpaihjcbpaneaaGreatDoor
namespace Go.Proofs.YtfpaihjcbpaneaaGreatDoor
open Go.RowKit D
set_option linter.unusedVariables false
set_option linter.unusedSimpArgs false
attribute [local go_sem high] run_minI run_maxI
attribute [local go_sem] upon2 cls_cell cls_frozen forall_const exists_eq_left'
attribute [local go_sem] FirstUpon Oper.semAt_some
/-- Between two rounds of temp. -/
structure TmpSt (S : Site) (M : List Mv) (c h n5 n6 : Nat) (w w2 : World) (W : World) (k : Nat) : Prop where
  bel : Below w.heap.size w W
  size : w2.heap.size ≤ W.heap.size
  le : k ≤ h
  hour : W.heap[n5]? = some (.cells #[.int .i64 ((h : Int) - (k : Int))] 3 (0, 0))
  at_ : ∃ t : Span, W.heap[n6]? = some (Obj.cells #[.int .i64 t.lo, .int .i64 t.hi] 25)
theorem TmpSt.sd {S : Site} {M : List Mv} {c h n5 n6 : Nat} {w w2 W W' : World} {k B : Nat} {ts : List TypeId} (hS : TmpSt S M c h n5 n6 w w2 W k) (hs : Sd B ts W W') (hB : w.heap.size ≤ B) (l5 : n5 < B) (l6 : n6 < B) : TmpSt S M c h n5 n6 w w2 W' k := by
  obtain ⟨t, ht⟩ := hS.at_
  exact ⟨hS.bel.trans (hs.bel.mono hB), Nat.le_trans hS.size hs.bel.size, hS.le, (hs.bel.block _ l5).trans hS.hour, t, (hs.bel.block _ l6).trans ht⟩
theorem four_blk (w : World) (o1 o2 o3 o4 : Obj) : ((((w.alloc o1).alloc o2).alloc o3).alloc o4).heap[w.heap.size]? = some o1 ∧ ((((w.alloc o1).alloc o2).alloc o3).alloc o4).heap[w.heap.size + 1]? = some o2 ∧ ((((w.alloc o1).alloc o2).alloc o3).alloc o4).heap[w.heap.size + 2]? = some o3 ∧ ((((w.alloc o1).alloc o2).alloc o3).alloc o4).heap[w.heap.size + 3]? = some o4 ∧ ((((w.alloc o1).alloc o2).alloc o3).alloc o4).heap.size = w.heap.size + 4 ∧ Ext2 w ((((w.alloc o1).alloc o2).alloc o3).alloc o4) := by
  have s1 := World.size_alloc w o1; have s2 := World.size_alloc (w.alloc o1) o2; have s3 := World.size_alloc ((w.alloc o1).alloc o2) o3; have s4 := World.size_alloc (((w.alloc o1).alloc o2).alloc o3) o4
  have n2 := World.alloc_heap_new (w.alloc o1) o2
  have n3 := World.alloc_heap_new ((w.alloc o1).alloc o2) o3
  have n4 := World.alloc_heap_new (((w.alloc o1).alloc o2).alloc o3) o4
  rw [s1] at n2; rw [s2, s1] at n3; rw [s3, s2, s1] at n4
  exact ⟨blk_alloc (blk_alloc (blk_alloc (blk_new w _) _) _) _, blk_alloc (blk_alloc n2 _) _, blk_alloc n3 _, n4, by omega, ext_trans (ext_trans (ext_trans (below_alloc' _ _) (below_alloc' _ _)) (below_alloc' _ _)) (below_alloc' _ _)⟩
def tmpT (n5 n6 : Nat) (g : Nat) (_ : TypeId) : Prop := g = n5 ∨ g = n6
set_option maxRecDepth 100000 in
set_option maxHeartbeats 8000000 in
theorem vtemp_any {S : Site} {s : SSl} {b : Nat} {M : List Mv} {k : Sl} {c h : Nat} {w : World} (hV : VltAt w S s b M k) (hC : Chk S) (hM : ∀ m ∈ M, mvE S m = 0) (hso : SortH M) (hc : c < S.cans.length) (hml : M.length ≤ 60) (hh : h ≤ 2400) :
    Calls Tryz.prog 47 #[.pointer (some ⟨b, 0, none⟩), .int .i64 (c : Int), .int .i64 (h : Int)] w fun e w' => e = .returned (.agg #[.int .i64 (ownT S M c h).lo, .int .i64 (ownT S M c h).hi]) ∧ Below w.heap.size w w' := by
  have HV := Lib.hid hV; have HC := Lib.hid hC; have HM := Lib.hid hM; have HSO := Lib.hid hso
  clear hV hC hM hso
  refine calls_of_wp_marks Tryz.func47 rfl ?_
  simp only [Tryz.ntmps47, List.size_toArray, List.length_cons, List.length_nil, Nat.reduceAdd, Nat.reduceSub, Array.replicate_succ, Array.replicate_zero, List.push_toArray, List.append_toArray, List.nil_append, List.cons_append]
  go_wp2_with (fail)
  refine (hours_any _ _ _).mono ?_
  rintro e w1 ⟨rfl, hw1⟩
  obtain ⟨n5, hn5⟩ : ∃ n, n = w.heap.size := ⟨_, rfl⟩
  obtain ⟨n6, hn6⟩ : ∃ n, n = n5 + 1 := ⟨_, rfl⟩
  obtain ⟨b1, hb1⟩ : ∃ n, n = n6 + 1 := ⟨_, rfl⟩
  obtain ⟨b2, hb2⟩ : ∃ n, n = b1 + 1 := ⟨_, rfl⟩
  have hE1 : Ext2 w w1 := by rw [hw1]; exact (four_blk w _ _ _ _).2.2.2.2.2
  have x5 : w1.heap[n5]? = some (.cells #[.int .i64 (h : Int)] 3 (0, 0)) := by
    rw [hw1, hn5]; exact (four_blk w _ _ _ _).1
  have x6 : w1.heap[n6]? = some (Obj.cells #[.int .i64 (⟨0, 0⟩ : Span).lo, .int .i64 (⟨0, 0⟩ : Span).hi] 25) := by
    rw [hw1, hn6, hn5]; exact (four_blk w _ _ _ _).2.1
  have y1 : w1.heap[b1]? = some (.cells #[.pointer (some ⟨b, 0, none⟩)] 66 (0, 0)) := by
    rw [hw1, hb1, hn6, hn5]; exact (four_blk w _ _ _ _).2.2.1
  have y2 : w1.heap[b2]? = some (.cells #[.int .i64 (c : Int)] 3 (0, 0)) := by
    rw [hw1, hb2, hb1, hn6, hn5]; exact (four_blk w _ _ _ _).2.2.2.1
  have hsz : w1.heap.size = n5 + 4 := by rw [hw1, hn5]; simp
  simp only [World.size_alloc]
  rw [← hn5, ← hn6, ← hb1, ← hb2]
  have hm : HrAt S s b M k b1 b2 c w1 := ⟨y1, y2, HV.out.below hE1⟩
  have HH := Lib.hid hm
  have HE1 := Lib.hid hE1
  have lw : w.heap.size ≤ n5 := by omega
  have l56 : n5 < n6 := by omega
  have l6b : n6 < b1 := by omega
  have lb12 : b1 < b2 := by omega
  have lb2 : b2 < w1.heap.size := by omega
  clear hw1 y1 y2 hm hE1 hsz hb2 hb1 hn6 hn5
  go_wp2_with (fail)
  refine wp_aname ?_
  intro a0 ha0
  refine st_out (B9 := w1.heap.size) (gf := 68) (lb := #[.pointer (some ⟨b1, 0, none⟩), .pointer (some ⟨b2, 0, none⟩)]) (by rw [ha0]; rfl) (enters_of Tryz.func68 (by kernel_rfl) rfl) (hoursIter (s := s) (b := b) (b1 := b1) (b2 := b2) (kk := k) (B := w.heap.size) HC.out HM.out HSO.out hc hml (by omega)) (ts := tmpT n5 n6)
    (fun W1 W2 h1 h2 => h1.bw HV.out h2 (by unfold tmpT; omega) (by unfold tmpT; omega)) (fun g hg t _ => by unfold tmpT; omega) (fun _ => rfl)
    (fun j W => TmpSt S M c h n5 n6 w w1 W j)
    (fun j a' W => ∃ b9, W.heap[b9]? = some (Obj.cells #[.int .i64 (ownT S M c j).lo, .int .i64 (ownT S M c j).hi] 25) ∧ b9 ≠ n5 ∧ b9 ≠ n6 ∧ w.heap.size ≤ b9 ∧ TmpSt S M c h n5 n6 w w1 W j ∧ a' = { tmps := ((a0.tmps.setIfInBounds 11 (.agg #[.int .i64 (ownT S M c j).lo, .int .i64 (ownT S M c j).hi])).setIfInBounds 12 (.int .i64 (atV S M c (j : Int)))).setIfInBounds 7 (.pointer (some ⟨b9, 0, none⟩)), defers := [] })
    (fun cd j W => cd = .exit 0 ∧ Below w.heap.size w W ∧ w1.heap.size ≤ W.heap.size ∧ W.heap[n6]? = some (Obj.cells #[.int .i64 (ownT S M c h).lo, .int .i64 (ownT S M c h).hi] 25)) ?hI ?hJ ?hX ?hBB ?hp0 ?h0 ?h9 ?assign ?body ?done ?stop
  case hI => exact fun j W W' hs hd => hs.sd hd (by omega) (by omega) (by omega)
  case hJ =>
    rintro j a' W W' ⟨b9, h1, h2, h3, h4, h5, h6⟩ hs
    exact ⟨b9, hs.keep _ _ _ _ h1 (by decide), h2, h3, h4, h5.sd hs (by omega) (by omega) (by omega), h6⟩
  case hX =>
    rintro cd j W W' ⟨h1, h2, h3, h4⟩ hs
    exact ⟨h1, h2.trans (hs.bel.mono (by omega)), Nat.le_trans h3 hs.bel.size, (hs.bel.block _ (by omega)).trans h4⟩
  case hBB => omega
  case hp0 => exact fun W hW => HH.out.below hW
  case h0 => exact ⟨HE1.out, Nat.le_refl _, Nat.zero_le _, by simpa using x5, ⟨0, 0⟩, x6⟩
  case h9 => exact Nat.le_refl _
  case assign =>
    rintro l j W hj hi
    subst ha0
    gi_wp2
    have h6 := hi.size
    exact ⟨Bw.ext (below_alloc' _ _) (by omega), W.heap.size, blk_new _ _, by omega, by omega, by omega, hi.sd (Sd.alloc (B := W.heap.size) (ts := []) _ (Nat.le_refl _)) (by omega) (by omega) (by omega), by simp only [List.setIfInBounds_toArray, List.set_cons_succ, List.set_cons_zero]⟩
  case body =>
    rintro l j a' W hl hr hj ⟨b9, x9, n95, n96, h9, hS, rfl⟩
    subst ha0
    obtain ⟨hB, hz, hjh, x5, t, x6⟩ := hS
    simp only [List.setIfInBounds_toArray, List.set_cons_succ, List.set_cons_zero]
    have q9c := cell_blk x9
    have q9f := frz_blk x9
    have q5c := cell_blk x5
    have q5f := frz_blk x5
    have q6c := cell_blk x6
    have q6f := frz_blk x6
    have w3' : IntKind.i64.wrap ((h : Int) - (j : Int) - 1) = (h : Int) - (j : Int) - 1 := IntWalk.i64_in _ (by omega)
    by_cases hjj : j = h
    · subst hjj
      have hd : ((j : Int) - (j : Int) == 0) = true := by simp
      gi_wp2
      have x6' : ((W.setCell ⟨n6, 0, none⟩ (.int .i64 (ownT S M c j).lo)).setCell ⟨n6, 1, none⟩ (.int .i64 (ownT S M c j).hi)).heap[n6]? = some (Obj.cells #[.int .i64 (ownT S M c j).lo, .int .i64 (ownT S M c j).hi] 25) := Eq.trans (blk_set (blk_set x6 _ _) _ _) rfl
      refine ⟨⟨by simp, fun g o hg ho _ => blk_set_ne (blk_set_ne ho (by omega)) (by omega)⟩, rfl, below_set (below_set hB (by omega)) (by omega), by simpa using hz, x6'⟩
    · have hd : ((h : Int) - (j : Int) == 0) = false := by simp; omega
      gi_wp2
      have hb1 : Bw w.heap.size (tmpT n5 n6) W ((W.setCell ⟨n6, 0, none⟩ (.int .i64 (ownT S M c j).lo)).setCell ⟨n6, 1, none⟩ (.int .i64 (ownT S M c j).hi)) := (Bw.set x6 (Or.inr rfl) (by omega) _).trans (Bw.set (blk_set x6 _ _) (Or.inr rfl) (by omega) _)
      have x5' := blk_set_ne (b' := n6) (o := 1) (v := .int .i64 (ownT S M c j).hi) (blk_set_ne (b' := n6) (o := 0) (v := .int .i64 (ownT S M c j).lo) x5 (by omega)) (by omega)
      have x6' : ((W.setCell ⟨n6, 0, none⟩ (.int .i64 (ownT S M c j).lo)).setCell ⟨n6, 1, none⟩ (.int .i64 (ownT S M c j).hi)).heap[n6]? = some (Obj.cells #[.int .i64 (ownT S M c j).lo, .int .i64 (ownT S M c j).hi] 25) := Eq.trans (blk_set (blk_set x6 _ _) _ _) rfl
      have hb2 := hb1.trans (Bw.set (o := 0) x5' (Or.inl rfl) lw (.int .i64 ((h : Int) - (j : Int) - 1)))
      refine ⟨hb2, hB.trans hb2.bel, Nat.le_trans hz hb2.bel.size, by omega, ?_, ownT S M c j, blk_set_ne x6' (by omega)⟩
      refine Eq.trans (blk_set x5' _ _) ?_
      have : (h : Int) - (j : Int) - 1 = (h : Int) - ((j + 1 : Nat) : Int) := by omega
      rw [this]; rfl
  case done =>
    rintro d W hd hS hD
    exact absurd hS.le (by omega)
  case stop =>
    rintro d cd j W hd hj ⟨rfl, hB, hz, x6⟩ hD
    subst ha0
    have q6c := cell_blk x6
    have q6f := frz_blk x6
    go_wp2_with (fail)
    have hb2 := below_set (o := 1) (v := .int .i64 (ownT S M c h).hi) (below_set (o := 0) (v := .int .i64 (ownT S M c h).lo) hB (show w.heap.size ≤ n6 by omega)) (show w.heap.size ≤ n6 by omega)
    have x6' : ((W.setCell ⟨n6, 0, none⟩ (.int .i64 (ownT S M c h).lo)).setCell ⟨n6, 1, none⟩ (.int .i64 (ownT S M c h).hi)).heap[n6]? = some (Obj.cells #[.int .i64 (ownT S M c h).lo, .int .i64 (ownT S M c h).hi] 25) := Eq.trans (blk_set (blk_set x6 _ _) _ _) rfl
    have hD' := blk_set_ne (b' := n6) (o := 1) (v := .int .i64 (ownT S M c h).hi) (blk_set_ne (b' := n6) (o := 0) (v := .int .i64 (ownT S M c h).lo) hD (by omega)) (by omega)
    generalize (W.setCell ⟨n6, 0, none⟩ (.int .i64 (ownT S M c h).lo)).setCell ⟨n6, 1, none⟩ (.int .i64 (ownT S M c h).hi) = wz at *
    refine leaveM_take (by simp) hD' ?_
    have z6 := blk_put (d := d) (o := .deferred none) x6' (by omega)
    have zc := cell_blk z6
    refine ⟨_, ?_, rfl, below_put hb2 (by omega)⟩
    simp [results, Tryz.results47, go_sem, zc]
end Go.Proofs.YtfpaihjcbpaneaaGreatDoor
