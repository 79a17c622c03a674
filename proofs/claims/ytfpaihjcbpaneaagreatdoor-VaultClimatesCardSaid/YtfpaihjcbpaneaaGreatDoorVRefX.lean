/-
  ref.Play, Where, Temp.
-/
import Derived.Test.YtfpaihjcbpaneaaGreatDoorVRefY
namespace Go.Proofs.YtfpaihjcbpaneaaGreatDoor
open Go.RowKit D
set_option linter.unusedVariables false
set_option linter.unusedSimpArgs false
attribute [local go_sem high] run_minI run_maxI
attribute [local go_sem] upon2 cls_cell cls_frozen forall_const exists_eq_left'
attribute [local go_sem] FirstUpon
set_option maxRecDepth 100000 in
set_option maxHeartbeats 8000000 in
theorem playAR_any {S : Site} {s : SSl} {L : List Mv} {sl : Sl} {w : World} (hS : SiteAt w S s) (hL : MovesS w sl L) :
    Calls Tryz.prog 12 #[.agg #[.slice s.r.a S.rooms.length s.r.cap, .slice s.c.a S.cans.length s.c.cap, .int .i64 S.rlo, .int .i64 S.rhi, .slice s.p.a S.steps.length s.p.cap], .slice sl.a L.length sl.cap] w (PlayAOut w S L) := by
  have HS := Lib.hid hS; have HL := Lib.hid hL
  clear hS hL
  go_enter Tryz.func12, Tryz.ntmps12
  go_wp2_with (fail)
  refine calls_name ?_
  intro w1 hw1
  obtain ⟨n2, hn2⟩ : ∃ n, n = w.heap.size := ⟨_, rfl⟩
  have hE1 : Ext2 w w1 := by rw [hw1]; exact below_alloc' _ _
  have X2 : Hid (w1.heap[n2]? = some (Obj.cells #[.slice s.r.a S.rooms.length s.r.cap, .slice s.c.a S.cans.length s.c.cap, .int .i64 S.rlo, .int .i64 S.rhi, .slice s.p.a S.steps.length s.p.cap] 28)) := Lib.hid (by rw [hw1, hn2]; exact blk_new _ _)
  rw [← hn2]
  refine (movedR_any (HS.out.below hE1) (HL.out.below hE1)).mono ?_
  rintro e w2 ⟨rfl, hb2⟩
  have HE2 := Lib.hid (ext_trans hE1 hb2)
  have x2 := Ext2.blk hb2 X2.out
  obtain ⟨x, hx⟩ : ∃ x, x = movedE S L := ⟨_, rfl⟩
  rw [← hx]
  have HX := Lib.hid hx
  have q2c := cell_blk x2
  have q2f := frz_blk x2
  clear hw1 hn2 hE1 hb2 hx x2
  by_cases hx0 : x = 0
  case neg =>
    have hd : (x != 0) = true := by simp [hx0]
    have HNE := Lib.hid hx0
    clear hx0
    go_wp2_with (fail)
    refine bodyPost_ret (v := .tuple #[.slice none 0 0, .slice none 0 0, .int .i64 x]) ?_ rfl ?_
    · simp [results, Tryz.results12, go_sem]
    have e1 : playMv S L = [] := if_neg (by rw [← HX.out]; exact HNE.out)
    have e2 : playWy S L = [] := if_neg (by rw [← HX.out]; exact HNE.out)
    refine ⟨⟨none, 0⟩, ⟨none, 0⟩, by rw [e1, e2, HX.out]; rfl, ?_, ?_, HE2.out⟩
    · rw [e1]; exact rowS_nil _ _ _
    · rw [e2]; exact rowS_nil _ _ _
  subst hx0
  have hd : ((0 : Int) != 0) = false := rfl
  obtain ⟨hck, h60, hval⟩ := movedE_ok HX.out.symm
  have HCL := Lib.hid (playR_any (w := w2) (HS.out.below HE2.out) (HL.out.below HE2.out) hck hval h60)
  have HVL := Lib.hid hval
  clear hck h60 hval
  go_wp2_with (fail)
  refine HCL.out.mono ?_
  rintro e w3 ⟨⟨v, u, rfl, hO, hU⟩, hb3⟩
  obtain ⟨⟨a1, a2⟩, rfl, hr1⟩ := hO.sl
  obtain ⟨⟨b1, b2⟩, rfl, hr2⟩ := hU.sl
  dsimp only
  have HE3 := Lib.hid (ext_trans HE2.out hb3)
  have HR1 := Lib.hid hr1; have HR2 := Lib.hid hr2
  clear q2c q2f hb3 hr1 hr2 hO hU
  go_wp2_with (fail)
  refine bodyPost_ret (v := .tuple #[.slice a1 (playV S L).1.length a2, .slice b1 L.length b2, .int .i64 0]) ?_ rfl ?_
  · simp [results, Tryz.results12, go_sem]
  have e1 : playMv S L = (playV S L).1 := if_pos HX.out.symm
  have e2 : playWy S L = (playV S L).2 := if_pos HX.out.symm
  have e3 : (playV S L).2.length = L.length := (played HVL.out (Nat.le_refl _)).len
  refine ⟨⟨a1, a2⟩, ⟨b1, b2⟩, by rw [e1, e2, e3, ← HX.out], ?_, ?_, HE3.out⟩
  · rw [e1]; exact HR1.out
  · rw [e2]; show RowS _ _ 1 _ _; rw [e3]; exact HR2.out
set_option maxRecDepth 100000 in
set_option maxHeartbeats 8000000 in
theorem whereAR_any {S : Site} {s : SSl} {L : List Mv} {sl : Sl} {h : Int} {w : World} (hS : SiteAt w S s) (hL : MovesS w sl L) :
    Calls Tryz.prog 16 #[.agg #[.slice s.r.a S.rooms.length s.r.cap, .slice s.c.a S.cans.length s.c.cap, .int .i64 S.rlo, .int .i64 S.rhi, .slice s.p.a S.steps.length s.p.cap], .slice sl.a L.length sl.cap, .int .i64 h] w (WhereOut w S L h) := by
  have HS := Lib.hid hS; have HL := Lib.hid hL
  have hcl := hS.cn.le; have hcm := hS.cn.max
  clear hS hL
  go_enter Tryz.func16, Tryz.ntmps16
  go_wp2_with (fail)
  refine calls_name ?_
  intro w1 hw1
  obtain ⟨n3, hn3⟩ : ∃ n, n = w.heap.size := ⟨_, rfl⟩
  have hE1 : Ext2 w w1 := by rw [hw1]; exact below_alloc' _ _
  have X3 : Hid (w1.heap[n3]? = some (Obj.cells #[.slice s.r.a S.rooms.length s.r.cap, .slice s.c.a S.cans.length s.c.cap, .int .i64 S.rlo, .int .i64 S.rhi, .slice s.p.a S.steps.length s.p.cap] 28)) := Lib.hid (by rw [hw1, hn3]; exact blk_new _ _)
  rw [← hn3]
  refine (movedR_any (HS.out.below hE1) (HL.out.below hE1)).mono ?_
  rintro e w2 ⟨rfl, hb2⟩
  have HE2 := Lib.hid (ext_trans hE1 hb2)
  have x3 := Ext2.blk hb2 X3.out
  have X32 := Lib.hid x3
  obtain ⟨x, hx⟩ : ∃ x, x = movedE S L := ⟨_, rfl⟩
  rw [← hx]
  have HX := Lib.hid hx
  have q3c := cell_blk x3
  have q3f := frz_blk x3
  clear hw1 hn3 hE1 hb2 hx x3
  by_cases hx0 : x = 0
  case neg =>
    have hd : (x != 0) = true := by simp [hx0]
    have hd2 : (x == 0) = false := by simp [hx0]
    have HNE := Lib.hid hx0
    clear hx0
    go_wp2_with (fail)
    refine bodyPost_ret (v := .tuple #[.slice none 0 0, .int .i64 x]) ?_ rfl ?_
    · simp [results, Tryz.results16, go_sem]
    have e0 : whereE S L h = x := by unfold whereE; rw [if_pos (by rw [← HX.out]; exact HNE.out), HX.out]
    have e1 : whereA S L h = [] := if_neg (by rw [e0]; exact HNE.out)
    exact ⟨⟨none, 0⟩, by rw [e1, e0]; rfl, by rw [e1]; exact rowS_nil _ _ _, HE2.out⟩
  subst hx0
  have hd : ((0 : Int) != 0) = false := rfl
  have hd2 : ((0 : Int) == 0) = true := rfl
  obtain ⟨v, hv⟩ : ∃ v, v = inB h 0 2400 := ⟨_, rfl⟩
  have H3 : Hid (∀ W, Calls Tryz.prog 37 #[.int .i64 h, .int .i64 0, .int .i64 2400] W fun e w' => e = .returned (.bool v) ∧ W = w') := Lib.hid fun W => by rw [hv]; exact in_any _ _ _ W
  have HV := Lib.hid hv
  clear hv
  go_wp2_with (fail)
  (with_reducible refine (H3.out _).mono ?_)
  rintro e w' ⟨rfl, rfl⟩
  cases v
  case false =>
    go_wp2_with (fail)
    refine bodyPost_ret (v := .tuple #[.slice none 0 0, .int .i64 7]) ?_ rfl ?_
    · simp [results, Tryz.results16, go_sem]
    have e0 : whereE S L h = 7 := by unfold whereE; rw [if_neg (by rw [← HX.out]; decide), if_pos HV.out.symm]
    have e1 : whereA S L h = [] := if_neg (by rw [e0]; decide)
    exact ⟨⟨none, 0⟩, by rw [e1, e0]; rfl, by rw [e1]; exact rowS_nil _ _ _, HE2.out⟩
  have HWE : Hid (whereE S L h = 0) := Lib.hid (by unfold whereE; rw [if_neg (by rw [← HX.out]; decide), if_neg (by rw [← HV.out]; decide)])
  obtain ⟨hck, h60, hval⟩ := movedE_ok HX.out.symm
  have HCL := Lib.hid (playR_any (w := w2) (HS.out.below HE2.out) (HL.out.below HE2.out) hck hval h60)
  have hn30 : S.cans.length ≤ 30 := hck.len.2.1
  clear hck h60 hval
  go_wp2_with (fail)
  refine HCL.out.mono ?_
  rintro e w3 ⟨⟨v, u, rfl, hO, hU⟩, hb3⟩
  obtain ⟨⟨a1, a2⟩, rfl, hr1⟩ := hO.sl
  obtain ⟨⟨b1, b2⟩, rfl, hr2⟩ := hU.sl
  dsimp only
  obtain ⟨M, hM⟩ : ∃ M, M = (playV S L).1 := ⟨_, rfl⟩
  rw [← hM] at hr1 ⊢
  have HE3 := Lib.hid (ext_trans HE2.out hb3)
  have HR1 := Lib.hid hr1; have HMM := Lib.hid hM
  have X33 := Lib.hid (Ext2.blk hb3 X32.out)
  have HAT : Hid (∀ W, Ext2 w3 W → ∀ i : Nat, i < S.cans.length → Calls Tryz.prog 40 #[.agg #[.slice s.r.a S.rooms.length s.r.cap, .slice s.c.a S.cans.length s.c.cap, .int .i64 S.rlo, .int .i64 S.rhi, .slice s.p.a S.steps.length s.p.cap], .slice a1 M.length a2, .int .i64 (i : Int), .int .i64 h] W fun e w' => e = .returned (.int .i64 (atV S M i h)) ∧ Below W.heap.size W w') := Lib.hid fun W hW i hi => atR_any (s := s) (sl := ⟨a1, a2⟩) (HS.out.below (ext_trans HE3.out hW)).cn (HR1.out.below hW) hi
  clear q3c q3f hb3 hr1 hr2 hO hU hM
  go_wp2_with (fail)
  go_loopw [11, 12] (fun v z wr => ∃ k : Nat, z = .int .i64 (k : Int) ∧ k ≤ S.cans.length ∧ Below w3.heap.size w3 wr ∧ wr.heap[n3]? = some (Obj.cells #[.slice s.r.a S.rooms.length s.r.cap, .slice s.c.a S.cans.length s.c.cap, .int .i64 S.rlo, .int .i64 S.rhi, .slice s.p.a S.steps.length s.p.cap] 28) ∧ OwnR wr w3.heap.size 3 1 v k (intC (whereV S M h))) (fun _ z _ => S.cans.length - (intOf z).toNat)
  case atStart => exact ⟨0, rfl, by omega, Below.refl _ _, X33.out, own_nil _ _ _ _ _⟩
  case round =>
    obtain ⟨k, rfl, hk, hB, x3, hO⟩ := hrel
    have HO := Lib.hid hO; have HB := Lib.hid hB; have X3' := Lib.hid x3
    clear hO
    by_cases hlt : k < S.cans.length
    · go_light
      obtain ⟨x, hx⟩ : ∃ x, x = atV S M k h := ⟨_, rfl⟩
      have hA := HAT.out wr hB k hlt
      rw [← hx] at hA
      have HA := Lib.hid hA
      have HX2 := Lib.hid hx
      have p1 : (k : Int) < (S.cans.length : Int) := by omega
      have wk3 : IntKind.i64.wrap ((k : Int) + 1) = (k : Int) + 1 := IntWalk.i64_in _ (by omega)
      have q3c := cell_blk x3
      have q3f := frz_blk x3
      clear hx x3 hA hB
      go_wp2_with (fail)
      (with_reducible refine HA.out.mono ?_)
      rintro e w4 ⟨rfl, hb4⟩
      have hB4 := below_ext HB.out hb4
      have HO4 := Lib.hid (HO.out.below hb4)
      have X34 := Lib.hid (Ext2.blk hb4 X3'.out)
      clear hb4 q3c q3f
      have hsz := hB4.size
      go_wp2_with (at_builtin; refine app_one [.int .i64 x] elInt rfl _ _ rfl w3.heap.size rfl (HO4.out.below (below_alloc' _ _)) w4.heap.size 1 rfl (blk_new _ _) (by simp [Value.oneCell']) (by omega) (by simp; omega) ?_; intro v' w5 hO5 hg5)
      have hB5 := below_app hB4 HO4.out hB4.size hg5
      have X35 := Lib.hid (app_blk HO4.out hg5 X34.out (by decide))
      have hO6 : OwnR w5 w3.heap.size 3 1 v' (k + 1) (intC (whereV S M h)) := hO5.congr fun i j hi hj => by
        replace hj : j < 1 := by simpa using hj
        rcases Nat.lt_or_ge i k with h | h
        · rw [upd_lt h]
        · obtain rfl : i = k := by omega
          obtain rfl : j = 0 := by omega
          rw [upd_at]; simp only [intC]; rw [whereV_at hlt, ← HX2.out]; rfl
      have HO6 := Lib.hid hO6; have HB5 := Lib.hid hB5
      clear hO5 hO6 hg5 hB4 hB5
      go_wp2_with (fail)
      go_roundw
      case rel => exact ⟨k + 1, by go_num, by omega, HB5.out, X35.out, HO6.out⟩
      case measure => simp [intOf]; omega
    · obtain rfl : k = S.cans.length := by omega
      have r9 : ¬ (S.cans.length : Int) < (S.cans.length : Int) := by omega
      obtain ⟨⟨c1, c2⟩, rfl, hr⟩ := HO.out.sl
      have HR := Lib.hid hr
      have q3c := cell_blk x3
      have q3f := frz_blk x3
      clear x3 hB hr
      go_wp2_with (fail)
      refine bodyPost_ret (v := .tuple #[.slice c1 S.cans.length c2, .int .i64 0]) ?_ rfl ?_
      · simp [results, Tryz.results16, go_sem]
      have e1 : whereA S L h = whereV S M h := by unfold whereA; rw [if_pos HWE.out, HMM.out]
      refine ⟨⟨c1, c2⟩, by rw [e1, HWE.out, whereV_len], ?_, ext_trans HE3.out HB.out⟩
      rw [e1]; show RowS _ _ 1 _ _; rw [whereV_len]; exact HR.out
end Go.Proofs.YtfpaihjcbpaneaaGreatDoor
