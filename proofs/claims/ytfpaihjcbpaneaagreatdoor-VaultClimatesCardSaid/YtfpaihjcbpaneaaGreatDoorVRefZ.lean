/-
  ref.Temp, Climates.
-/
import Derived.Test.YtfpaihjcbpaneaaGreatDoorVRefX
namespace Go.Proofs.YtfpaihjcbpaneaaGreatDoor
open Go.RowKit D
set_option linter.unusedVariables false
set_option linter.unusedSimpArgs false
attribute [local go_sem high] run_minI run_maxI
attribute [local go_sem] upon2 cls_cell cls_frozen forall_const exists_eq_left'
attribute [local go_sem] FirstUpon
theorem tempREnd {w W : World} {S : Site} {L : List Mv} {c h : Int} {n8 : Nat} {T : Array Value} {t : Span} {e : Int} (he : tempE S L c h = e) (ht : tempA S L c h = t) (hB : Below w.heap.size w W) (l8 : w.heap.size ≤ n8) (x8 : ∃ a b, W.heap[n8]? = some (.cells #[a, b] 25 (0, 0))) (t8 : T.getD 8 undef = .pointer (some ⟨n8, 0, none⟩)) (t9 : T.getD 9 undef = .int .i64 e) :
    bodyPost Tryz.prog Tryz.f19 (fun e' w' => e' = .returned (.tuple #[.agg #[.int .i64 (tempA S L c h).lo, .int .i64 (tempA S L c h).hi], .int .i64 (tempE S L c h)]) ∧ Below w.heap.size w w') .ret { tmps := T, defers := [] } ((W.setCell ⟨n8, 0, none⟩ (.int .i64 t.lo)).setCell ⟨n8, 1, none⟩ (.int .i64 t.hi)) := by
  obtain ⟨a, b, x8⟩ := x8
  have y8 := Eq.trans (blk_set (blk_set x8 0 (.int .i64 t.lo)) 1 (.int .i64 t.hi)) rfl
  have c8 := cell_blk y8
  have u8 : T[8]?.getD undef = .pointer (some ⟨n8, 0, none⟩) := by rw [← t8, Array.getD_eq_getD_getElem?]
  have u9 : T[9]?.getD undef = .int .i64 e := by rw [← t9, Array.getD_eq_getD_getElem?]
  refine bodyPost_ret (v := .tuple #[.agg #[.int .i64 t.lo, .int .i64 t.hi], .int .i64 e]) ?_ rfl ⟨by rw [he, ht], below_set (below_set hB l8) l8⟩
  simp [results, Tryz.results19, go_sem, c8, t8, t9, u8, u9]
set_option maxRecDepth 100000 in
set_option maxHeartbeats 8000000 in
theorem tempAR_any {S : Site} {s : SSl} {L : List Mv} {sl : Sl} {c h : Int} {w : World} (hS : SiteAt w S s) (hL : MovesS w sl L) :
    Calls Tryz.prog 19 #[.agg #[.slice s.r.a S.rooms.length s.r.cap, .slice s.c.a S.cans.length s.c.cap, .int .i64 S.rlo, .int .i64 S.rhi, .slice s.p.a S.steps.length s.p.cap], .slice sl.a L.length sl.cap, .int .i64 c, .int .i64 h] w fun e' w' => e' = .returned (.tuple #[.agg #[.int .i64 (tempA S L c h).lo, .int .i64 (tempA S L c h).hi], .int .i64 (tempE S L c h)]) ∧ Below w.heap.size w w' := by
  have HS := Lib.hid hS; have HL := Lib.hid hL
  have hcl := hS.cn.le; have hcm := hS.cn.max
  have w5' : IntKind.i64.wrap ((S.cans.length : Int) - 1) = (S.cans.length : Int) - 1 := IntWalk.i64_in _ (by omega)
  clear hS hL
  go_enter Tryz.func19, Tryz.ntmps19
  go_wp2_with (fail)
  refine calls_name ?_
  intro w1 hw1
  obtain ⟨n4, hn4⟩ : ∃ n, n = w.heap.size := ⟨_, rfl⟩
  obtain ⟨n8, hn8⟩ : ∃ n, n = n4 + 1 := ⟨_, rfl⟩
  have hE1 : Ext2 w w1 := by rw [hw1]; exact ext_trans (below_alloc' _ _) (below_alloc' _ _)
  have X4 : Hid (w1.heap[n4]? = some (Obj.cells #[.slice s.r.a S.rooms.length s.r.cap, .slice s.c.a S.cans.length s.c.cap, .int .i64 S.rlo, .int .i64 S.rhi, .slice s.p.a S.steps.length s.p.cap] 28)) := Lib.hid (by rw [hw1, hn4]; exact blk_alloc (blk_new _ _) _)
  have X8 : Hid (w1.heap[n8]? = some (Obj.cells #[.int .i64 0, .int .i64 0] 25)) := Lib.hid (by rw [hw1, hn8, hn4]; exact blk_new' _ _ (by simp))
  rw [← hn4, ← hn8]
  have l8 : w.heap.size ≤ n8 := by omega
  have l48 : n4 < n8 := by omega
  refine (movedR_any (HS.out.below hE1) (HL.out.below hE1)).mono ?_
  rintro e w2 ⟨rfl, hb2⟩
  have HE2 := Lib.hid (ext_trans hE1 hb2)
  have x4 := Ext2.blk hb2 X4.out; have x8 := Ext2.blk hb2 X8.out
  have X42 := Lib.hid x4; have X82 := Lib.hid x8
  obtain ⟨x, hx⟩ : ∃ x, x = movedE S L := ⟨_, rfl⟩
  rw [← hx]
  have HX := Lib.hid hx
  have q4c := cell_blk x4
  have q4f := frz_blk x4
  have q8c := cell_blk x8
  have q8f := frz_blk x8
  clear hw1 hn4 hn8 hE1 hb2 hx x4 x8
  by_cases hx0 : x = 0
  case neg =>
    have hd : (x != 0) = true := by simp [hx0]
    have hd2 : (x == 0) = false := by simp [hx0]
    have HNE := Lib.hid hx0
    clear hx0
    go_wp2_with (fail)
    have e0 : tempE S L c h = x := by unfold tempE playE; rw [if_pos (by rw [if_pos (by rw [← HX.out]; exact HNE.out)]; rw [← HX.out]; exact HNE.out), if_pos (by rw [← HX.out]; exact HNE.out), HX.out]
    exact tempREnd (t := ⟨0, 0⟩) e0 (by unfold tempA; rw [if_neg (by rw [e0]; exact HNE.out)]) HE2.out l8 ⟨_, _, X82.out⟩ rfl rfl
  subst hx0
  have hd : ((0 : Int) != 0) = false := rfl
  have hd2 : ((0 : Int) == 0) = true := rfl
  obtain ⟨v, hv⟩ : ∃ v, v = inB c 0 ((S.cans.length : Int) - 1) := ⟨_, rfl⟩
  have H3 : Hid (∀ W, Calls Tryz.prog 37 #[.int .i64 c, .int .i64 0, .int .i64 ((S.cans.length : Int) - 1)] W fun e w' => e = .returned (.bool v) ∧ W = w') := Lib.hid fun W => by rw [hv]; exact in_any _ _ _ W
  obtain ⟨u, hu⟩ : ∃ v, v = inB h 0 2400 := ⟨_, rfl⟩
  have H4 : Hid (∀ W, Calls Tryz.prog 37 #[.int .i64 h, .int .i64 0, .int .i64 2400] W fun e w' => e = .returned (.bool u) ∧ W = w') := Lib.hid fun W => by rw [hu]; exact in_any _ _ _ W
  have HV := Lib.hid hv; have HU := Lib.hid hu
  clear hv hu
  go_wp2_with (fail)
  (with_reducible refine (H3.out _).mono ?_)
  rintro e w' ⟨rfl, rfl⟩
  cases v
  case false =>
    go_wp2_with (fail)
    have e0 : tempE S L c h = 4 := by unfold tempE playE; rw [← HX.out, ← HV.out]; rfl
    exact tempREnd (t := ⟨0, 0⟩) e0 (by unfold tempA; rw [if_neg (by rw [e0]; decide)]) HE2.out l8 ⟨_, _, X82.out⟩ rfl rfl
  go_wp2_with (fail)
  (with_reducible refine (H4.out _).mono ?_)
  rintro e w' ⟨rfl, rfl⟩
  cases u
  case false =>
    go_wp2_with (fail)
    have e0 : tempE S L c h = 7 := by unfold tempE playE; rw [← HX.out, ← HV.out, ← HU.out]; rfl
    exact tempREnd (t := ⟨0, 0⟩) e0 (by unfold tempA; rw [if_neg (by rw [e0]; decide)]) HE2.out l8 ⟨_, _, X82.out⟩ rfl rfl
  have HTE : Hid (tempE S L c h = 0) := Lib.hid (by unfold tempE playE; rw [← HX.out, ← HV.out, ← HU.out]; rfl)
  obtain ⟨hck, h60, hval⟩ := movedE_ok HX.out.symm
  have g1 := inB_iff.1 HV.out.symm
  have g2 := inB_iff.1 HU.out.symm
  obtain ⟨cn, hcn⟩ : ∃ n : Nat, c = (n : Int) := ⟨c.toNat, by omega⟩
  obtain ⟨hn, hhn⟩ : ∃ n : Nat, h = (n : Int) := ⟨h.toNat, by omega⟩
  subst hcn
  subst hhn
  have hcnl : cn < S.cans.length := by omega
  have hn24 : hn ≤ 2400 := by omega
  have HCL := Lib.hid (playR_any (w := w2) (HS.out.below HE2.out) (HL.out.below HE2.out) hck hval h60)
  have HCK := Lib.hid hck; have HPL := Lib.hid (played hval (Nat.le_refl L.length))
  clear hck h60 hval g1 g2
  go_wp2_with (fail)
  refine HCL.out.mono ?_
  rintro e w3 ⟨⟨v, u, rfl, hO, hU⟩, hb3⟩
  obtain ⟨⟨a1, a2⟩, rfl, hr1⟩ := hO.sl
  obtain ⟨⟨b1, b2⟩, rfl, hr2⟩ := hU.sl
  dsimp only
  have hkv : ∀ m ∈ (playV S L).1, mvE S m = 0 := HPL.out.kept.valid
  have e1 : tempA S L (cn : Int) (hn : Int) = ownT S (playV S L).1 cn hn := by unfold tempA; rw [if_pos HTE.out]; simp only [Int.toNat_natCast]
  obtain ⟨M, hM⟩ : ∃ M, M = (playV S L).1 := ⟨_, rfl⟩
  rw [← hM] at hr1 hkv e1 ⊢
  have HE3 := Lib.hid (ext_trans HE2.out hb3)
  have x4 := Ext2.blk hb3 X42.out; have x8 := Ext2.blk hb3 X82.out
  have X83 := Lib.hid x8
  have HE1 := Lib.hid e1
  have HOW := Lib.hid (ownR_any (s := s) (sl := ⟨a1, a2⟩) (w := w3) (HS.out.below HE3.out) hr1 HCK.out hkv hcnl (show hn ≤ 100000 by omega))
  clear q4c q4f q8c q8f hb3 hr1 hr2 hO hU hM hkv e1
  have q4c := cell_blk x4
  have q4f := frz_blk x4
  clear x4 x8
  go_wp2_with (fail)
  refine HOW.out.mono ?_
  rintro e w4 ⟨rfl, hb4⟩
  have HE4 := Lib.hid (ext_trans HE3.out hb4)
  have x8 := Ext2.blk hb4 X83.out
  have X84 := Lib.hid x8
  clear q4c q4f hb4
  have q8c := cell_blk x8
  have q8f := frz_blk x8
  clear x8
  go_wp2_with (fail)
  exact tempREnd HTE.out HE1.out HE4.out l8 ⟨_, _, X84.out⟩ rfl rfl
end Go.Proofs.YtfpaihjcbpaneaaGreatDoor
