/-
  law.BenchChecks, walked.
-/
import Derived.Test.YtojomdojblgegaaGreatDoorBAwk
import Derived.Test.YtojomdojblgegaaGreatDoorBRTo
namespace Go.Proofs.YtojomdojblgegaaGreatDoor
open Go.RowKit D
set_option linter.unusedVariables false
set_option linter.unusedSimpArgs false
attribute [local go_sem high] run_minI run_maxI
attribute [local go_sem] upon2 cls_cell cls_frozen forall_const exists_eq_left'
attribute [local go_sem] FirstUpon atBlk_cell
/-- What a list with an error is. -/
def PrOut {α : Type} (V : World → Sl → List α → Prop) (w : World) (l : List α) (E : Int) (e : Ending) (w' : World) : Prop := (∃ s : Sl, e = .returned (.tuple #[.slice s.a l.length s.cap, .int .i64 E]) ∧ V w' s l) ∧ Below w.heap.size w w'
def pcsAns (T : Task) : List Piece × Int := if (checkV T).2.2 = 0 then (pieceK (standV T.notes) T.reel.frames.toNat, 0) else ([], (checkV T).2.2)
def trnAns (T : Task) : List Span × Int := if (checkV T).2.2 = 0 then (tornK (standV T.notes) T.reel.frames.toNat, 0) else ([], (checkV T).2.2)
theorem pie_pr {w w' : World} {T : Task} {e : Ending} (h : PieOut w T e w') : PrOut PiecesS w (pcsAns T).1 (pcsAns T).2 e w' := by
  obtain ⟨hb, ⟨hne, rfl⟩ | ⟨h0, s, rfl, hs⟩⟩ := h
  · have : pcsAns T = ([], (checkV T).2.2) := by unfold pcsAns; rw [if_neg hne]
    rw [this]
    exact ⟨⟨⟨none, 0⟩, rfl, ⟨Nat.le_refl _, by simp, fun i j hi _ => absurd hi (Nat.not_lt_zero i)⟩⟩, hb⟩
  · have : pcsAns T = (pieceK (standV T.notes) T.reel.frames.toNat, 0) := by unfold pcsAns; rw [if_pos h0]
    rw [this]
    exact ⟨⟨s, rfl, hs⟩, hb⟩
theorem trn_pr {w w' : World} {T : Task} {e : Ending} (h : TornOut w T e w') : PrOut SpansS w (trnAns T).1 (trnAns T).2 e w' := by
  obtain ⟨hb, ⟨hne, rfl⟩ | ⟨h0, s, rfl, hs⟩⟩ := h
  · have : trnAns T = ([], (checkV T).2.2) := by unfold trnAns; rw [if_neg hne]
    rw [this]
    exact ⟨⟨⟨none, 0⟩, rfl, ⟨Nat.le_refl _, by simp, fun i j hi _ => absurd hi (Nat.not_lt_zero i)⟩⟩, hb⟩
  · have : trnAns T = (tornK (standV T.notes) T.reel.frames.toNat, 0) := by unfold trnAns; rw [if_pos h0]
    rw [this]
    exact ⟨⟨s, rfl, hs⟩, hb⟩
set_option maxRecDepth 100000 in
set_option maxHeartbeats 2000000 in
theorem lawChecks_any {T : Task} {t : TSl} {w : World} (hT : TaskAt w T t) (hm : MaxAt w) : Calls Tryz.prog 9 #[.agg #[.string T.reel.name, .int .i64 T.reel.gauge, .int .i64 T.reel.base, .int .i64 T.reel.frames, .int .i64 T.reel.ylo, .int .i64 T.reel.yhi, .int .i64 T.reel.keep, .slice t.r.m.a T.reel.marks.length t.r.m.cap, .slice t.r.s.a T.reel.syms.length t.r.s.cap, .slice t.r.l.a T.reel.lens.length t.r.l.cap, .int .i64 T.whole.lo, .int .i64 T.whole.hi, .slice t.n.a T.notes.length t.n.cap]] w fun e w' => e = .returned (.bool true) ∧ Below w.heap.size w w' := by
  have H1 := Lib.hid fun (W : World) (hW : Ext2 w W) => check_any (hT.below hW) (hm.below hW)
  have H2 := Lib.hid fun (W : World) (hW : Ext2 w W) => checkR_any (hT.below hW)
  have H3 := Lib.hid fun (W : World) (hW : Ext2 w W) => (piecesF_any (hT.below hW) (hm.below hW)).mono fun _ _ => pie_pr
  have H4 := Lib.hid fun (W : World) (hW : Ext2 w W) => (piecesFR_any (hT.below hW)).mono fun _ _ => pie_pr
  have H5 := Lib.hid fun (W : World) (hW : Ext2 w W) => (torn_any (hT.below hW) (hm.below hW)).mono fun _ _ => trn_pr
  have H6 := Lib.hid fun (W : World) (hW : Ext2 w W) => (tornR_any (hT.below hW)).mono fun _ _ => trn_pr
  have HA := Lib.hid fun (W : World) (hW : Ext2 w W) => awake_any (hm.below hW)
  have HSP := Lib.hid fun (s t : Sl) (l : List Piece) (W : World) (h1 : PiecesS W s l) (h2 : PiecesS W t l) => samePc_any h1 h2
  have HSS := Lib.hid fun (s t : Sl) (l : List Span) (W : World) (h1 : SpansS W s l) (h2 : SpansS W t l) => sameSp_any h1 h2
  unfold ChkOut at H1 H2
  unfold PrOut at H3 H4 H5 H6
  obtain ⟨⟨a, i, E⟩, hp1⟩ : ∃ p, p = checkV T := ⟨_, rfl⟩
  obtain ⟨⟨P, EP⟩, hp2⟩ : ∃ p, p = pcsAns T := ⟨_, rfl⟩
  obtain ⟨⟨U, EU⟩, hp3⟩ : ∃ p, p = trnAns T := ⟨_, rfl⟩
  rw [← hp1] at H1 H2; rw [← hp2] at H3 H4; rw [← hp3] at H5 H6
  dsimp only at H1 H2 H3 H4 H5 H6
  obtain ⟨pn, hpn⟩ : ∃ n, n = P.length := ⟨_, rfl⟩
  obtain ⟨un, hun⟩ : ∃ n, n = U.length := ⟨_, rfl⟩
  rw [← hpn] at H3 H4; rw [← hun] at H5 H6
  have HPN := Lib.hid hpn; have HUN := Lib.hid hun
  clear hT hm hp1 hp2 hp3 hpn hun
  go_enter Tryz.func9, Tryz.ntmps9
  go_upto_region 1 with (fail)
  refine wp_name ?_
  intro w3 hw3
  obtain ⟨n3, hn3⟩ : ∃ n, n = w.heap.size := ⟨_, rfl⟩
  have x3 : w3.heap[n3]? = some (Obj.cells #[.string T.reel.name, .int .i64 T.reel.gauge, .int .i64 T.reel.base, .int .i64 T.reel.frames, .int .i64 T.reel.ylo, .int .i64 T.reel.yhi, .int .i64 T.reel.keep, .slice t.r.m.a T.reel.marks.length t.r.m.cap, .slice t.r.s.a T.reel.syms.length t.r.s.cap, .slice t.r.l.a T.reel.lens.length t.r.l.cap, .int .i64 T.whole.lo, .int .i64 T.whole.hi, .slice t.n.a T.notes.length t.n.cap] 38) := by rw [hw3, hn3]; exact blk_new _ _
  have hE3 : Ext2 w w3 := by rw [hw3]; exact below_alloc' _ _
  rw [← hn3]
  have HE3 := Lib.hid hE3; have X3 := Lib.hid x3
  clear hw3 hn3 hE3
  have q3c := cell_blk x3
  have q3f := frz_blk x3
  clear x3
  go_wp2_with (fail)
  (with_reducible refine (H1.out _ HE3.out).mono ?_)
  rintro e w4 ⟨rfl, hE4⟩
  have HE4 := Lib.hid (ext_trans HE3.out hE4); have X4 := Lib.hid (Ext2.blk hE4 X3.out)
  have x3 := X4.out
  clear q3c q3f hE4 X3 H1
  have q3c := cell_blk x3
  have q3f := frz_blk x3
  clear x3
  go_wp2_with (fail)
  (with_reducible refine (H2.out _ HE4.out).mono ?_)
  rintro e w5 ⟨rfl, hE5⟩
  have HE5 := Lib.hid (ext_trans HE4.out hE5); have X5 := Lib.hid (Ext2.blk hE5 X4.out)
  have x3 := X5.out
  clear q3c q3f hE5 X4 H2
  have q3c := cell_blk x3
  have q3f := frz_blk x3
  clear x3
  have n1 : (a != a) = false := by simp
  have n2 : (i != i) = false := by simp
  have n3' : (E != E) = false := by simp
  have n4 : (EP != EP) = false := by simp
  have n5 : (EU == EU) = true := by simp
  go_wp2_with (fail)
  (with_reducible refine (H3.out _ HE5.out).mono ?_)
  rintro e w6 ⟨⟨⟨s1a, s1c⟩, rfl, hS1⟩, hE6⟩
  have HE6 := Lib.hid (ext_trans HE5.out hE6); have X6 := Lib.hid (Ext2.blk hE6 X5.out); have HS1 := Lib.hid hS1
  have x3 := X6.out
  clear q3c q3f hE6 X5 H3 hS1
  have q3c := cell_blk x3
  have q3f := frz_blk x3
  clear x3
  go_wp2_with (fail)
  (with_reducible refine (H4.out _ HE6.out).mono ?_)
  rintro e w7 ⟨⟨⟨s2a, s2c⟩, rfl, hS2⟩, hE7⟩
  have HE7 := Lib.hid (ext_trans HE6.out hE7); have X7 := Lib.hid (Ext2.blk hE7 X6.out)
  have HC : Hid (Calls Tryz.prog 30 #[.slice s1a pn s1c, .slice s2a pn s2c] w7 fun e w' => e = .returned (.bool true) ∧ Below w7.heap.size w7 w') := Lib.hid (by rw [HPN.out]; have h := HSP.out ⟨s1a, s1c⟩ ⟨s2a, s2c⟩ P w7 (HS1.out.below hE7) hS2; first | rw [decide_true] at h; exact h | simpa using h)
  have x3 := X7.out
  clear q3c q3f hE7 X6 H4 hS2 HS1 HSP
  have q3c := cell_blk x3
  have q3f := frz_blk x3
  clear x3
  go_wp2_with (fail)
  (with_reducible refine HC.out.mono ?_)
  rintro e w8 ⟨rfl, hE8⟩
  have HE8 := Lib.hid (ext_trans HE7.out hE8); have X8 := Lib.hid (Ext2.blk hE8 X7.out)
  have x3 := X8.out
  clear q3c q3f hE8 X7 HC
  have q3c := cell_blk x3
  have q3f := frz_blk x3
  clear x3
  go_wp2_with (fail)
  (with_reducible refine (H5.out _ HE8.out).mono ?_)
  rintro e w9 ⟨⟨⟨s3a, s3c⟩, rfl, hS3⟩, hE9⟩
  have HE9 := Lib.hid (ext_trans HE8.out hE9); have X9 := Lib.hid (Ext2.blk hE9 X8.out); have HS3 := Lib.hid hS3
  have x3 := X9.out
  clear q3c q3f hE9 X8 H5 hS3
  have q3c := cell_blk x3
  have q3f := frz_blk x3
  clear x3
  go_wp2_with (fail)
  (with_reducible refine (H6.out _ HE9.out).mono ?_)
  rintro e w10 ⟨⟨⟨s4a, s4c⟩, rfl, hS4⟩, hE10⟩
  have HE10 := Lib.hid (ext_trans HE9.out hE10)
  have HC : Hid (Calls Tryz.prog 23 #[.slice s3a un s3c, .slice s4a un s4c] w10 fun e w' => e = .returned (.bool true) ∧ Below w10.heap.size w10 w') := Lib.hid (by rw [HUN.out]; have h := HSS.out ⟨s3a, s3c⟩ ⟨s4a, s4c⟩ U w10 (HS3.out.below hE10) hS4; first | rw [decide_true] at h; exact h | simpa using h)
  clear q3c q3f hE10 X9 H6 hS4 HS3 HSS
  go_wp2_with (fail)
  (with_reducible refine HC.out.mono ?_)
  rintro e w11 ⟨rfl, hE11⟩
  have HE11 := Lib.hid (ext_trans HE10.out hE11)
  have HA7 := Lib.hid (HA.out _ HE11.out)
  clear hE11 HC
  go_wp2_with (fail)
  (with_reducible refine HA7.out.mono ?_)
  rintro e w12 ⟨rfl, hE12⟩
  have HE12 := Lib.hid (ext_trans HE11.out hE12)
  clear hE12
  go_wp2_with (fail)
  go_ret
  exact ⟨rfl, HE12.out⟩
end Go.Proofs.YtojomdojblgegaaGreatDoor
