/-
  bench.Place.
-/
import Derived.Test.YtapeakbngligaaaGreatDoorBGpA
namespace Go.Proofs.YtapeakbngligaaaGreatDoor
open Go.RowKit D
set_option linter.unusedVariables false
set_option linter.unusedSimpArgs false
attribute [local go_sem high] run_minI run_maxI
attribute [local go_sem] upon2 cls_cell cls_frozen forall_const exists_eq_left'
attribute [local go_sem] FirstUpon atBlk_cell
def PlcOut (w : World) (A : Span × Int) (e : Ending) (w' : World) : Prop := e = .returned (.tuple #[.agg #[.int .i64 A.1.lo, .int .i64 A.1.hi], .int .i64 A.2]) ∧ Below w.heap.size w w'
set_option maxRecDepth 100000 in
set_option maxHeartbeats 8000000 in
theorem placeF_any {T : Task} {t : TSl} {f : Int} {w : World} (hT : TaskAt w T t) (hm : MaxAt w) : Calls Tryz.prog 9 #[.agg #[.string T.reel.name, .int .i64 T.reel.gauge, .int .i64 T.reel.base, .int .i64 T.reel.frames, .int .i64 T.reel.ylo, .int .i64 T.reel.yhi, .int .i64 T.reel.keep, .slice t.r.m.a T.reel.marks.length t.r.m.cap, .slice t.r.s.a T.reel.syms.length t.r.s.cap, .slice t.r.l.a T.reel.lens.length t.r.l.cap, .int .i64 T.whole.lo, .int .i64 T.whole.hi, .slice t.n.a T.notes.length t.n.cap], .int .i64 f] w (PlcOut w (placeAns T f)) := by
  have HLY := Lib.hid fun (W : World) (hW : Ext2 w W) => lay_any (hT.below hW) (hm.below hW)
  obtain ⟨E, hE⟩ : ∃ E, E = (checkV T).2.2 := ⟨_, rfl⟩
  have HEE := Lib.hid hE
  obtain ⟨N, hN⟩ : ∃ N, N = standV T.notes := ⟨_, rfl⟩
  have HNN := Lib.hid hN
  have HL2 : Hid (∀ W, Ext2 w W → Calls Tryz.prog 24 #[.agg #[.string T.reel.name, .int .i64 T.reel.gauge, .int .i64 T.reel.base, .int .i64 T.reel.frames, .int .i64 T.reel.ylo, .int .i64 T.reel.yhi, .int .i64 T.reel.keep, .slice t.r.m.a T.reel.marks.length t.r.m.cap, .slice t.r.s.a T.reel.syms.length t.r.s.cap, .slice t.r.l.a T.reel.lens.length t.r.l.cap, .int .i64 T.whole.lo, .int .i64 T.whole.hi, .slice t.n.a T.notes.length t.n.cap]] W fun e w' => Below W.heap.size W w' ∧ ((E ≠ 0 ∧ e = .returned (.tuple #[.pointer none, .int .i64 E])) ∨ (E = 0 ∧ ∃ (B g F : Nat) (ns : Sl), e = .returned (.tuple #[.pointer (some ⟨B, 0, none⟩), .int .i64 0]) ∧ Tab w' T t N ns B g F))) := Lib.hid fun W hW => (HLY.out W hW).mono fun e w' h => by rw [hE, hN]; exact h
  obtain ⟨⟨⟨xl, xh⟩, xe⟩, hX⟩ : ∃ X, X = placeAns T f := ⟨_, rfl⟩
  have HX := Lib.hid hX
  rw [← hX]
  clear hT hm HLY hE hN hX
  go_enter Tryz.func9, Tryz.ntmps9
  go_upto_region 1 with (fail)
  refine wp_name ?_
  intro w3 hw3
  obtain ⟨n3, hn3⟩ : ∃ n, n = w.heap.size := ⟨_, rfl⟩
  obtain ⟨n4, hn4⟩ : ∃ n, n = n3 + 1 := ⟨_, rfl⟩
  have x3 : w3.heap[n3]? = some (Obj.cells #[.string T.reel.name, .int .i64 T.reel.gauge, .int .i64 T.reel.base, .int .i64 T.reel.frames, .int .i64 T.reel.ylo, .int .i64 T.reel.yhi, .int .i64 T.reel.keep, .slice t.r.m.a T.reel.marks.length t.r.m.cap, .slice t.r.s.a T.reel.syms.length t.r.s.cap, .slice t.r.l.a T.reel.lens.length t.r.l.cap, .int .i64 T.whole.lo, .int .i64 T.whole.hi, .slice t.n.a T.notes.length t.n.cap] 31) := by rw [hw3, hn3]; exact blk_alloc (blk_new _ _) _
  have x4 : w3.heap[n4]? = some (Obj.cells #[.int .i64 (0), .int .i64 (0)] 23) := by rw [hw3, hn4, hn3]; exact blk_new' _ _ (by simp)
  have hE3 : Ext2 w w3 := by rw [hw3]; exact ext_trans (below_alloc' _ _) (below_alloc' _ _)
  have lw3 : w.heap.size ≤ n3 := by omega
  have lw4 : w.heap.size ≤ n4 := by omega
  rw [← hn3, ← hn4]
  have HE3 := Lib.hid hE3; have X3 := Lib.hid x3; have X4 := Lib.hid x4
  clear hw3 hn3 hn4 hE3 x4
  have q3c := cell_blk x3
  have q3f := frz_blk x3
  clear x3
  go_wp2_with (fail)
  (with_reducible refine (HL2.out _ HE3.out).mono ?_)
  rintro e w4 ⟨hE4, ⟨hne, rfl⟩ | ⟨h0, B, g, F, ns, rfl, hTab⟩⟩
  · have HE4 := Lib.hid (ext_trans HE3.out hE4)
    have x4 := Ext2.blk hE4 X4.out
    have hb : (E != 0) = true := by simpa using hne
    have HV : Hid ((⟨⟨xl, xh⟩, xe⟩ : Span × Int) = (⟨0, 0⟩, E)) := Lib.hid (by rw [HX.out]; unfold placeAns; rw [← HEE.out, if_pos hne])
    clear hne hE4 q3c q3f
    have q4c := cell_blk x4
    have q4f := frz_blk x4
    go_wp2_with (fail)
    have r1 : ((w4.setCell ⟨n4, 0, none⟩ (.int .i64 0)).setCell ⟨n4, 1, none⟩ (.int .i64 0)).heap[n4]? = some (Obj.cells #[.int .i64 (0), .int .i64 (0)] 23) := Eq.trans (blk_set (blk_set x4 _ _) _ _) rfl
    refine bodyPost_ret (v := .tuple #[.agg #[.int .i64 0, .int .i64 0], .int .i64 E]) ?_ rfl ⟨by rw [HV.out], below_set (below_set HE4.out lw4) lw4⟩
    have zc := cell_blk r1
    have zf := frz_blk r1
    simp [results, Tryz.results9, go_sem, zc]
  have HE4 := Lib.hid (ext_trans HE3.out hE4)
  have x4 := Ext2.blk hE4 X4.out
  have x3 := Ext2.blk hE4 X3.out
  have hfr := hTab.fr
  have hF : T.reel.frames.toNat = F := by rw [hfr]; omega
  have hP := task_p (T := T) (by rw [← HEE.out]; exact h0)
  rw [hF] at hP
  have hXe : (⟨⟨xl, xh⟩, xe⟩ : Span × Int) = if inB f 0 ((F : Int) - 1) = false then (⟨0, 0⟩, 7) else if about N 3 f = true then (⟨0, 0⟩, 4) else if okT T = false then (⟨0, 0⟩, 9) else (placeG N (grpsT T).1 f.toNat, 0) := by
    rw [HX.out]; unfold placeAns; rw [← HEE.out, if_neg (by rw [h0]; simp), hfr, ← HNN.out]
  have HXE := Lib.hid hXe; have HTB := Lib.hid hTab; have HP := Lib.hid hP; have X34 := Lib.hid x3; have X44 := Lib.hid x4; have HF := Lib.hid hF
  have hle := hP.F1
  have w1' : IntKind.i64.wrap ((F : Int) - 1) = (F : Int) - 1 := IntWalk.i64_in _ (by omega)
  rw [hfr] at x3
  subst h0
  clear hE4 hTab hF hP hXe hfr q3c q3f
  have q3c := cell_blk x3
  have q3f := frz_blk x3
  have q4c := cell_blk x4
  have q4f := frz_blk x4
  clear x3
  obtain ⟨v1, hv1⟩ : ∃ v, v = inB f 0 ((F : Int) - 1) := ⟨_, rfl⟩
  have HV1 := Lib.hid hv1
  have HO : Hid (∀ W, Calls Tryz.prog 30 #[.int .i64 f, .int .i64 0, .int .i64 ((F : Int) - 1)] W fun e w' => e = .returned (.bool (!v1)) ∧ W = w') := Lib.hid fun W => by rw [hv1, ← outB_in]; exact out_any _ _ _ W
  clear hv1
  cases v1 with
  | false =>
    have HV : Hid ((⟨⟨xl, xh⟩, xe⟩ : Span × Int) = (⟨0, 0⟩, 7)) := Lib.hid (by rw [HXE.out, if_pos HV1.out.symm])
    go_wp2_with (fail)
    (with_reducible refine (HO.out _).mono ?_)
    rintro e w' ⟨rfl, rfl⟩
    go_wp2_with (fail)
    have r1 : ((w4.setCell ⟨n4, 0, none⟩ (.int .i64 0)).setCell ⟨n4, 1, none⟩ (.int .i64 0)).heap[n4]? = some (Obj.cells #[.int .i64 (0), .int .i64 (0)] 23) := Eq.trans (blk_set (blk_set x4 _ _) _ _) rfl
    refine bodyPost_ret (v := .tuple #[.agg #[.int .i64 0, .int .i64 0], .int .i64 7]) ?_ rfl ⟨by rw [HV.out], below_set (below_set HE4.out lw4) lw4⟩
    have zc := cell_blk r1
    have zf := frz_blk r1
    simp [results, Tryz.results9, go_sem, zc]
  | true =>
  have hfb := inB_iff.1 HV1.out.symm
  obtain ⟨v2, hv2⟩ : ∃ v, v = about N 3 f := ⟨_, rfl⟩
  have HV2 := Lib.hid hv2
  have HLD : Hid (Calls Tryz.prog 31 #[.pointer (some ⟨B, 0, none⟩), .int .i64 f] w4 fun e w' => e = .returned (.bool v2) ∧ Below w4.heap.size w4 w') := Lib.hid (by rw [hv2]; exact leader_any HTB.out hfb.1 (by omega))
  clear hv2
  go_wp2_with (fail)
  (with_reducible refine (HO.out _).mono ?_)
  rintro e w' ⟨rfl, rfl⟩
  go_wp2_with (fail)
  (with_reducible refine HLD.out.mono ?_)
  rintro e w5 ⟨rfl, hE5⟩
  have HE5 := Lib.hid (ext_trans HE4.out hE5)
  have x4 := Ext2.blk hE5 X44.out
  have X45 := Lib.hid x4
  have HE45 := Lib.hid hE5
  clear q3c q3f q4c q4f hE5 HO HLD
  have q4c := cell_blk x4
  have q4f := frz_blk x4
  cases v2 with
  | true =>
    have HV : Hid ((⟨⟨xl, xh⟩, xe⟩ : Span × Int) = (⟨0, 0⟩, 4)) := Lib.hid (by rw [HXE.out, ← HV1.out, if_neg (by simp), ← HV2.out, if_pos rfl])
    go_wp2_with (fail)
    have r1 : ((w5.setCell ⟨n4, 0, none⟩ (.int .i64 0)).setCell ⟨n4, 1, none⟩ (.int .i64 0)).heap[n4]? = some (Obj.cells #[.int .i64 (0), .int .i64 (0)] 23) := Eq.trans (blk_set (blk_set x4 _ _) _ _) rfl
    refine bodyPost_ret (v := .tuple #[.agg #[.int .i64 0, .int .i64 0], .int .i64 4]) ?_ rfl ⟨by rw [HV.out], below_set (below_set HE5.out lw4) lw4⟩
    have zc := cell_blk r1
    have zf := frz_blk r1
    simp [results, Tryz.results9, go_sem, zc]
  | false =>
  have HTB5 := Lib.hid (HTB.out.below HE45.out)
  have hnar := narrow_any HTB5.out
  have eg : (gapsN F N) = gapsT T := by unfold gapsT; rw [HF.out, ← HNN.out]
  have er : grpsV (footV T.reel.gauge) F N (gapsT T).1 T.reel.marks T.whole = grpsT T := by unfold grpsT; rw [HF.out, ← HNN.out]
  rw [eg, er] at hnar
  unfold NarOut at hnar
  obtain ⟨al, hal⟩ : ∃ a, a = (grpsT T).1 := ⟨_, rfl⟩
  obtain ⟨ok, hok⟩ : ∃ b, b = al.all grpOk := ⟨_, rfl⟩
  rw [← hal, ← hok] at hnar
  have hal61 : al.length ≤ 61 := by
    have hm : MarksIn F T.reel.marks := ⟨HP.out.ok.reel.nm, fun i hi => by have := HP.out.ok.reel.mark i hi; rw [HP.out.fr] at this; exact this, HP.out.ok.reel.up⟩
    have hinv := grpsK_inv (foot := footV T.reel.gauge) (l := N) (gs := (gapsT T).1) (frames := F) hm (by rcases foot_cases T.reel.gauge with h | h | h | h <;> omega) hle.2 T.reel.marks.length (Nat.le_refl _)
    rw [hal, ← er, grpsV_eq]
    have h1 := hinv.nall; have h3 := hm.n
    simp only [List.length_append, List.length_singleton]; omega
  have HXF : Hid ((⟨⟨xl, xh⟩, xe⟩ : Span × Int) = if ok = false then (⟨0, 0⟩, 9) else (placeG N al f.toNat, 0)) := Lib.hid (by rw [HXE.out, ← HV1.out, if_neg (by simp), ← HV2.out, if_neg (by simp), hok, hal]; rfl)
  obtain ⟨na, hna⟩ : ∃ n, n = al.length := ⟨_, rfl⟩
  rw [← hna] at hnar hal61
  have HNA := Lib.hid hna; have HNR := Lib.hid hnar
  clear hnar eg er hal hok hna
  go_wp2_with (fail)
  refine HNR.out.mono ?_
  rintro e w6 ⟨⟨⟨ala, alc⟩, ⟨ska, skc⟩, ⟨wra, wrc⟩, hs, rfl, hgr, -, -⟩, hE6⟩
  have HE6 := Lib.hid (ext_trans HE5.out hE6); have HGS := Lib.hid hgr
  have x4 := Ext2.blk hE6 X45.out
  have HTB6 := Lib.hid (HTB5.out.below hE6)
  have X46 := Lib.hid x4
  clear hgr hE6 q4c q4f HNR
  have q4c := cell_blk x4
  have q4f := frz_blk x4
  cases ok with
  | false =>
    have HV : Hid ((⟨⟨xl, xh⟩, xe⟩ : Span × Int) = (⟨0, 0⟩, 9)) := Lib.hid (by rw [HXF.out, if_pos rfl])
    go_wp2_with (fail)
    have r1 : ((w6.setCell ⟨n4, 0, none⟩ (.int .i64 0)).setCell ⟨n4, 1, none⟩ (.int .i64 0)).heap[n4]? = some (Obj.cells #[.int .i64 (0), .int .i64 (0)] 23) := Eq.trans (blk_set (blk_set x4 _ _) _ _) rfl
    refine bodyPost_ret (v := .tuple #[.agg #[.int .i64 0, .int .i64 0], .int .i64 9]) ?_ rfl ⟨by rw [HV.out], below_set (below_set HE6.out lw4) lw4⟩
    have zc := cell_blk r1
    have zf := frz_blk r1
    simp [results, Tryz.results9, go_sem, zc]
  | true =>
    have HV : Hid ((⟨⟨xl, xh⟩, xe⟩ : Span × Int) = (placeG N al f.toNat, 0)) := Lib.hid (by rw [HXF.out, if_neg (by simp)])
    obtain ⟨k, hk⟩ : ∃ k : Nat, f = k := ⟨_, (Int.toNat_of_nonneg hfb.1).symm⟩
    subst hk
    have hpl := place_any (f := k) HTB6.out HGS.out (by omega) (by rw [← HNA.out]; omega)
    obtain ⟨⟨R1, R2⟩, hR⟩ : ∃ R, R = placeG N al k := ⟨_, rfl⟩
    rw [← hR, ← HNA.out] at hpl
    have HVR := Lib.hid (HV.out.trans (by rw [Int.toNat_natCast, ← hR]) : (⟨⟨xl, xh⟩, xe⟩ : Span × Int) = (⟨R1, R2⟩, 0))
    have HPL := Lib.hid hpl
    clear hR hpl
    dsimp only at HPL
    go_wp2_with (fail)
    refine HPL.out.mono ?_
    rintro e w7 ⟨rfl, hE7⟩
    have HE7 := Lib.hid (ext_trans HE6.out hE7)
    have x4 := Ext2.blk hE7 X46.out
    clear hE7 q4c q4f HPL
    have q4c := cell_blk x4
    have q4f := frz_blk x4
    go_wp2_with (fail)
    have r1 : ((w7.setCell ⟨n4, 0, none⟩ (.int .i64 R1)).setCell ⟨n4, 1, none⟩ (.int .i64 R2)).heap[n4]? = some (Obj.cells #[.int .i64 (R1), .int .i64 (R2)] 23) := Eq.trans (blk_set (blk_set x4 _ _) _ _) rfl
    refine bodyPost_ret (v := .tuple #[.agg #[.int .i64 R1, .int .i64 R2], .int .i64 0]) ?_ rfl ⟨by rw [HVR.out], below_set (below_set HE7.out lw4) lw4⟩
    have zc := cell_blk r1
    have zf := frz_blk r1
    simp [results, Tryz.results9, go_sem, zc]
end Go.Proofs.YtapeakbngligaaaGreatDoor
