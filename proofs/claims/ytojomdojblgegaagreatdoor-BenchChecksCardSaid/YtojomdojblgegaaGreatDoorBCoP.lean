/-
  slices.Collect over pieces; bench.Pieces.
  bench.Pieces.
-/
import Derived.Test.YtojomdojblgegaaGreatDoorBGps
namespace Go.Proofs.YtojomdojblgegaaGreatDoor
open Go.RowKit D
set_option linter.unusedVariables false
set_option linter.unusedSimpArgs false
attribute [local go_sem high] run_minI run_maxI
attribute [local go_sem] upon2 cls_cell cls_frozen forall_const exists_eq_left'
attribute [local go_sem] FirstUpon atBlk_cell Oper.semAt_some
structure ColI (N : List Note) (F n2 : Nat) (w : World) (C k : Nat) (W : World) : Prop where
  bel : Below w.heap.size w W
  sz : C ≤ W.heap.size
  row : ∃ v, W.heap[n2]? = some (.cells #[v] 78 (0, 0)) ∧ OwnR W C 125 3 v ((pieceK N F).take k).length (pcC ((pieceK N F).take k))
theorem ColI.sb {N : List Note} {F n2 A : Nat} {w : World} {C k : Nat} {W W' : World} (h : ColI N F n2 w C k W) (hs : Sb A C W W') (hA : w.heap.size ≤ A ∧ n2 < A) : ColI N F n2 w C k W' := by
  obtain ⟨h1, h2, v, h3, h4⟩ := h
  exact ⟨h1.trans (hs.bel.mono hA.1), Nat.le_trans h2 hs.bel.size, v, (hs.bel.block _ hA.2).trans h3, h4.sb hs (Nat.le_refl _)⟩
theorem ColI.ext {N : List Note} {F n2 : Nat} {w : World} {C k : Nat} {W W' : World} (h : ColI N F n2 w C k W) (hs : Ext2 W W') : ColI N F n2 w C k W' := by
  obtain ⟨h1, h2, v, h3, h4⟩ := h
  exact ⟨below_ext h1 hs, Nat.le_trans h2 hs.size, v, hs.blk h3, h4.below hs⟩
set_option maxRecDepth 100000 in
set_option maxHeartbeats 8000000 in
theorem appSeq_any {T : Task} {t : TSl} {N : List Note} {ns : Sl} {B g F bx : Nat} {w : World} (hP : PicAt bx T t N ns B g F w) : Calls Tryz.prog 95 #[.slice none 0 0, .func (.func 90) #[] #[.pointer (some ⟨bx, 0, none⟩)]] w fun e w' => (∃ s' : Sl, e = .returned (.slice s'.a (pieceK N F).length s'.cap) ∧ PiecesS w' s' (pieceK N F)) ∧ Below w.heap.size w w' := by
  have HP := Lib.hid hP
  have hle := hP.tab.le
  have hbx := blk_lt hP.box
  obtain ⟨M, hM⟩ : ∃ M, M = (pieceK N F).length := ⟨_, rfl⟩
  rw [← hM]
  have HM := Lib.hid hM
  clear hP hM
  refine calls_of_wp_marks Tryz.func95 rfl ?_
  simp only [Tryz.ntmps95, List.size_toArray, List.length_cons, List.length_nil, Nat.reduceAdd, Nat.reduceSub, Array.replicate_succ, Array.replicate_zero, List.push_toArray, List.append_toArray, List.nil_append, List.cons_append]
  go_upto_region 1 with (fail)
  refine wp_name ?_
  intro w5 hw5
  obtain ⟨n2, hn2⟩ : ∃ n, n = w.heap.size := ⟨_, rfl⟩
  have x2 : w5.heap[n2]? = some (.cells #[.slice none 0 0] 78 (0, 0)) := by rw [hw5, hn2]; exact blk_new _ _
  have hE5 : Ext2 w w5 := by rw [hw5]; exact below_alloc' _ _
  have hs5 : w5.heap.size = n2 + 1 := by rw [hw5, hn2]; simp
  have lw : w.heap.size ≤ n2 := by omega
  rw [← hn2]
  have HE5 := Lib.hid hE5; have X2 := Lib.hid x2
  clear hw5 hn2 hE5 x2
  go_wp2_with (fail)
  refine wp_aname ?_
  intro a0 ha0
  refine sb_out (gf := 90) (lb := #[.pointer (some ⟨bx, 0, none⟩)]) (by rw [ha0]; rfl) (enters_of Tryz.func90 (by kernel_rfl) rfl) (pieces_iter (T := T) (t := t) (N := N) (ns := ns) (B := B) (g := g) (F := F) (bx := bx) (A := w.heap.size)) (ts := fun C q _ => q = n2 ∨ (C ≤ q ∧ w5.heap.size ≤ q))
    (fun C W1 W2 h1 h2 => HP.out.above h1 h2.bel) (fun C q _ hq hC => by omega) (fun _ => rfl)
    (ColI N F n2 w)
    (fun C k a' W => ∃ b5, W.heap[b5]? = some (Obj.cells #[.int .i64 (pcD (pieceK N F) k).from_, .int .i64 (pcD (pieceK N F) k).until_, .bool (pcD (pieceK N F) k).leader] 125) ∧ C ≤ b5 ∧ ColI N F n2 w C k W ∧ a' = { tmps := (a0.tmps.setIfInBounds 7 (.agg #[.int .i64 (pcD (pieceK N F) k).from_, .int .i64 (pcD (pieceK N F) k).until_, .bool (pcD (pieceK N F) k).leader])).setIfInBounds 5 (.pointer (some ⟨b5, 0, none⟩)), defers := [] })
    (fun cd C k W => False) ?hI ?hJ ?hX ?hBB ?hp0 ?h0 ?assign ?body ?done ?stop
  case hI => exact fun C k W W' hs hd => hs.sb hd (by omega)
  case hJ =>
    rintro C k a' W W' ⟨b5, h1, h2, h3, h4⟩ hd
    exact ⟨b5, hd.keep _ _ _ _ h2 h1, h2, h3.sb hd (by omega), h4⟩
  case hX => exact fun _ _ _ _ _ h _ => h.elim
  case hBB => omega
  case hp0 => exact fun W hW => HP.out.below (below_ext HE5.out hW)
  case h0 => exact fun W hW => ⟨below_ext HE5.out hW, Nat.le_refl _, _, hW.blk X2.out, own_nil _ _ _ _ _⟩
  case assign =>
    rintro l9 C k W hk hCl hCW hi
    subst ha0
    gi_wp2
    have hsz := hi.bel.size
    exact ⟨Bw.ext (below_alloc' _ _) hsz, W.heap.size, blk_new _ _, hCW, hi.ext (below_alloc' _ _), by simp only [List.setIfInBounds_toArray, List.set_cons_succ, List.set_cons_zero]⟩
  case body =>
    rintro l9 C k a' W hl9 hlC hr hk hCl hCW ⟨b5, x5, h5, hI, rfl⟩
    subst ha0
    simp only [List.setIfInBounds_toArray, List.set_cons_succ, List.set_cons_zero]
    have hpl := pieceK_len N F
    have htk : (pieceK N F).take (k + 1) = (pieceK N F).take k ++ [pcD (pieceK N F) k] := by rw [take_snoc (d := default) hk]; rfl
    have HTK := Lib.hid htk
    have hlk : ((pieceK N F).take k).length = k := by rw [List.length_take]; omega
    obtain ⟨hbl, hsz, v, x2, hO⟩ := hI
    obtain ⟨K, hK⟩ : ∃ K, K = (pieceK N F).take k := ⟨_, rfl⟩
    obtain ⟨p, hp⟩ : ∃ p, p = pcD (pieceK N F) k := ⟨_, rfl⟩
    rw [← hK] at hO hlk HTK; rw [← hp] at x5 HTK ⊢
    obtain ⟨⟨sa, sc⟩, rfl, hR⟩ := OwnR.sl hO
    dsimp only at x2 hO
    obtain ⟨n, hn⟩ : ∃ n, n = K.length := ⟨_, rfl⟩
    rw [← hn] at hO x2 hlk
    have HN := Lib.hid hn; have HO := Lib.hid hO; have HBL := Lib.hid hbl; have HSZ := Lib.hid hsz; have HX2 := Lib.hid x2
    have hn9 : n ≤ 1000000000 := by omega
    have hC2 : n2 < C := by omega
    clear htk hK hp hR hn hO hbl hsz hpl hlk
    have q5c := cell_blk x5
    have q5f := frz_blk x5
    have q2c := cell_blk x2
    have q2f := frz_blk x2
    clear x5 x2
    repeat (first | (refine round_region_list (by kernel_rfl) (by rintro ⟨a_, w_, h_⟩; exact h_) ?_) | go_values | gi_guarded | gi_step)
    go_wp2_with (at_builtin; go_loud (refine app_one_at [.int .i64 p.from_, .int .i64 p.until_, .bool p.leader] elPiece rfl _ _ rfl C rfl (HO.out.below (below_alloc' _ _)) W.heap.size 1 rfl (blk_new _ _) (by simp [Value.oneCell']) hn9 (by have := HSZ.out; simp; omega) ?_; intro v' w7 hO7 hg7 hpl; (obtain ⟨g7, cp7, hv7, hge7, -, -, -, -⟩ := own_some hO7 (by omega)); subst hv7; (have x27 := app_blk HO.out hg7 HX2.out (by decide)); (have q27c := cell_blk x27); (have q27f := frz_blk x27)))
    have hge := own_ge HO.out
    have hlo : ∀ q, q < C → w7.heap[q]? = W.heap[q]? := fun q hq => (hg7.block q (by have := HSZ.out; simp; omega) fun he => by have := hge q he.symm; omega).trans ((below_alloc' W _).block q (by have := HSZ.out; omega))
    have hlW := HBL.out.size
    have hb7 : Bw w.heap.size (fun q _ => q = n2 ∨ (C ≤ q ∧ w5.heap.size ≤ q)) W w7 := (Bw.ext (below_alloc' _ _) hlW).trans (Bw.grown hg7 (by simp; omega) fun q hq => ⟨by have := hge q hq; omega, by
      obtain ⟨cur, h1⟩ := ownR_cells (HO.out.below (below_alloc' _ _)) hq
      exact ⟨cur, _, _, h1, .inr (by have := hge q hq; omega)⟩⟩)
    refine ⟨hb7.trans (Bw.set x27 (.inl rfl) lw _), below_set (HBL.out.trans hb7.bel) lw, by rw [World.size_setCell]; exact Nat.le_trans HSZ.out hb7.bel.size, _, Eq.trans (blk_set x27 0 _) rfl, ?_⟩
    have h7 := hO7.above (Above.set (o := 0) (v := .slice (some ⟨g7, 0, none⟩) (n + 1) cp7) (Above.refl C w7) (.inl hC2))
    rw [HTK.out]
    rw [HN.out] at h7 ⊢
    exact own_pc h7
  case done =>
    rintro d C W hd hCl hI hD
    subst ha0
    obtain ⟨hbl, hsz, v, x2, hO⟩ := hI
    rw [List.take_length] at hO
    obtain ⟨⟨sa, sc⟩, rfl, hR⟩ := OwnR.sl hO
    dsimp only at x2 hO
    rw [← HM.out] at hO x2
    have HO := Lib.hid hO; have HBL := Lib.hid hbl; have HD := Lib.hid hD
    clear hR hO hbl hsz hD
    have q2c := cell_blk x2
    have q2f := frz_blk x2
    clear x2
    go_wp2_with (fail)
    refine leaveM_take (by simp) HD.out ?_
    exact leaves_nil (v := .slice sa M sc) (by simp [results, Tryz.results95, go_sem]) ⟨⟨⟨sa, sc⟩, rfl, by have h := own_row (own_putD HO.out HD.out); rw [HM.out] at h; exact h⟩, below_put HBL.out (by omega)⟩
  case stop => exact fun _ _ _ _ _ _ _ _ h _ => h.elim
end Go.Proofs.YtojomdojblgegaaGreatDoor
namespace Go.Proofs.YtojomdojblgegaaGreatDoor
open Go.RowKit D
set_option linter.unusedVariables false
set_option linter.unusedSimpArgs false
attribute [local go_sem high] run_minI run_maxI
attribute [local go_sem] upon2 cls_cell cls_frozen forall_const exists_eq_left'
attribute [local go_sem] FirstUpon atBlk_cell
theorem collect_any {T : Task} {t : TSl} {N : List Note} {ns : Sl} {B g F bx : Nat} {w : World} (hP : PicAt bx T t N ns B g F w) : Calls Tryz.prog 64 #[.func (.func 90) #[] #[.pointer (some ⟨bx, 0, none⟩)]] w fun e w' => (∃ s' : Sl, e = .returned (.slice s'.a (pieceK N F).length s'.cap) ∧ PiecesS w' s' (pieceK N F)) ∧ Below w.heap.size w w' := by
  have HA := Lib.hid (appSeq_any hP)
  obtain ⟨M, hM⟩ : ∃ M, M = (pieceK N F).length := ⟨_, rfl⟩
  rw [← hM] at HA ⊢
  clear hP hM
  go_enter Tryz.func64, Tryz.ntmps64
  go_wp2_with (fail)
  refine HA.out.mono ?_
  rintro e w3 ⟨⟨s', rfl, hs⟩, hE3⟩
  have HS := Lib.hid hs; have HE3 := Lib.hid hE3
  clear hs hE3
  go_wp2_with (fail)
  go_ret
  exact ⟨⟨s', rfl, HS.out⟩, HE3.out⟩
def PieOut (w : World) (T : Task) (e : Ending) (w' : World) : Prop := Below w.heap.size w w' ∧ (((checkV T).2.2 ≠ 0 ∧ e = .returned (.tuple #[.slice none 0 0, .int .i64 (checkV T).2.2])) ∨ ((checkV T).2.2 = 0 ∧ ∃ s' : Sl, e = .returned (.tuple #[.slice s'.a (pieceK (standV T.notes) T.reel.frames.toNat).length s'.cap, .int .i64 0]) ∧ PiecesS w' s' (pieceK (standV T.notes) T.reel.frames.toNat)))
set_option maxRecDepth 100000 in
set_option maxHeartbeats 8000000 in
theorem piecesF_any {T : Task} {t : TSl} {w : World} (hT : TaskAt w T t) (hm : MaxAt w) : Calls Tryz.prog 28 #[.agg #[.string T.reel.name, .int .i64 T.reel.gauge, .int .i64 T.reel.base, .int .i64 T.reel.frames, .int .i64 T.reel.ylo, .int .i64 T.reel.yhi, .int .i64 T.reel.keep, .slice t.r.m.a T.reel.marks.length t.r.m.cap, .slice t.r.s.a T.reel.syms.length t.r.s.cap, .slice t.r.l.a T.reel.lens.length t.r.l.cap, .int .i64 T.whole.lo, .int .i64 T.whole.hi, .slice t.n.a T.notes.length t.n.cap]] w (PieOut w T) := by
  have HLY := Lib.hid fun (W : World) (hW : Ext2 w W) => lay_any (hT.below hW) (hm.below hW)
  obtain ⟨E, hE⟩ : ∃ E, E = (checkV T).2.2 := ⟨_, rfl⟩
  have HEE := Lib.hid hE
  obtain ⟨N, hN⟩ : ∃ N, N = standV T.notes := ⟨_, rfl⟩
  have HNN := Lib.hid hN
  have HL2 : Hid (∀ W, Ext2 w W → Calls Tryz.prog 42 #[.agg #[.string T.reel.name, .int .i64 T.reel.gauge, .int .i64 T.reel.base, .int .i64 T.reel.frames, .int .i64 T.reel.ylo, .int .i64 T.reel.yhi, .int .i64 T.reel.keep, .slice t.r.m.a T.reel.marks.length t.r.m.cap, .slice t.r.s.a T.reel.syms.length t.r.s.cap, .slice t.r.l.a T.reel.lens.length t.r.l.cap, .int .i64 T.whole.lo, .int .i64 T.whole.hi, .slice t.n.a T.notes.length t.n.cap]] W fun e w' => Below W.heap.size W w' ∧ ((E ≠ 0 ∧ e = .returned (.tuple #[.pointer none, .int .i64 E])) ∨ (E = 0 ∧ ∃ (B g F : Nat) (ns : Sl), e = .returned (.tuple #[.pointer (some ⟨B, 0, none⟩), .int .i64 0]) ∧ Tab w' T t N ns B g F))) := Lib.hid fun W hW => (HLY.out W hW).mono fun e w' h => by rw [hE, hN]; exact h
  clear hT hm HLY hE hN
  go_enter Tryz.func28, Tryz.ntmps28
  go_upto_region 1 with (fail)
  refine wp_name ?_
  intro w3 hw3
  obtain ⟨n3, hn3⟩ : ∃ n, n = w.heap.size := ⟨_, rfl⟩
  have x3 : w3.heap[n3]? = some (Obj.cells #[.string T.reel.name, .int .i64 T.reel.gauge, .int .i64 T.reel.base, .int .i64 T.reel.frames, .int .i64 T.reel.ylo, .int .i64 T.reel.yhi, .int .i64 T.reel.keep, .slice t.r.m.a T.reel.marks.length t.r.m.cap, .slice t.r.s.a T.reel.syms.length t.r.s.cap, .slice t.r.l.a T.reel.lens.length t.r.l.cap, .int .i64 T.whole.lo, .int .i64 T.whole.hi, .slice t.n.a T.notes.length t.n.cap] 38) := by rw [hw3, hn3]; exact blk_new _ _
  have hE3 : Ext2 w w3 := by rw [hw3]; exact below_alloc' _ _
  rw [← hn3]
  have HE3 := Lib.hid hE3
  clear hw3 hn3 hE3
  have q3c := cell_blk x3
  have q3f := frz_blk x3
  clear x3
  go_wp2_with (fail)
  (with_reducible refine (HL2.out _ HE3.out).mono ?_)
  rintro e w4 ⟨hE4, ⟨hne, rfl⟩ | ⟨h0, B, g, F, ns, rfl, hTab⟩⟩
  · have HE4 := Lib.hid (ext_trans HE3.out hE4)
    have hb : (E != 0) = true := by simpa using hne
    have HNE := Lib.hid hne
    clear hne hE4 q3c q3f
    go_wp2_with (fail)
    go_ret2
    exact ⟨HE4.out, .inl ⟨by rw [← HEE.out]; exact HNE.out, by rw [← HEE.out]; rfl⟩⟩
  · have HE4 := Lib.hid (ext_trans HE3.out hE4)
    have HTB := Lib.hid hTab
    have hle := hTab.le
    have hF : T.reel.frames.toNat = F := by rw [hTab.fr]; omega
    have HF := Lib.hid hF
    subst h0
    have H0 : Hid ((checkV T).2.2 = 0) := Lib.hid HEE.out.symm
    clear hE4 hTab hF q3c q3f
    go_wp2_with (fail)
    refine (pieces_any _ _).mono ?_
    rintro e w5 ⟨rfl, hw5⟩
    obtain ⟨bx, hbx⟩ : ∃ n, n = w4.heap.size := ⟨_, rfl⟩
    have y5 : w5.heap[bx]? = some (.cells #[.pointer (some ⟨B, 0, none⟩)] 94 (0, 0)) := by rw [hw5, hbx]; exact blk_new _ _
    have hE5 : Ext2 w4 w5 := by rw [hw5]; exact below_alloc' _ _
    rw [← hbx]
    have HC := Lib.hid (collect_any (bx := bx) ⟨y5, HTB.out.below hE5⟩)
    have HE5 := Lib.hid (ext_trans HE4.out hE5)
    obtain ⟨M, hM⟩ : ∃ M, M = (pieceK N F).length := ⟨_, rfl⟩
    rw [← hM] at HC
    have HMM := Lib.hid hM
    clear hw5 hbx y5 hE5 hM
    go_wp2_with (fail)
    refine HC.out.mono ?_
    rintro e w6 ⟨⟨s', rfl, hs⟩, hE6⟩
    have HS := Lib.hid hs; have HE6 := Lib.hid (ext_trans HE5.out hE6)
    clear hs hE6
    go_wp2_with (fail)
    go_ret2
    exact ⟨HE6.out, .inr ⟨H0.out, s', by rw [← HNN.out, HF.out, ← HMM.out]; rfl, by rw [← HNN.out, HF.out]; exact HS.out⟩⟩
end Go.Proofs.YtojomdojblgegaaGreatDoor
