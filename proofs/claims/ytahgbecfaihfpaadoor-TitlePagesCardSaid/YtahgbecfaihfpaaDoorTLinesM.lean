/-
  The lines of the best breaks, plain; a sheet that abides what the body of a loop does.
  title.lines: the best breaks, one by one.
-/
import Derived.Test.YtahgbecfaihfpaaDoorTOpenM
import Derived.Test.YtahgbecfaihfpaaDoorDMem
import Derived.Test.YtahgbecfaihfpaaDoorDRegX
namespace Go.Proofs.YtahgbecfaihfpaaDoor.D
/-- Where the line that begins at a word ends. -/
def endN (F : Font) (R : Rul) (P : List ByteArray) (i : Nat) : Nat := (restS F R P i).end_.toNat
/-- Where the k-th line begins. -/
def brk (F : Font) (R : Rul) (P : List ByteArray) : Nat → Nat
  | 0 => 0
  | k + 1 => if brk F R P k < P.length then endN F R P (brk F R P k) else brk F R P k
def nLines (F : Font) (R : Rul) (P : List ByteArray) : Nat := firstN (fun k => decide (P.length ≤ brk F R P k)) (P.length + 1)
def linS (F : Font) (R : Rul) (P : List ByteArray) (k : Nat) : Ln := lineS F R P (brk F R P k) (brk F R P (k + 1))
end Go.Proofs.YtahgbecfaihfpaaDoor.D
namespace Go.Proofs.YtahgbecfaihfpaaDoor
open Go.RowKit D
theorem endN_ok {F : Font} {R : Rul} {P : List ByteArray} (h : TextOk F R P) {i : Nat} (hi : i < P.length) : (restS F R P i).end_ = (endN F R P i : Int) ∧ i < endN F R P i ∧ endN F R P i ≤ i + kmax F R P i ∧ endN F R P i ≤ P.length ∧ restS F R P i = candR F R P (restS F R P) i (endN F R P i) := by
  obtain ⟨e, h1, h2, h3, h4, h5⟩ := rest_end h hi
  have he : endN F R P i = e := by unfold endN; rw [h1]; omega
  rw [he]; exact ⟨h1, h2, h3, h4, h5⟩
theorem brk_le {F : Font} {R : Rul} {P : List ByteArray} (h : TextOk F R P) : ∀ k, brk F R P k ≤ P.length
  | 0 => Nat.zero_le _
  | k + 1 => by
    rw [brk]; split
    · rename_i h1; exact (endN_ok h h1).2.2.2.1
    · exact brk_le h k
theorem brk_succ {F : Font} {R : Rul} {P : List ByteArray} {k : Nat} (hk : brk F R P k < P.length) : brk F R P (k + 1) = endN F R P (brk F R P k) := by rw [brk, if_pos hk]
theorem brk_ge {F : Font} {R : Rul} {P : List ByteArray} (h : TextOk F R P) : ∀ k, k ≤ P.length → k ≤ brk F R P k ∨ brk F R P k = P.length
  | 0, _ => .inl (Nat.zero_le _)
  | k + 1, hk => by
    rcases brk_ge h k (by omega) with h1 | h1
    · by_cases h2 : brk F R P k < P.length
      · rw [brk_succ h2]
        have := endN_ok h h2
        left; omega
      · right
        have := brk_le h k
        rw [brk, if_neg h2]; omega
    · right; rw [brk, if_neg (by omega), h1]
theorem lines_ok {F : Font} {R : Rul} {P : List ByteArray} (h : TextOk F R P) : nLines F R P ≤ P.length ∧ brk F R P (nLines F R P) = P.length ∧ (∀ k, k < nLines F R P → brk F R P k < P.length) ∧ 1 ≤ nLines F R P := by
  have hs := firstN_spec (p := fun k => decide (P.length ≤ brk F R P k)) (n := P.length + 1)
  have hend : brk F R P P.length = P.length := by
    have h1 := brk_le h P.length
    rcases brk_ge h P.length (Nat.le_refl _) with h2 | h2 <;> omega
  have hn := h.n1
  have h0 : ∀ k, k < nLines F R P → brk F R P k < P.length := fun k hk => by
    have := of_decide_eq_false (hs.1 k hk)
    omega
  have hle : nLines F R P ≤ P.length := by
    rcases Nat.lt_or_ge P.length (nLines F R P) with h1 | h1
    · have := h0 _ h1; omega
    · exact h1
  have hat := of_decide_eq_true (hs.2 (by show nLines F R P < _; omega))
  have hat' : P.length ≤ brk F R P (nLines F R P) := hat
  refine ⟨hle, Nat.le_antisymm (brk_le h _) hat', h0, ?_⟩
  rcases Nat.eq_zero_or_pos (nLines F R P) with h1 | h1
  · rw [h1] at hat'; simp only [brk] at hat'; omega
  · exact h1
theorem brk_lt {F : Font} {R : Rul} {P : List ByteArray} (h : TextOk F R P) {k : Nat} (hk : k < nLines F R P) : brk F R P k < brk F R P (k + 1) ∧ brk F R P (k + 1) ≤ P.length ∧ brk F R P k < P.length := by
  have h1 := (lines_ok h).2.2.1 k hk
  have h2 := endN_ok h h1
  rw [brk_succ h1]
  omega
/-- A line that fits. -/
theorem brk_fits {F : Font} {R : Rul} {P : List ByteArray} (h : TextOk F R P) {k : Nat} (hk : k < nLines F R P) : wideL F P (brk F R P k) (brk F R P (k + 1)) ≤ R.measure := by
  have h1 := (lines_ok h).2.2.1 k hk
  have h2 := endN_ok h h1
  rw [brk_succ h1]
  have h3 := (firstN_spec (p := fun c => decide (R.measure < wideL F P (brk F R P k) (brk F R P k + c + 1))) (n := P.length - brk F R P k)).1 (endN F R P (brk F R P k) - brk F R P k - 1) (by have h4 := h2.2.2.1; unfold kmax at h4; omega)
  have h5 := of_decide_eq_false h3
  rw [show brk F R P k + (endN F R P (brk F R P k) - brk F R P k - 1) + 1 = endN F R P (brk F R P k) by omega] at h5
  omega
/-- The types of the blocks of a sheet that its iterators look at. -/
def needL : List TypeId := [96, 102, 107, 90, 113]
theorem RowS.same {w w' : World} {s : Sl} {sz n : Nat} {c : Nat → Nat → Value} (h : RowS w s sz n c) (hk : ∀ b off, s.a = some ⟨b, off, none⟩ → w'.heap[b]? = w.heap[b]?) : RowS w' s sz n c :=
  ⟨h.le, h.max, fun i j hi hj => by
    obtain ⟨b, off, ha, hc⟩ := h.cell i j hi hj
    refine ⟨b, off, ha, ?_⟩
    rw [← hc]; simp only [World.cell?]; rw [hk b off ha]⟩
theorem TyS.same {w w' : World} {s : Sl} {e : TypeId} (h : TyS w s e) (hk : ∀ b off, s.a = some ⟨b, off, none⟩ → w'.heap[b]? = w.heap[b]?) : TyS w' s e := fun b off ha => by
  obtain ⟨c, f, hc⟩ := h b off ha
  exact ⟨c, f, by rw [hk b off ha]; exact hc⟩
/-- Blocks whose type is not among those that turn. -/
theorem ty_sd {B : Nat} {ts : List TypeId} {w w' : World} (hb : Sd B ts w w') {s : Sl} {e : TypeId} (h : TyS w s e) (he : e ∉ ts) : ∀ b off, s.a = some ⟨b, off, none⟩ → w'.heap[b]? = w.heap[b]? := fun b off ha => by
  obtain ⟨c, f, hc⟩ := h b off ha
  rw [hc]; exact hb.keep b c e f hc he
theorem IntsT.sd {B : Nat} {ts : List TypeId} {w w' : World} (hb : Sd B ts w w') {s : Sl} {l : List Int} (h : IntsT w s l) (he : 3 ∉ ts) : IntsT w' s l := ⟨RowS.same h.1 (ty_sd hb h.2 he), h.2.same (ty_sd hb h.2 he)⟩
theorem WordsAt.sd {B : Nat} {ts : List TypeId} {w w' : World} (hb : Sd B ts w w') {F : Font} {P : List ByteArray} {gs ps : Nat → Sl} {s : Sl} (h : WordsAt w F P gs ps s) (h1 : 3 ∉ ts) (h2 : 90 ∉ ts) : WordsAt w' F P gs ps s :=
  ⟨RowS.same h.row (ty_sd hb h.ty h2), fun i hi => ⟨(h.gly i hi).1.sd hb h1, (h.gly i hi).2.sd hb h1⟩, h.ty.same (ty_sd hb h.ty h2)⟩
theorem WRow.sd {B : Nat} {ts : List TypeId} {w w' : World} (hb : Sd B ts w w') {F : Font} {P : List ByteArray} {gs ps : Nat → Sl} {s : Sl} (h : WRow w F P gs ps s) (h2 : 90 ∉ ts) : WRow w' F P gs ps s :=
  ⟨RowS.same h.row (ty_sd hb h.ty h2), h.ty.same (ty_sd hb h.ty h2)⟩
theorem GlyAt.sd {B : Nat} {ts : List TypeId} {w w' : World} (hb : Sd B ts w w') {F : Font} {P : List ByteArray} {gs ps : Nat → Sl} {n : Nat} (h : GlyAt w F P gs ps n) (h1 : 3 ∉ ts) : GlyAt w' F P gs ps n := fun i hi => ⟨(h i hi).1.sd hb h1, (h i hi).2.sd hb h1⟩
theorem Opened.at_ {w w0 W : World} {F : Font} {s : FSl} {R : Rul} {P : List ByteArray} {b gm km SB : Nat} {gs ps : Nat → Sl} {ws : Sl} {rb : Nat} (h : Opened w0 W F s R P b gm km SB gs ps ws rb) (hF : FontAt w F s) (hb : Below w.heap.size w w0) : Opened w W F s R P b gm km SB gs ps ws rb := ⟨hF, below_ext hb h.bel, h.set, h.sh, h.words, h.rest, h.rty⟩
/-- What the iterators of a sheet lean on. -/
structure OpenI (w0 w : World) (F : Font) (s : FSl) (R : Rul) (P : List ByteArray) (b gm km SB : Nat) (gs ps : Nat → Sl) (ws : Sl) (rb : Nat) : Prop where
  font : FontAt w0 F s
  bel : Below w0.heap.size w0 w
  set : SetAt w F s R b gm km
  sh : w.heap[SB]? = some (.cells #[.pointer (some ⟨b, 0, none⟩), .slice ws.a P.length ws.cap, .slice (some ⟨rb, 0, none⟩) (P.length + 1) (P.length + 1)] 102 (0, 0))
  words : WRow w F P gs ps ws
  rest : RowS w ⟨some ⟨rb, 0, none⟩, P.length + 1⟩ 3 (P.length + 1) (rstC (restS F R P))
  rty : TyS w ⟨some ⟨rb, 0, none⟩, P.length + 1⟩ 113
section
variable {w0 w w' : World} {F : Font} {s : FSl} {R : Rul} {P : List ByteArray} {b gm km SB : Nat} {gs ps : Nat → Sl} {ws : Sl} {rb : Nat} {ts : List TypeId}
theorem Opened.toI (h : Opened w0 w F s R P b gm km SB gs ps ws rb) : OpenI w0 w F s R P b gm km SB gs ps ws rb := ⟨h.font, h.bel, h.set, h.sh, h.words.wrow, h.rest, h.rty⟩
theorem OpenI.below (h : OpenI w0 w F s R P b gm km SB gs ps ws rb) (hb : Below w.heap.size w w') : OpenI w0 w' F s R P b gm km SB gs ps ws rb := ⟨h.font, below_ext h.bel hb, h.set.below hb, Ext2.blk hb h.sh, h.words.below hb, RowS.below h.rest hb, h.rty.below hb⟩
theorem OpenI.sheet (h : OpenI w0 w F s R P b gm km SB gs ps ws rb) : SheetAt w F s R b gm km SB P gs ps ws (.slice (some ⟨rb, 0, none⟩) (P.length + 1) (P.length + 1)) := ⟨h.set, h.sh, h.words⟩
theorem OpenI.bd (h : OpenI w0 w F s R P b gm km SB gs ps ws rb) (hb : Bd w0.heap.size ts w w') (hn : ∀ t ∈ needL, t ∉ ts) : OpenI w0 w' F s R P b gm km SB gs ps ws rb := by
  have hbl := h.bel.trans hb.bel
  refine ⟨h.font, hbl, ⟨hb.sd.keep _ _ _ _ h.set.blk (hn _ (by decide)), ?_, ?_, h.font.below hbl⟩, hb.sd.keep _ _ _ _ h.sh (hn _ (by decide)), h.words.sd hb.sd (hn _ (by decide)), RowS.same h.rest (ty_sd hb.sd h.rty (hn _ (by decide))), h.rty.same (ty_sd hb.sd h.rty (hn _ (by decide)))⟩
  · obtain ⟨es, c, hm⟩ := h.set.gl.isMap
    exact h.set.gl.kept (by rw [hm]; exact hb.keep _ _ hm fun c' e' f' he => by cases he)
  · obtain ⟨es, c, hm⟩ := h.set.kn.isMap
    exact h.set.kn.kept (by rw [hm]; exact hb.keep _ _ hm fun c' e' f' he => by cases he)
theorem OpenI.cells (h : OpenI w0 w F s R P b gm km SB gs ps ws rb) {i : Nat} (hi : i ≤ P.length) :
    w.cell? ⟨rb, i * 3, none⟩ = some (.int .i64 (restS F R P i).cost) ∧ w.cell? ⟨rb, i * 3 + 1, none⟩ = some (.int .i64 (restS F R P i).lines) ∧ w.cell? ⟨rb, i * 3 + 2, none⟩ = some (.int .i64 (restS F R P i).end_) := by
  obtain ⟨b', off, ha, hr⟩ := h.rest.row (by omega) (by omega)
  obtain ⟨rfl, rfl⟩ : rb = b' ∧ 0 = off := by simpa using ha
  have h1 := hr.three (i := i) (by omega)
  simpa [Nat.zero_add, rstC] using h1
theorem Opened.cells (h : Opened w0 w F s R P b gm km SB gs ps ws rb) {i : Nat} (hi : i ≤ P.length) :
    w.cell? ⟨rb, i * 3, none⟩ = some (.int .i64 (restS F R P i).cost) ∧ w.cell? ⟨rb, i * 3 + 1, none⟩ = some (.int .i64 (restS F R P i).lines) ∧ w.cell? ⟨rb, i * 3 + 2, none⟩ = some (.int .i64 (restS F R P i).end_) := h.toI.cells hi
end
end Go.Proofs.YtahgbecfaihfpaaDoor
namespace Go.Proofs.YtahgbecfaihfpaaDoor
open Go.RowKit D
set_option linter.unusedVariables false
set_option linter.unusedSimpArgs false
attribute [local go_sem high] run_minI run_maxI
attribute [local go_sem] upon2 cls_cell cls_frozen forall_const exists_eq_left'
attribute [local go_sem] FirstUpon Oper.semAt_some
theorem linesF_any (SB : Nat) (w : World) : Calls Tryd.prog 68 #[.pointer (some ⟨SB, 0, none⟩)] w fun e w' => e = .returned (.func (.func 81) #[] #[.pointer (some ⟨w.heap.size, 0, none⟩)]) ∧ w' = w.alloc (.cells #[.pointer (some ⟨SB, 0, none⟩)] 96 (0, 0)) := by
  go_enter Tryd.func68, Tryd.ntmps68
  go_wp2
  go_ret
  exact ⟨rfl, rfl⟩
/-- What the lines lean on. -/
def LinesAt (lb : Nat) (w0 : World) (F : Font) (s : FSl) (R : Rul) (P : List ByteArray) (b gm km SB : Nat) (gs ps : Nat → Sl) (ws : Sl) (rb : Nat) (W : World) : Prop :=
  W.heap[lb]? = some (.cells #[.pointer (some ⟨SB, 0, none⟩)] 96 (0, 0)) ∧ OpenI w0 W F s R P b gm km SB gs ps ws rb
theorem LinesAt.bd {lb : Nat} {w0 w w' : World} {F : Font} {s : FSl} {R : Rul} {P : List ByteArray} {b gm km SB : Nat} {gs ps : Nat → Sl} {ws : Sl} {rb : Nat} {ts : List TypeId} (h : LinesAt lb w0 F s R P b gm km SB gs ps ws rb w) (hb : Bd w0.heap.size ts w w') (hn : ∀ t ∈ needL, t ∉ ts) : LinesAt lb w0 F s R P b gm km SB gs ps ws rb w' :=
  ⟨hb.sd.keep _ _ _ _ h.1 (hn _ (by decide)), h.2.bd hb hn⟩
set_option maxRecDepth 100000 in
set_option maxHeartbeats 2000000 in
theorem linesIter_in (Fe : Fence) (hFe : Fe = Fence.wide) (hro : Fe.round = none) {lb : Nat} {w0 : World} {F : Font} {s : FSl} {R : Rul} {P : List ByteArray} {b gm km SB : Nat} {gs ps : Nat → Sl} {ws : Sl} {rb : Nat} (hk : FontOk F) (hr : RulOk F R) (ht : TextOk F R P)
    (ts : List TypeId) (l : Nat) (I X : Nat → World → Prop) (W : World) (hp0 : LinesAt lb w0 F s R P b gm km SB gs ps ws rb W) (hts : ∀ t ∈ needL, t ∉ ts) (h0 : I 0 W) (hI : ∀ k W1 W2, I k W1 → Sd W.heap.size [] W1 W2 → I k W2)
    (hY : ∀ k W1, k < nLines F R P → I k W1 → YieldAt Fe 0 Tryd.prog l #[.int .i64 (k : Int), .agg #[.int .i64 (linS F R P k).from_, .int .i64 (linS F R P k).until_, .int .i64 (linS F R P k).wide, .int .i64 (linS F R P k).cost]] W1 fun e W' => (e = .returned (.bool true) ∧ Bd w0.heap.size ts W1 W' ∧ I (k + 1) W') ∨ (e = .returned (.bool false) ∧ KeepsFrom W.heap.size W1 W' ∧ X k W')) :
    CallsIn Fe 1 Tryd.prog 81 (#[.func (.yield l) #[] #[]] ++ #[.pointer (some ⟨lb, 0, none⟩)]) W fun e W' => (∃ v, e = .returned v) ∧ (I (nLines F R P) W' ∨ ∃ k, k < nLines F R P ∧ X k W') := by
  have HY := Lib.hid hY; have HI := Lib.hid hI; have H0 := Lib.hid h0; have HP0 := Lib.hid hp0; have HK := Lib.hid hk; have HRO := Lib.hid hr; have HTX := Lib.hid ht; have HTS := Lib.hid hts; have HF := Lib.hid hFe
  have hsz : w0.heap.size ≤ W.heap.size := hp0.2.bel.size
  have hlo := lines_ok ht
  have h40 := ht.n40
  have hl40 : nLines F R P ≤ 40 := by omega
  have HLO := Lib.hid hlo
  clear hY hI h0 hp0 hk hr ht hts hlo
  refine callsIn_of_wp Tryd.func81 rfl (by rw [hFe]; trivial) ?_ hro
  clear hFe
  simp only [Tryd.ntmps81, List.size_toArray, List.length_cons, List.length_nil, Nat.reduceAdd, Nat.reduceSub, Array.replicate_succ, Array.replicate_zero, List.push_toArray, List.append_toArray, List.nil_append, List.cons_append]
  gi_wp2
  gi_loopw [3, 4] (fun p q wr => ∃ (a k : Nat), p = .int .i64 (a : Int) ∧ q = .int .i64 (k : Int) ∧ a = brk F R P k ∧ k ≤ nLines F R P ∧ Bd w0.heap.size ts W wr ∧ I k wr) (fun _ q _ => nLines F R P - (intOf q).toNat)
  case atStart => exact ⟨0, 0, rfl, rfl, rfl, Nat.zero_le _, Bd.refl _ _ _, H0.out⟩
  case round =>
    obtain ⟨a, k, rfl, rfl, ha, hk, hB, hi⟩ := hrel
    have hL := HP0.out.bd hB HTS.out
    have HL := Lib.hid hL; have HB := Lib.hid hB; have HIK := Lib.hid hi; have HA := Lib.hid ha
    have hsw : W.heap.size ≤ wr.heap.size := hB.bel.size
    have xl := hL.1; have xS := hL.2.sh
    clear hL hB hi
    have qlc := cell_blk xl
    have qlf := frz_blk xl
    have qSc := cell_blk xS
    have qSf := frz_blk xS
    rcases Nat.lt_or_ge k (nLines F R P) with hlt | hge
    · have hbl := brk_lt HTX.out hlt
      have hen := endN_ok HTX.out hbl.2.2
      rw [← brk_succ hbl.2.2] at hen
      obtain ⟨z, hz⟩ : ∃ z, z = brk F R P (k + 1) := ⟨_, rfl⟩
      have hze : endN F R P a = z := by rw [hz, brk_succ hbl.2.2, ha]
      have HZE := Lib.hid hze
      clear hze
      rw [← ha, ← hz] at hbl hen
      have HZ := Lib.hid hz
      obtain ⟨e0, e1, e2⟩ := HL.out.2.cells (i := a) (by omega)
      rw [hen.1] at e2
      have HLN : Hid (∀ W1, Ext2 wr W1 → Calls Tryd.prog 56 #[.pointer (some ⟨SB, 0, none⟩), .int .i64 (a : Int), .int .i64 (z : Int)] W1 fun e w' => e = .returned (.agg #[.int .i64 (a : Int), .int .i64 (z : Int), .int .i64 (wideL F P a z), .int .i64 (costL F R P a z)]) ∧ Below W1.heap.size W1 w') :=
        Lib.hid fun W1 hW1 => line_any (HL.out.2.below hW1).sheet HK.out HRO.out HTX.out hbl.1 hbl.2.1
      have hlin : linS F R P k = ⟨a, z, wideL F P a z, costL F R P a z⟩ := by unfold linS lineS; rw [← ha, ← hz]
      have HLIN := Lib.hid hlin
      have t0 : (0 : Int) ≤ (a : Int) := by omega
      have t1 : (a : Int) < (P.length : Int) + 1 := by omega
      have r1 : (a : Int) < (P.length : Int) := by omega
      have w3' : IntKind.i64.wrap ((k : Int) + 1) = (k : Int) + 1 := IntWalk.i64_in _ (by omega)
      clear hen hz hlin ha
      gi_wp2
      rw [HF.out]
      refine wide_region_ev [0, 1, 2, 3, 4, 5, 6, 7, 8, 9, 10, 11, 12] [13, 14] (by rintro ⟨a_, w_, h_⟩; have h2_ : (∃ v, Ending.outgrown = Ending.returned v) ∧ _ := h_; obtain ⟨⟨v_, hv_⟩, -⟩ := h2_; cases hv_) (by kernel_rfl) (by kernel_rfl) (by intro c a d v w h; cases d <;> exact h) ?_
      simp only [picks, List.drop_succ_cons, List.drop_zero]
      repeat ((with_reducible refine wpQ2_step (fun K hK => ?_)); go_simp; first | ((with_reducible refine hK _ ?_); clear hK K) | (apply Exists.intro; refine ⟨fun x => ?_, hK _ ?_⟩; ((with_reducible exact HLN.out x.1 x.2)); clear hK K))
      refine wpQ2_nil ?_
      intro W2 hE2
      have hi2 := HI.out _ _ _ HIK.out (Sd.ext hE2 hsw)
      obtain ⟨fn, tmps, assign, body, hy, hR⟩ := HY.out k W2 hlt hi2
      rw [HLIN.out] at hy
      rw [HF.out] at hR
      have HR := Lib.hid hR
      clear hR
      gi_wp2
      refine HR.out.mono ?_
      rintro e W3 (⟨rfl, hB3, hI3⟩ | ⟨rfl, hkf, hX⟩)
      · have hB := (HB.out.trans (Bd.ext hE2 (Nat.le_trans hsz hsw))).trans hB3
        have hL := HP0.out.bd hB HTS.out
        have xl := hL.1; have xS := hL.2.sh
        obtain ⟨e0, e1, e2⟩ := hL.2.cells (i := a) (by omega)
        rw [(endN_ok HTX.out hbl.2.2).1, HZE.out] at e2
        have HB3 := Lib.hid hB; have HI3 := Lib.hid hI3
        clear hB hL hI3 hB3 hi2 hy hE2 qlc qlf qSc qSf
        have qlc := cell_blk xl
        have qlf := frz_blk xl
        have qSc := cell_blk xS
        have qSf := frz_blk xS
        gi_wp2
        go_roundw
        case rel => exact ⟨z, k + 1, rfl, by go_num, HZ.out, by omega, HB3.out, HI3.out⟩
        case measure => simp [intOf]; omega
      · have HX := Lib.hid hX
        clear hX hkf hy hi2 hE2
        gi_wp2
        refine bodyPost_ret (results_none rfl _ _ _) rfl ?_
        exact ⟨⟨_, rfl⟩, .inr ⟨k, hlt, HX.out⟩⟩
    · have hr1 : ¬ (a : Int) < (P.length : Int) := by
        obtain rfl : k = nLines F R P := by omega
        have := HLO.out.2.1
        rw [← ha] at this; omega
      obtain rfl : k = nLines F R P := by omega
      clear ha
      gi_wp2
      go_end0
      exact ⟨⟨_, rfl⟩, .inl HIK.out⟩
theorem linesIter {lb : Nat} {w0 : World} {F : Font} {s : FSl} {R : Rul} {P : List ByteArray} {b gm km SB : Nat} {gs ps : Nat → Sl} {ws : Sl} {rb : Nat} (hk : FontOk F) (hr : RulOk F R) (ht : TextOk F R P) :
    IterS Tryd.prog 81 #[.pointer (some ⟨lb, 0, none⟩)] (nLines F R P) (fun k => #[.int .i64 (k : Int), .agg #[.int .i64 (linS F R P k).from_, .int .i64 (linS F R P k).until_, .int .i64 (linS F R P k).wide, .int .i64 (linS F R P k).cost]]) needL [] w0.heap.size (LinesAt lb w0 F s R P b gm km SB gs ps ws rb) :=
  fun ts l I X W hp0 hts h0 hI _ hY => callsIn_wide.2 (callsIn_wide.1 (linesIter_in Fence.wide rfl rfl hk hr ht ts l I X W hp0 hts h0 hI hY))
end Go.Proofs.YtahgbecfaihfpaaDoor
