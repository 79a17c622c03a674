/-
  Where words are, plain.
  title.places: the words in the order of the text, and where they are.
  title.Place.
-/
import Derived.Test.YtahgbecfaihfpaaDoorTJudge
namespace Go.Proofs.YtahgbecfaihfpaaDoor.D
structure Pl where
  page : Int
  line : Int
  left : Int
  deriving DecidableEq, Inhabited
/-- The left end of the d-th word of a line. -/
def leftN (F : Font) (R : Rul) (P : List ByteArray) (k : Nat) : Nat → Int
  | 0 => (R.measure - wideL F P (brk F R P k) (brk F R P (k + 1))) / 2
  | d + 1 => leftN F R P k d + (wW F (strD P (brk F R P k + d)) + F.space)
/-- The line of a word. -/
def lineOf (F : Font) (R : Rul) (P : List ByteArray) (i : Nat) : Nat := firstN (fun k => decide (i < brk F R P (k + 1))) (nLines F R P)
def plN (F : Font) (R : Rul) (P : List ByteArray) (k d : Nat) : Pl := ⟨(k : Int) / R.lines, (k : Int) % R.lines, leftN F R P k d⟩
def plS (F : Font) (R : Rul) (P : List ByteArray) (i : Nat) : Pl := plN F R P (lineOf F R P i) (i - brk F R P (lineOf F R P i))
end Go.Proofs.YtahgbecfaihfpaaDoor.D
namespace Go.Proofs.YtahgbecfaihfpaaDoor
open Go.RowKit D
theorem brk_mono {F : Font} {R : Rul} {P : List ByteArray} (h : TextOk F R P) : ∀ (d k : Nat), brk F R P k ≤ brk F R P (k + d)
  | 0, k => Nat.le_refl _
  | d + 1, k => by
    have h1 := brk_mono h d k
    rw [← Nat.add_assoc, brk]
    split
    · rename_i h2; have := (endN_ok h h2).2.1; omega
    · exact h1
theorem lineOf_at {F : Font} {R : Rul} {P : List ByteArray} (h : TextOk F R P) {k d : Nat} (hk : k < nLines F R P) (hd : brk F R P k + d < brk F R P (k + 1)) : lineOf F R P (brk F R P k + d) = k := by
  unfold lineOf
  refine firstN_at (p := fun m => decide (brk F R P k + d < brk F R P (m + 1))) (fun j hj => decide_eq_false ?_) (decide_eq_true hd) hk
  have := brk_mono h (k - (j + 1)) (j + 1)
  rw [show j + 1 + (k - (j + 1)) = k by omega] at this
  omega
theorem plS_at {F : Font} {R : Rul} {P : List ByteArray} (h : TextOk F R P) {k d : Nat} (hk : k < nLines F R P) (hd : brk F R P k + d < brk F R P (k + 1)) : plS F R P (brk F R P k + d) = plN F R P k d := by
  unfold plS
  rw [lineOf_at h hk hd, Nat.add_sub_cancel_left]
/-- The line of a word: where it lies. -/
theorem lineOf_ok {F : Font} {R : Rul} {P : List ByteArray} (h : TextOk F R P) {i : Nat} (hi : i < P.length) : lineOf F R P i < nLines F R P ∧ brk F R P (lineOf F R P i) ≤ i ∧ i < brk F R P (lineOf F R P i + 1) := by
  have hs := firstN_spec (p := fun k => decide (i < brk F R P (k + 1))) (n := nLines F R P)
  have hlo := lines_ok h
  have hlt : lineOf F R P i < nLines F R P := by
    rcases Nat.lt_or_ge (lineOf F R P i) (nLines F R P) with h1 | h1
    · exact h1
    · have h2 := of_decide_eq_false (hs.1 (nLines F R P - 1) (by show _ < lineOf F R P i; omega))
      rw [show nLines F R P - 1 + 1 = nLines F R P by omega, hlo.2.1] at h2
      omega
  refine ⟨hlt, ?_, of_decide_eq_true (hs.2 hlt)⟩
  rcases Nat.eq_zero_or_pos (lineOf F R P i) with h1 | h1
  · rw [h1]; exact Nat.zero_le _
  · have h2 := of_decide_eq_false (hs.1 (lineOf F R P i - 1) (by show _ < lineOf F R P i; omega))
    rw [show lineOf F R P i - 1 + 1 = lineOf F R P i by omega] at h2
    omega
/-- The sum of a line's words. -/
theorem leftN_eq {F : Font} {R : Rul} {P : List ByteArray} (k : Nat) : ∀ d, leftN F R P k d = leftN F R P k 0 + (sumW F P (brk F R P k) d + F.space)
  | 0 => by simp only [sumW]; omega
  | d + 1 => by
    have h1 := leftN_eq (F := F) (R := R) (P := P) k d
    have h2 : leftN F R P k (d + 1) = leftN F R P k d + (wW F (strD P (brk F R P k + d)) + F.space) := rfl
    rw [h2, h1, sumW]; omega
theorem left_rng {F : Font} {R : Rul} {P : List ByteArray} (hk : FontOk F) (hr : RulOk F R) (h : TextOk F R P) {k : Nat} (hkl : k < nLines F R P) {d : Nat} (hd : brk F R P k + d ≤ P.length) : 0 ≤ leftN F R P k 0 ∧ leftN F R P k 0 ≤ 48 ∧ 0 ≤ leftN F R P k d ∧ leftN F R P k d ≤ 3000 := by
  have h1 := brk_fits h hkl
  have hb := brk_lt h hkl
  have h2 := wideL_rng hk hr h (a := brk F R P k) (z := brk F R P (k + 1)) hb.1 hb.2.1
  have h3 := hr.measure
  have h4 := sumW_rng hk hr h (brk F R P k) d hd
  have h5 := hk.space
  have h40 := h.n40
  have h0 : 0 ≤ leftN F R P k 0 ∧ leftN F R P k 0 ≤ 48 := by simp only [leftN]; omega
  have h6 := leftN_eq (F := F) (R := R) (P := P) k d
  have h7 : 0 ≤ sumW F P (brk F R P k) d + F.space := by
    have : ∀ n, brk F R P k + n ≤ P.length → 0 ≤ sumW F P (brk F R P k) n + F.space := fun n => by
      induction n with
      | zero => intro _; simp only [sumW]; omega
      | succ n ih =>
        intro hn
        have i1 := ih (by omega)
        have i2 := (h.wide (brk F R P k + n) (by omega)).1
        rw [sumW]; omega
    exact this d hd
  refine ⟨h0.1, h0.2, ?_, ?_⟩ <;> omega
end Go.Proofs.YtahgbecfaihfpaaDoor
namespace Go.Proofs.YtahgbecfaihfpaaDoor
open Go.RowKit D
set_option linter.unusedVariables false
set_option linter.unusedSimpArgs false
attribute [local go_sem high] run_minI run_maxI
attribute [local go_sem] upon2 cls_cell cls_frozen forall_const exists_eq_left'
attribute [local go_sem] FirstUpon Oper.semAt_some
theorem turn_three {b : Nat} {W : World} {x y z : Value} {t : TypeId} (hb : W.heap[b]? = some (.cells #[x, y, z] t (0, 0))) (u v r : Value) : Turn b (.cells #[u, v, r] t (0, 0)) W (((W.setCell ⟨b, 0, none⟩ u).setCell ⟨b, 1, none⟩ v).setCell ⟨b, 2, none⟩ r) := by
  have h := ((turn_set (o := 0) hb u).set (o := 1) v).set (o := 2) r
  simpa using h
theorem placesF_any (SB : Nat) (w : World) : Calls Tryd.prog 62 #[.pointer (some ⟨SB, 0, none⟩)] w fun e w' => e = .returned (.func (.func 79) #[] #[.pointer (some ⟨w.heap.size, 0, none⟩)]) ∧ w' = w.alloc (.cells #[.pointer (some ⟨SB, 0, none⟩)] 96 (0, 0)) := by
  go_enter Tryd.func62, Tryd.ntmps62
  go_wp2
  go_ret
  exact ⟨rfl, rfl⟩
def wordV (F : Font) (P : List ByteArray) (gs ps : Nat → Sl) (i : Nat) : Value := .agg #[.string (strD P i), .slice (gs i).a (gL F (strD P i)).length (gs i).cap, .slice (ps i).a (gL F (strD P i)).length (ps i).cap, .int .i64 (wW F (strD P i))]
def plV (x : Pl) : Value := .agg #[.int .i64 x.page, .int .i64 x.line, .int .i64 x.left]
def needP : List TypeId := 144 :: 76 :: needL
theorem keepsFrom_mono {B B' : Nat} {W W' : World} (h : KeepsFrom B W W') (hB : B ≤ B') : KeepsFrom B' W W' := ⟨h.size, fun k o hk => h.same k o (by omega)⟩
theorem bd_sd {B : Nat} {ts : List TypeId} {w2 W1 W2 : World} (h : Bd B ts w2 W1) (hs : Sd w2.heap.size [] W1 W2) (hB : B ≤ w2.heap.size) : Bd B ts w2 W2 :=
  ⟨h.bel.trans (hs.bel.mono hB), fun g o hg ho => (hs.bel.block g (blk_lt hg)).trans (h.keep g o hg ho)⟩
set_option maxRecDepth 100000 in
set_option maxHeartbeats 2000000 in
theorem placesIter {lb : Nat} {w0 : World} {F : Font} {s : FSl} {R : Rul} {P : List ByteArray} {b gm km SB : Nat} {gs ps : Nat → Sl} {ws : Sl} {rb : Nat} (hk : FontOk F) (hr : RulOk F R) (ht : TextOk F R P) :
    IterS Tryd.prog 79 #[.pointer (some ⟨lb, 0, none⟩)] P.length (fun i => #[wordV F P gs ps i, plV (plS F R P i)]) needP [76] w0.heap.size (LinesAt lb w0 F s R P b gm km SB gs ps ws rb) := by
  intro ts l I X W hp0 hts h0 hI hX hY
  have HY := Lib.hid hY; have HI := Lib.hid hI; have HXS := Lib.hid hX; have H0 := Lib.hid h0; have HP0 := Lib.hid hp0; have HK := Lib.hid hk; have HRO := Lib.hid hr; have HTX := Lib.hid ht; have HTS := Lib.hid hts
  have hsz : w0.heap.size ≤ W.heap.size := hp0.2.bel.size
  have h40 := ht.n40
  have xl := hp0.1
  clear hY hI hX h0 hp0 hk hr ht hts
  refine callsIn_wide.2 ?_
  have qlc := cell_blk xl
  have qlf := frz_blk xl
  have ll := blk_lt xl
  have nl : ¬ lb = W.heap.size := by omega
  refine calls_of_wp_marks Tryd.func79 rfl ?_
  simp only [Tryd.ntmps79, List.size_toArray, List.length_cons, List.length_nil, Nat.reduceAdd, Nat.reduceSub, Array.replicate_succ, Array.replicate_zero, List.push_toArray, List.append_toArray, List.nil_append, List.cons_append]
  go_wp2_with (fail)
  refine (linesF_any _ _).mono ?_
  rintro e w2 ⟨rfl, h2⟩
  obtain ⟨yb, hyb⟩ : ∃ n, n = W.heap.size := ⟨_, rfl⟩
  obtain ⟨lc, hlc⟩ : ∃ n, n = W.heap.size + 1 := ⟨_, rfl⟩
  have hE2 : Ext2 W w2 := by rw [h2]; repeat' (first | exact Below.refl _ _ | assumption | refine below_drewN ?_ _ | refine Below.drew ?_ | refine Below.alloc ?_ (by first | assumption | omega | (simp <;> omega)) _ | refine Below.setCell ?_ (by first | assumption | omega | (simp <;> omega)) _ | refine Ext2.on (by assumption) ?_)
  have xy : w2.heap[yb]? = some (.cells #[.func (.yield l) #[] #[]] 144 (0, 0)) := by rw [h2, hyb]; exact blk_alloc (blk_new _ _) _
  have xc : w2.heap[lc]? = some (.cells #[.pointer (some ⟨SB, 0, none⟩)] 96 (0, 0)) := by rw [h2, hlc]; exact blk_new' _ _ (by simp)
  have hs2 : w2.heap.size = W.heap.size + 2 := by rw [h2]; simp
  have HOP2 := Lib.hid (HP0.out.2.below hE2)
  simp only [World.size_alloc]
  have HE2 := Lib.hid hE2
  clear h2 hE2 xl qlc qlf nl
  have hlo := lines_ok HTX.out
  have hny : 144 ∉ (76 :: ts) := fun h => by
    rcases List.mem_cons.1 h with h | h
    · exact absurd h (by decide)
    · exact HTS.out _ (List.mem_cons_self) h
  have hnl : ∀ t ∈ needL, t ∉ 76 :: ts := fun t ht h => by
    rcases List.mem_cons.1 h with rfl | h
    · exact absurd ht (by decide)
    · exact HTS.out t (List.mem_cons_of_mem _ (List.mem_cons_of_mem _ ht)) h
  go_wp2_with (fail)
  refine wp_aname ?_
  intro a0 ha0
  rw [← hlc, ← hyb] at ha0
  have HYB0 := Lib.hid hyb; have HLC0 := Lib.hid hlc
  clear hyb hlc
  refine ss_out (gf := 81) (lb := #[.pointer (some ⟨lc, 0, none⟩)]) (by rw [ha0]; rfl) (enters_of Tryd.func81 (by kernel_rfl) rfl) (linesIter (lb := lc) (w0 := w0) (s := s) (b := b) (gm := gm) (km := km) (SB := SB) (gs := gs) (ps := ps) (ws := ws) (rb := rb) HK.out HRO.out HTX.out) (ts := 76 :: ts) hnl (fun _ => rfl)
    (fun k W1 => I (brk F R P k) W1 ∧ Bd w0.heap.size (76 :: ts) w2 W1)
    (fun k a' W1 => (∃ b4, W1.heap[b4]? = some (.cells #[.int .i64 (linS F R P k).from_, .int .i64 (linS F R P k).until_, .int .i64 (linS F R P k).wide, .int .i64 (linS F R P k).cost] 71 (0, 0)) ∧ a' = { tmps := (((a0.tmps.setIfInBounds 10 (.int .i64 (k : Int))).setIfInBounds 11 (.agg #[.int .i64 (linS F R P k).from_, .int .i64 (linS F R P k).until_, .int .i64 (linS F R P k).wide, .int .i64 (linS F R P k).cost])).setIfInBounds 3 (.int .i64 (k : Int))).setIfInBounds 4 (.pointer (some ⟨b4, 0, none⟩)), defers := [] }) ∧ I (brk F R P k) W1 ∧ Bd w0.heap.size (76 :: ts) w2 W1)
    (fun c _ W1 => c = .ret ∧ ∃ i, i < P.length ∧ X i W1) ?hI ?hJ ?hX (by omega) ?hp0 ?h0 ?assign ?body ?done ?stop
  case hI => exact fun k Wa Wb h hs => ⟨HI.out _ _ _ h.1 ((hs.mono (by omega)).types (fun t h => by cases h)), bd_sd h.2 hs (by omega)⟩
  case hJ =>
    rintro k a' Wa Wb ⟨⟨b4, h1, h2⟩, h3, h4⟩ hs
    exact ⟨⟨b4, hs.keep _ _ _ _ h1 (by simp), h2⟩, HI.out _ _ _ h3 ((hs.mono (by omega)).types (fun t h => by cases h)), bd_sd h4 hs (by omega)⟩
  case hX =>
    rintro c k Wa Wb ⟨rfl, i, hi, hx⟩ hs
    exact ⟨rfl, i, hi, HXS.out _ _ _ hx (hs.mono (by omega))⟩
  case hp0 => exact fun W1 hW => ⟨Ext2.blk hW xc, HOP2.out.below hW⟩
  case h0 => exact ⟨HI.out 0 W w2 H0.out (Sd.ext HE2.out (Nat.le_refl _)), Bd.refl _ _ _⟩
  case assign =>
    rintro l' k W1 hk ⟨hi, hbd⟩
    subst ha0
    have hsw := hbd.bel.size
    gi_wp2
    have hE : Ext2 W1 (W1.alloc (Obj.cells #[.int .i64 (linS F R P k).from_, .int .i64 (linS F R P k).until_, .int .i64 (linS F R P k).wide, .int .i64 (linS F R P k).cost] 71)) := below_alloc' _ _
    exact ⟨Bd.ext hE (by omega), ⟨W1.heap.size, blk_new _ _, rfl⟩, HI.out _ _ _ hi (Sd.ext hE (by omega)), hbd.trans (Bd.ext hE (by omega))⟩
  case body =>
    rintro l' k a' W1 hl' hr' hk ⟨⟨b4, x4, rfl⟩, hi, hbd⟩
    subst ha0
    simp only [List.setIfInBounds_toArray, List.set_cons_succ, List.set_cons_zero]
    have hsw := hbd.bel.size
    have hL : LinesAt lb w0 F s R P b gm km SB gs ps ws rb W1 := (HP0.out.bd ((Bd.ext HE2.out hsz).trans hbd) hnl)
    have HL := Lib.hid hL; have HBD := Lib.hid hbd; have HIK := Lib.hid hi; have HYB := Lib.hid (hbd.keep yb _ xy fun c e f h => by cases h; exact hny)
    have xq := hL.1; have xS := hL.2.sh; have xs := hL.2.set.blk
    have hbl := brk_lt HTX.out hk
    have hlr := left_rng HK.out HRO.out HTX.out hk (d := 0) (by omega)
    have hwr := wideL_rng HK.out HRO.out HTX.out hbl.1 hbl.2.1
    have hft := brk_fits HTX.out hk
    have hlin := HRO.out.lines; have hms := HRO.out.measure
    obtain ⟨a, ha⟩ : ∃ a, a = brk F R P k := ⟨_, rfl⟩
    obtain ⟨z, hz⟩ : ∃ z, z = brk F R P (k + 1) := ⟨_, rfl⟩
    obtain ⟨Wd, hWd⟩ : ∃ x, x = wideL F P a z := ⟨_, rfl⟩
    rw [← ha, ← hz, ← hWd] at hwr hft
    rw [← ha, ← hz] at hbl
    have hd0 : leftN F R P k 0 = (R.measure - Wd) / 2 := by simp only [leftN]; rw [hWd, ha, hz]
    have hx4 : W1.heap[b4]? = some (.cells #[.int .i64 (a : Int), .int .i64 (z : Int), .int .i64 Wd, .int .i64 (costL F R P a z)] 71 (0, 0)) := by rw [x4]; unfold linS lineS; rw [← ha, ← hz, hWd]
    obtain ⟨L0, hL0⟩ : ∃ x, x = (R.measure - Wd) / 2 := ⟨_, rfl⟩
    obtain ⟨pg, hpg⟩ : ∃ x, x = (k : Int) / R.lines := ⟨_, rfl⟩
    obtain ⟨ln, hln⟩ : ∃ x, x = (k : Int) % R.lines := ⟨_, rfl⟩
    have hq1 : (k : Int).tdiv R.lines = pg := by rw [hpg]; exact Int.tdiv_eq_ediv_of_nonneg (by omega)
    have hq2 : (k : Int).tmod R.lines = ln := by rw [hln]; exact Int.tmod_eq_emod_of_nonneg (by omega)
    have hpg0 : 0 ≤ pg ∧ pg ≤ (k : Int) := by rw [hpg]; exact ⟨Int.ediv_nonneg (by omega) (by omega), Int.ediv_le_self _ (by omega)⟩
    have s2 : IntKind.i64.wrap pg = pg := IntWalk.i64_in _ (by omega)
    have HPG := Lib.hid hpg; have HLNN := Lib.hid hln
    have hq3 : (R.measure - Wd).tdiv 2 = L0 := by rw [hL0]; exact Int.tdiv_eq_ediv_of_nonneg (by omega)
    have hL48 : 0 ≤ L0 ∧ L0 ≤ 48 := by omega
    have s3 : IntKind.i64.wrap L0 = L0 := IntWalk.i64_in _ (by omega)
    have s1 : IntKind.i64.wrap (R.measure - Wd) = R.measure - Wd := IntWalk.i64_in _ (by omega)
    have hne : ¬ R.lines = 0 := by omega
    have kl40 : k ≤ 40 := by omega
    have hdq : (k : Int) / R.lines = pg := hpg.symm
    have hdm : (k : Int) % R.lines = ln := hln.symm
    clear hpg hln
    have HD0 := Lib.hid hd0; have HL0 := Lib.hid hL0; have HA := Lib.hid ha; have HZ := Lib.hid hz
    clear hL hbd hi x4 hd0 hL0 ha hz hWd hlr
    have qqc := cell_blk xq
    have qqf := frz_blk xq
    have qSc := cell_blk xS
    have qSf := frz_blk xS
    have qsc := cell_blk xs
    have qsf := frz_blk xs
    have q4c := cell_blk hx4
    have q4f := frz_blk hx4
    repeat (first | go_values | gi_guarded | gi_step | gi_upon | gi_in)
    refine round_region_ev [] [0, 1, 2, 3, 4, 5, 6, 7, 8, 9, 10, 11, 12, 13, 14, 15, 16, 17, 18, 19, 20, 21, 22, 23, 24, 25, 26, 27, 28, 29, 30, 31, 32] [(33, 5, some 34)] [] (by kernel_rfl) (by rintro ⟨a_, w_, h_⟩; exact h_) (by kernel_rfl) (by kernel_rfl) (by intro c a d v w h; cases d <;> exact h) ?_
    simp only [picks, List.drop_succ_cons, List.drop_zero]
    repeat (refine wpQ0_step (fun K hK => ?_); go_simp; (refine hK _ ?_; clear hK K))
    refine wpQ0_nil ?_
    repeat ((with_reducible refine wpQ2_step (fun K hK => ?_)); go_simp; first | ((with_reducible refine hK _ ?_); clear hK K) | (apply Exists.intro; refine ⟨fun x => ?_, hK _ ?_⟩; (fail); clear hK K))
    refine wpQ2_nil ?_
    refine Events.fill1 (fun b => .pointer (some ⟨b, 0, none⟩)) (Obj.cells #[.int .i64 0, .int .i64 0, .int .i64 0] 76) (Obj.cells #[.int .i64 pg, .int .i64 ln, .int .i64 L0] 76) ⟨_, rfl, rfl, rfl, fun W => by kernel_rfl⟩ ⟨_, rfl, rfl, rfl, fun b W hb => ?_⟩ fun b5 w3 hb5 hg3 nb5 => ?_
    · have hbc := cell_blk hb; have hbf := frz_blk hb; go_simp; exact turn_three hb _ _ _
    simp only [picks, List.drop_succ_cons, List.drop_zero]
    have hsz3 := hg3.size
    have x4 := Ext2.blk hg3 hx4
    have hLE := LinesAt.bd HL.out (Bd.ext hg3 (show w0.heap.size ≤ W1.heap.size by omega)) (ts := 76 :: ts) hnl
    have hb3 : Bd w0.heap.size (76 :: ts) W1 w3 := Bd.ext hg3 (by omega)
    have hi3 := HI.out _ _ _ HIK.out (Sd.ext hg3 (by omega))
    have x5 := nb5
    have HS5 : Hid (W1.heap.size ≤ b5) := Lib.hid hb5
    clear q4c q4f qqc qqf qSc qSf qsc qsf hq1 hq2 hq3 s1 s2 s3 xq xS xs hx4 hne nb5
    have xq := hLE.1; have xS := hLE.2.sh
    have hcap := hLE.2.words.row.le; have hmax := hLE.2.words.row.max
    obtain ⟨sa, sc⟩ := ws
    dsimp only at hcap hmax xS
    obtain ⟨wb, off, hwa, -⟩ := word_cells hLE.2.words.row (i := 0) (by omega)
    dsimp only at hwa
    subst hwa
    have p0 : (0 : Int) ≤ (a : Int) := by omega
    have p1 : (a : Int) ≤ (z : Int) := by omega
    have p2 : (z : Int) ≤ (sc : Int) := by omega
    have HB3 := Lib.hid hb3; have HI3 := Lib.hid hi3; have HX5 := Lib.hid x5
    clear hb3 hi3 hLE x5
    have qqc := cell_blk xq
    have qqf := frz_blk xq
    have qSc := cell_blk xS
    have qSf := frz_blk xS
    have q4c := cell_blk x4
    have q4f := frz_blk x4
    go_wp2_with (fail)
    repeat (first | go_values | gi_guarded | gi_step | gi_upon | gi_in)
    refine round_region_ev [] [0, 1, 2, 3, 4, 5, 6, 7, 8, 9, 10] [] [] (by kernel_rfl) (by rintro ⟨a_, w_, h_⟩; exact h_) (by kernel_rfl) (by kernel_rfl) (by intro c a d v w h; cases d <;> exact h) ?_
    simp only [picks, List.drop_succ_cons, List.drop_zero]
    repeat (refine wpQ0_step (fun K hK => ?_); go_simp; (refine hK _ ?_; clear hK K))
    refine wpQ0_nil ?_
    repeat ((with_reducible refine wpQ2_step (fun K hK => ?_)); go_simp; first | ((with_reducible refine hK _ ?_); clear hK K) | (apply Exists.intro; refine ⟨fun x => ?_, hK _ ?_⟩; (fail); clear hK K))
    refine wpQ2_nil ?_
    refine Events.none_ fun w5 hg5 => ?_
    simp only [picks, List.drop_succ_cons, List.drop_zero]
    have hB5 := HB3.out.trans (Bd.ext hg5 (show w0.heap.size ≤ w3.heap.size by omega))
    have hi5 := HI.out _ _ _ HI3.out (Sd.ext hg5 (show W.heap.size ≤ w3.heap.size by omega))
    have x5 := Ext2.blk hg5 HX5.out
    obtain ⟨n, hn⟩ : ∃ n, n = z - a := ⟨_, rfl⟩
    have hn40 : n ≤ 40 := by omega
    have haz : a + n = z := by omega
    have HB5 := Lib.hid hB5; have HI5 := Lib.hid hi5; have HX6 := Lib.hid x5; have HAZ := Lib.hid haz
    clear qqc qqf qSc qSf q4c q4f xq xS x4 hB5 hi5 x5 hg5 HX5 HB3 HI3
    go_wp2_with (fail)
    repeat (first | go_values | gi_guarded | gi_step | gi_upon | gi_in)
    rw [← hn]
    clear hn
    gi_loopw [55] (fun p wr => ∃ (d : Nat), p = .int .i64 (d : Int) ∧ d ≤ n ∧ I (a + d) wr ∧ Bd w0.heap.size (76 :: ts) W1 wr ∧ wr.heap[b5]? = some (Obj.cells #[.int .i64 pg, .int .i64 ln, .int .i64 (leftN F R P k d)] 76)) (fun p _ => n - (intOf p).toNat)
    case atStart => exact ⟨0, rfl, by omega, by rw [Nat.add_zero, HA.out]; exact HI5.out, HB5.out, by rw [HX6.out, HD0.out, ← HL0.out]⟩
    case round =>
      obtain ⟨d, rfl, hdn, hi, hB, x5⟩ := hrel
      have hsr := hB.bel.size
      have hL := HL.out.bd hB hnl
      have HLr := Lib.hid hL; have HIr := Lib.hid hi; have HBr := Lib.hid hB
      have HYr := Lib.hid ((HBD.out.trans hB).keep yb _ xy fun c e f h => by cases h; exact hny)
      clear hL hi hB
      by_cases hlt : d < n
      · go_light
        obtain ⟨b', off', ha', c0, c1, c2, c3⟩ := word_cells HLr.out.2.words.row (i := a + d) (by omega)
        obtain ⟨rfl, rfl⟩ : wb = b' ∧ off = off' := by simpa using ha'
        rw [show off + (a + d) * 4 = off + a * 4 + d * 4 from by omega] at c0 c1 c2 c3
        have hi1 : brk F R P k + d < brk F R P (k + 1) := by have h1 := HA.out; have h2 := HZ.out; omega
        have hpl := plS_at HTX.out hk hi1
        rw [← HA.out] at hpl
        have hl0 := left_rng HK.out HRO.out HTX.out hk (d := d) (by have h1 := HA.out; omega)
        have hlS : leftN F R P k (d + 1) = leftN F R P k d + (wW F (strD P (a + d)) + F.space) := by rw [HA.out]; rfl
        obtain ⟨Lf, hLf⟩ : ∃ x, x = leftN F R P k d := ⟨_, rfl⟩
        have hwp : plS F R P (a + d) = ⟨pg, ln, Lf⟩ := by rw [hpl]; unfold plN; rw [← HPG.out, ← HLNN.out, ← hLf]
        rw [← hLf] at x5 hl0 hlS
        obtain ⟨p, hp⟩ : ∃ p, p = strD P (a + d) := ⟨_, rfl⟩
        have hWr := HTX.out.wide (a + d) (by omega)
        obtain ⟨ww, hww⟩ : ∃ x, x = wW F p := ⟨_, rfl⟩
        rw [← hp] at c0 c1 c2 c3 hWr hlS
        rw [← hww] at c3 hWr hlS
        have hsp := HK.out.space
        have hms := HRO.out.measure
        have hiy := HI.out _ _ _ HIr.out (Sd.alloc (ts := [76]) (Obj.cells #[.string p, .slice (gs (a + d)).a (gL F p).length (gs (a + d)).cap, .slice (ps (a + d)).a (gL F p).length (ps (a + d)).cap, .int .i64 ww] 90) (show W.heap.size ≤ wr.heap.size by omega))
        obtain ⟨fn, tmps, assign, body, hy, hR⟩ := HY.out (a + d) _ (by omega) hiy
        rw [hwp] at hy
        unfold wordV plV at hy
        rw [← hp, ← hww] at hy
        dsimp only at hy
        have HR : Hid (RoundIn (Fence.wide.inRound l') 0 Tryd.prog l fn tmps assign body _ _) := Lib.hid hR
        have r0 : (0 : Int) ≤ (d : Int) := by omega
        have r1 : (d : Int) < (n : Int) := by omega
        have w3' : IntKind.i64.wrap ((d : Int) + 1) = (d : Int) + 1 := IntWalk.i64_in _ (by omega)
        have s1 : IntKind.i64.wrap (ww + F.space) = ww + F.space := IntWalk.i64_in _ (by omega)
        have s2 : IntKind.i64.wrap (Lf + (ww + F.space)) = Lf + (ww + F.space) := IntWalk.i64_in _ (by omega)
        have HLS := Lib.hid hlS; have HX5r := Lib.hid x5
        have y2 := HYr.out
        have ly := blk_lt y2; have l5 := blk_lt x5
        have ny : ¬ yb = wr.heap.size := by omega
        have n5 : ¬ b5 = wr.heap.size := by omega
        clear ha' hp hww hR hpl hLf hwp hi1 hlS hWr
        have q2c := cell_blk y2
        have q2f := frz_blk y2
        have q5c := cell_blk x5
        have q5f := frz_blk x5
        have hxw : (wr.alloc (Obj.cells #[.string p, .slice (gs (a + d)).a (gL F p).length (gs (a + d)).cap, .slice (ps (a + d)).a (gL F p).length (ps (a + d)).cap, .int .i64 ww] 90)).heap[wr.heap.size]? = some (Obj.cells #[.string p, .slice (gs (a + d)).a (gL F p).length (gs (a + d)).cap, .slice (ps (a + d)).a (gL F p).length (ps (a + d)).cap, .int .i64 ww] 90 (0, 0)) := blk_new _ _
        have hba : Bd w0.heap.size (76 :: ts) wr (wr.alloc (Obj.cells #[.string p, .slice (gs (a + d)).a (gL F p).length (gs (a + d)).cap, .slice (ps (a + d)).a (gL F p).length (ps (a + d)).cap, .int .i64 ww] 90)) := Bd.ext (below_alloc' _ _) (by omega)
        have hxp := blk_alloc HX5r.out (Obj.cells #[.string p, .slice (gs (a + d)).a (gL F p).length (gs (a + d)).cap, .slice (ps (a + d)).a (gL F p).length (ps (a + d)).cap, .int .i64 ww] 90)
        have HXW := Lib.hid hxw; have HBA := Lib.hid hba; have HXP := Lib.hid hxp
        obtain ⟨wn, hwn⟩ : ∃ n, n = wr.heap.size := ⟨_, rfl⟩
        clear hxw hba hxp hiy
        gi_wp2
        refine ⟨rfl, RoundIn.mono HR.out ?_⟩
        rintro e W3 (⟨rfl, hB3, hI3⟩ | ⟨rfl, hkf, hX3⟩)
        · have h5 : W3.heap[b5]? = _ := hB3.keep b5 _ HXP.out fun c e f h => by cases h; exact HTS.out _ (by decide)
          have hw : W3.heap[wr.heap.size]? = _ := hB3.keep _ _ HXW.out fun c e f h => by cases h; exact HTS.out _ (by decide)
          have hB3' := HBA.out.trans (hB3.types fun t h => List.mem_cons_of_mem _ h)
          have hL3 := HLr.out.bd hB3' hnl
          have HB3 := Lib.hid (HBr.out.trans hB3'); have HI3 := Lib.hid hI3
          have xq := hL3.1; have xS := hL3.2.sh; have xs := hL3.2.set.blk
          rw [← hwn] at hw ⊢
          clear hB3 hB3' hL3 hI3 hwn q2c q2f q5c q5f x5 y2 hy ny n5
          have qqc := cell_blk xq
          have qqf := frz_blk xq
          have qSc := cell_blk xS
          have qSf := frz_blk xS
          have qsc := cell_blk xs
          have qsf := frz_blk xs
          have q5c := cell_blk h5
          have q5f := frz_blk h5
          have qwc := cell_blk hw
          have qwf := frz_blk hw
          gi_wp2
          refine round_region_ev [] [0, 1, 2, 3, 4, 5, 6, 7, 8, 9, 10, 11, 12, 13, 14] [] [15] (by kernel_rfl) (by rintro ⟨a_, w_, h_⟩; exact h_) (by kernel_rfl) (by kernel_rfl) (by intro c a d v w h; cases d <;> exact h) ?_
          simp only [picks, List.drop_succ_cons, List.drop_zero]
          repeat (refine wpQ0_step (fun K hK => ?_); go_simp; (refine hK _ ?_; clear hK K))
          refine wpQ0_nil ?_
          repeat ((with_reducible refine wpQ2_step (fun K hK => ?_)); go_simp; first | ((with_reducible refine hK _ ?_); clear hK K) | (apply Exists.intro; refine ⟨fun x => ?_, hK _ ?_⟩; (fail); clear hK K))
          refine wpQ2_nil ?_
          refine Events.none_ fun w6 hg6 => ?_
          simp only [picks, List.drop_succ_cons, List.drop_zero]
          have hs3 := HB3.out.bel.size
          have h5 := Ext2.blk hg6 h5
          have hB6 := HB3.out.trans (Bd.ext hg6 (show w0.heap.size ≤ W3.heap.size by omega))
          have hi6 := HI.out _ _ _ HI3.out (Sd.ext hg6 (show W.heap.size ≤ W3.heap.size by omega))
          have hb5 : W1.heap.size ≤ b5 := HS5.out
          have HB6 := Lib.hid (hB6.trans (Bd.set (o := 2) h5 (List.mem_cons_self) (show w0.heap.size ≤ b5 by omega) (.int .i64 (Lf + (ww + F.space)))))
          have HI6 := Lib.hid (HI.out _ _ _ hi6 (Sd.set (o := 2) h5 (List.mem_singleton.2 rfl) (show W.heap.size ≤ b5 by omega) (.int .i64 (Lf + (ww + F.space)))))
          have y5 := Eq.trans (blk_set h5 2 (.int .i64 (Lf + (ww + F.space)))) rfl
          have HY5 := Lib.hid y5
          clear qqc qqf qSc qSf qsc qsf q5c q5f qwc qwf xq xS xs hw hg6 hB6 hi6 y5
          have q5c := cell_blk h5
          have q5f := frz_blk h5
          go_wp2_with (fail)
          gi_wp2
          go_roundw
          case rel => exact ⟨d + 1, by go_num, by omega, HI6.out, HB6.out, by rw [HLS.out]; exact HY5.out⟩
          case measure => simp [intOf]; omega
        · have HX3 := Lib.hid hX3; have HKF := Lib.hid hkf
          clear hX3 hkf hy
          gi_wp2
          have hs3 := HBr.out.bel.size
          exact ⟨((HBr.out.others.from _).trans (HBA.out.others.from _)).trans (keepsFrom_mono HKF.out (by omega)), rfl, a + d, by omega, HX3.out⟩
      · obtain rfl : d = n := by omega
        have r8 : ¬ (d : Int) < (d : Int) := by omega
        have hend : I (brk F R P (k + 1)) wr := by rw [← HZ.out, ← HAZ.out]; exact HIr.out
        have HEND := Lib.hid hend
        clear hlt hend x5
        gi_wp2
        exact ⟨HBr.out, HEND.out, HBD.out.trans HBr.out⟩
  case done =>
    rintro d W1 hd ⟨hi, hbd⟩ hD
    subst ha0
    rw [hlo.2.1] at hi
    have HIN := Lib.hid hi; have HD := Lib.hid hD
    clear hi hbd hD
    go_wp2_with (fail)
    refine leaveM_take (by simp) HD.out ?_
    refine ⟨.tuple #[], ?_, ⟨_, rfl⟩, .inl (HI.out _ _ _ HIN.out (Sd.put HD.out rfl (by omega)))⟩
    simp [results, Tryd.results79, go_sem]
  case stop =>
    rintro d c k W1 hd hk ⟨rfl, i, hi, hx⟩ hD
    subst ha0
    have HIN := Lib.hid hx; have HD := Lib.hid hD
    clear hx hD
    go_wp2_with (fail)
    refine leaveM_take (by simp) HD.out ?_
    refine ⟨.tuple #[], ?_, ⟨_, rfl⟩, .inr ⟨i, hi, HXS.out _ _ _ HIN.out (Sd.put HD.out rfl (by omega))⟩⟩
    simp [results, Tryd.results79, go_sem]
end Go.Proofs.YtahgbecfaihfpaaDoor
namespace Go.Proofs.YtahgbecfaihfpaaDoor
open Go.RowKit D
set_option linter.unusedVariables false
set_option linter.unusedSimpArgs false
attribute [local go_sem high] run_minI run_maxI
attribute [local go_sem] upon2 cls_cell cls_frozen forall_const exists_eq_left'
attribute [local go_sem] FirstUpon Oper.semAt_some
def D.placeV (F : Font) (R : Rul) (t : ByteArray) (i : Int) : Pl × Int := if openE F R t ≠ 0 then (⟨0, 0, 0⟩, openE F R t) else if inB i 0 ((partsS t).length - 1) = false then (⟨0, 0, 0⟩, 4) else (plS F R (partsS t) i.toNat, 0)
def PlacePost (w : World) (v : Pl × Int) (e : Ending) (w' : World) : Prop := e = .returned (.tuple #[plV v.1, .int .i64 v.2]) ∧ Below w.heap.size w w'
/-- While the word is sought. -/
structure PcSt (w W : World) (i : Int) (n7 n8 n9 : Nat) (k : Nat) : Prop where
  bel : Below w.heap.size w W
  le : (k : Int) ≤ i
  x7 : W.heap[n7]? = some (.cells #[.int .i64 (i - k)] 3 (0, 0))
  x8 : W.heap[n8]? = some (.cells #[.int .i64 0, .int .i64 0, .int .i64 0] 76 (0, 0))
  x9 : W.heap[n9]? = some (.cells #[.int .i64 0] 27 (0, 0))
theorem PcSt.sd {w W W' : World} {i : Int} {n7 n8 n9 k B : Nat} {ts : List TypeId} (h : PcSt w W i n7 n8 n9 k) (hs : Sd B ts W W') (h0 : w.heap.size ≤ B) (h1 : n7 < B) (h2 : n8 < B) (h3 : n9 < B) : PcSt w W' i n7 n8 n9 k :=
  ⟨h.bel.trans (hs.bel.mono h0), h.le, (hs.bel.block _ h1).trans h.x7, (hs.bel.block _ h2).trans h.x8, (hs.bel.block _ h3).trans h.x9⟩
set_option maxRecDepth 100000 in
set_option maxHeartbeats 2000000 in
theorem place_any {F : Font} {s : FSl} {R : Rul} {t : ByteArray} {i : Int} {w : World} (hF : FontAt w F s) (hm : MaxAt w) (hi : IntKind.i64.wrap i = i) : Calls Tryd.prog 40 #[.agg #[.int .i64 F.high, .int .i64 F.space, .slice s.g.a F.glyphs.length s.g.cap, .slice s.k.a F.kerns.length s.k.cap], .agg #[.int .i64 R.measure, .int .i64 R.lines, .int .i64 R.lead, .int .i64 R.short, .int .i64 R.extra, .int .i64 R.ink], .string t, .int .i64 i] w (PlacePost w (placeV F R t i)) := by
  have HO : Hid (∀ W, Below w.heap.size w W → Calls Tryd.prog 54 #[.agg #[.int .i64 F.high, .int .i64 F.space, .slice s.g.a F.glyphs.length s.g.cap, .slice s.k.a F.kerns.length s.k.cap], .agg #[.int .i64 R.measure, .int .i64 R.lines, .int .i64 R.lead, .int .i64 R.short, .int .i64 R.extra, .int .i64 R.ink], .string t] W (OpenOut W F s R t)) := Lib.hid fun W hW => open_any (hF.below hW) (hm.below hW)
  obtain ⟨x, hx⟩ : ∃ x, x = openE F R t := ⟨_, rfl⟩
  obtain ⟨V, hV⟩ : ∃ V, V = placeV F R t i := ⟨_, rfl⟩
  rw [← hV]
  have HX := Lib.hid hx; have HV := Lib.hid hV
  have HFO := Lib.hid hF
  clear hF hm hx hV
  refine calls_of_wp_marks Tryd.func40 rfl ?_
  simp only [Tryd.ntmps40, List.size_toArray, List.length_cons, List.length_nil, Nat.reduceAdd, Nat.reduceSub, Array.replicate_succ, Array.replicate_zero, List.push_toArray, List.append_toArray, List.nil_append, List.cons_append]
  go_wp2_with (fail)
  refine calls_name ?_
  intro wo hwo
  have hB0 : Below w.heap.size w wo := by rw [hwo]; repeat' (first | exact Below.refl _ _ | assumption | refine below_drewN ?_ _ | refine Below.drew ?_ | refine Below.alloc ?_ (by first | assumption | omega | (simp <;> omega)) _ | refine Below.setCell ?_ (by first | assumption | omega | (simp <;> omega)) _ | refine Ext2.on (by assumption) ?_)
  have x7 : wo.heap[w.heap.size + 1 + 1]? = some (Obj.cells #[.int .i64 i] 3) := by rw [hwo]; repeat' (first | (with_reducible assumption) | (with_reducible refine blk_set_ne ?_ ?_) | (with_reducible exact blk_new _ _) | (with_reducible refine blk_new' _ _ (by first | (with_reducible rfl) | (simp; done) | (simp <;> omega))) | (with_reducible refine blk_alloc ?_ _) | (with_reducible refine blk_drew ?_) | (with_reducible refine blk_drewN ?_ _) | (with_reducible refine Ext2.blk (by assumption) ?_) | omega | (simp <;> omega) | exact blk_set (by assumption) _ _)
  have x8 : wo.heap[w.heap.size + 1 + 1 + 1]? = some (Obj.cells #[.int .i64 0, .int .i64 0, .int .i64 0] 76) := by rw [hwo]; repeat' (first | (with_reducible assumption) | (with_reducible refine blk_set_ne ?_ ?_) | (with_reducible exact blk_new _ _) | (with_reducible refine blk_new' _ _ (by first | (with_reducible rfl) | (simp; done) | (simp <;> omega))) | (with_reducible refine blk_alloc ?_ _) | (with_reducible refine blk_drew ?_) | (with_reducible refine blk_drewN ?_ _) | (with_reducible refine Ext2.blk (by assumption) ?_) | omega | (simp <;> omega) | exact blk_set (by assumption) _ _)
  have x9 : wo.heap[w.heap.size + 1 + 1 + 1 + 1]? = some (Obj.cells #[.int .i64 0] 27) := by rw [hwo]; repeat' (first | (with_reducible assumption) | (with_reducible refine blk_set_ne ?_ ?_) | (with_reducible exact blk_new _ _) | (with_reducible refine blk_new' _ _ (by first | (with_reducible rfl) | (simp; done) | (simp <;> omega))) | (with_reducible refine blk_alloc ?_ _) | (with_reducible refine blk_drew ?_) | (with_reducible refine blk_drewN ?_ _) | (with_reducible refine Ext2.blk (by assumption) ?_) | omega | (simp <;> omega) | exact blk_set (by assumption) _ _)
  have HB00 := Lib.hid hB0
  clear hwo
  (with_reducible refine (HO.out _ hB0).mono ?_)
  intro e w1 ho
  unfold OpenOut at ho
  rw [← HX.out] at ho
  obtain ⟨ho, hb1⟩ := ho
  have hE1 : Ext2 wo w1 := hb1
  have hB1 : Below w.heap.size w w1 := below_ext hB0 hE1
  have x7 := Ext2.blk hE1 x7; have x8 := Ext2.blk hE1 x8; have x9 := Ext2.blk hE1 x9
  obtain ⟨n7, hn7⟩ : ∃ n, n = w.heap.size + 1 + 1 := ⟨_, rfl⟩
  obtain ⟨n8, hn8⟩ : ∃ n, n = w.heap.size + 1 + 1 + 1 := ⟨_, rfl⟩
  obtain ⟨n9, hn9⟩ : ∃ n, n = w.heap.size + 1 + 1 + 1 + 1 := ⟨_, rfl⟩
  rw [← hn7] at x7; rw [← hn8] at x8; rw [← hn9] at x9
  have l7 : w.heap.size ≤ n7 := by omega
  have l78 : n7 < n8 := by omega
  have l89 : n8 < n9 := by omega
  have l9 := blk_lt x9
  try rw [← hn9]
  try rw [← hn8]
  try rw [← hn7]
  clear hb1 hn7 hn8 hn9 hE1 hB0
  by_cases h0 : x = 0
  case neg =>
    rw [if_neg h0] at ho
    subst ho
    have hv : V = (⟨0, 0, 0⟩, x) := by rw [HV.out]; unfold placeV; rw [← HX.out, if_pos h0]
    have HVV := Lib.hid hv; have HB1 := Lib.hid hB1
    clear h0 hB1 hv
    go_wp2_with (fail)
    have y9 := Eq.trans (blk_set x9 0 (.int .i64 x)) rfl
    have y8 := blk_set_ne (b' := n9) (o := 0) (v := .int .i64 x) x8 (by omega)
    have yc := cell_blk y9; have yd := cell_blk y8
    refine leaveM_panic x9 ?_
    refine ⟨.tuple #[.agg #[.int .i64 0, .int .i64 0, .int .i64 0], .int .i64 x], ?_, by rw [HVV.out]; rfl, below_set HB1.out (by omega)⟩
    simp [results, Tryd.results40, go_sem, yc, yd]
  case pos =>
    rw [if_pos h0] at ho
    obtain ⟨b, gm, km, SB, gs, ps, ws, rb, rfl, hop⟩ := ho
    subst h0
    obtain ⟨hk, hro, htx⟩ := open_ok HX.out.symm
    obtain ⟨P, hP⟩ : ∃ P, P = partsS t := ⟨_, rfl⟩
    rw [← hP] at hop htx
    have hv : V = if inB i 0 (P.length - 1) = false then (⟨0, 0, 0⟩, 4) else (plS F R P i.toNat, 0) := by rw [HV.out]; unfold placeV; rw [if_neg (not_not_intro HX.out.symm), ← hP]
    have h40 := htx.n40; have hn1 := htx.n1
    have HVS := Lib.hid hv
    have HOP := Lib.hid hop; have HB1 := Lib.hid hB1; have HK := Lib.hid hk; have HRO := Lib.hid hro; have HTX := Lib.hid htx
    have xS := hop.sh
    obtain ⟨bd, hbd⟩ : ∃ v, v = outB i 0 (P.length - 1) := ⟨_, rfl⟩
    have HBD : Hid (inB i 0 (P.length - 1) = !bd) := Lib.hid (by rw [hbd, outB_in, Bool.not_not])
    have HOB : Hid (∀ W, Calls Tryd.prog 55 #[.int .i64 i, .int .i64 0, .int .i64 ((P.length : Int) - 1)] W fun e w' => e = .returned (.bool bd) ∧ Below W.heap.size W w') := Lib.hid fun W => by rw [hbd]; exact out_b _ _ _ W
    have w1' : IntKind.i64.wrap ((P.length : Int) - 1) = (P.length : Int) - 1 := IntWalk.i64_in _ (by omega)
    clear hop hB1 hP hk hro htx hv hbd
    have qSc := cell_blk xS
    have qSf := frz_blk xS
    have q7c := cell_blk x7
    have q7f := frz_blk x7
    go_wp2_with (fail)
    refine region_evC [0, 1, 2, 3, 4, 5, 6, 7, 8] [9] (by kernel_rfl) (by kernel_rfl) ?_
    simp only [picks, List.drop_succ_cons, List.drop_zero]
    repeat ((with_reducible refine wpQ2_step (fun K hK => ?_)); go_simp; first | ((with_reducible refine hK _ ?_); clear hK K) | (apply Exists.intro; refine ⟨fun x => ?_, hK _ ?_⟩; ((with_reducible exact HOB.out x.1)); clear hK K))
    refine wpQ2_nil ?_
    intro w2 hE2
    have hB2 := below_ext HB1.out hE2
    have x7 := Ext2.blk hE2 x7; have x8 := Ext2.blk hE2 x8; have x9 := Ext2.blk hE2 x9
    have HOP2 := Lib.hid ((HOP.out.below hE2).at_ HFO.out HB00.out)
    have HB2 := Lib.hid hB2
    have hs12 := hE2.size
    clear qSc qSf q7c q7f xS hE2 hB2 HOP
    cases bd with
    | true =>
      have hv : V = (⟨0, 0, 0⟩, 4) := by rw [HVS.out, HBD.out]; rfl
      have HVV := Lib.hid hv
      clear hv
      simp only [Bool.not_true]
      go_wp2_with (fail)
      (with_reducible refine (must_no _ _).mono ?_)
      rintro e w3 ⟨rfl, rfl⟩
      go_wp2_with (fail)
      have y9 := Eq.trans (blk_set x9 0 (.int .i64 4)) rfl
      have y8 := blk_set_ne (b' := n9) (o := 0) (v := .int .i64 4) x8 (by omega)
      have yc := cell_blk y9; have yd := cell_blk y8
      refine leaveM_panic x9 ?_
      refine ⟨.tuple #[.agg #[.int .i64 0, .int .i64 0, .int .i64 0], .int .i64 4], ?_, by rw [HVV.out]; rfl, below_set HB2.out (by omega)⟩
      simp [results, Tryd.results40, go_sem, yc, yd]
    | false =>
      have hrg : 0 ≤ i ∧ i ≤ P.length - 1 := by have := HBD.out; unfold inB at this; simpa using this
      obtain ⟨j, rfl⟩ : ∃ j : Nat, i = (j : Int) := ⟨i.toNat, by omega⟩
      have hv : V = (plS F R P j, 0) := by rw [HVS.out, HBD.out]; rfl
      have HVV := Lib.hid hv
      have hjP : j < P.length := by omega
      clear hv hi hrg
      simp only [Bool.not_false]
      go_wp2_with (fail)
      (with_reducible refine (must_ok _ _).mono ?_)
      rintro e w3 ⟨rfl, rfl⟩
      go_wp2_with (fail)
      refine (placesF_any _ _).mono ?_
      rintro e w3 ⟨rfl, h3⟩
      have hE3 : Ext2 w2 w3 := by rw [h3]; exact below_alloc' _ _
      obtain ⟨lb, hlb⟩ : ∃ n, n = w2.heap.size := ⟨_, rfl⟩
      have xl : w3.heap[lb]? = some (.cells #[.pointer (some ⟨SB, 0, none⟩)] 96 (0, 0)) := by rw [h3, hlb]; exact blk_new _ _
      have x7 := Ext2.blk hE3 x7; have x8 := Ext2.blk hE3 x8; have x9 := Ext2.blk hE3 x9
      have HB3 := Lib.hid (below_ext HB2.out hE3)
      have HOP3 := Lib.hid (HOP2.out.below hE3)
      have l93 := blk_lt x9
      rw [← hlb]
      clear h3 hE3 hlb HOP2 HB2 l9
      go_wp2_with (fail)
      refine wp_aname ?_
      intro a0 ha0
      refine ss_out (gf := 79) (lb := #[.pointer (some ⟨lb, 0, none⟩)]) (by rw [ha0]; rfl) (enters_of Tryd.func79 (by kernel_rfl) rfl) (placesIter (lb := lb) (w0 := w) (s := s) (b := b) (gm := gm) (km := km) (SB := SB) (gs := gs) (ps := ps) (ws := ws) (rb := rb) HK.out HRO.out HTX.out) (ts := [3]) (by decide) (fun _ => rfl)
        (fun k W => PcSt w W j n7 n8 n9 k)
        (fun k a' W => (∃ b12, W.heap[b12]? = some (.cells #[.int .i64 (plS F R P k).page, .int .i64 (plS F R P k).line, .int .i64 (plS F R P k).left] 76 (0, 0)) ∧ n9 < b12 ∧ a' = { tmps := ((a0.tmps.setIfInBounds 29 (wordV F P gs ps k)).setIfInBounds 30 (plV (plS F R P k))).setIfInBounds 12 (.pointer (some ⟨b12, 0, none⟩)), defers := [] }) ∧ PcSt w W j n7 n8 n9 k)
        (fun c _ W => c = .ret ∧ Below w.heap.size w W ∧ W.heap[n8]? = some (.cells #[.int .i64 (plS F R P j).page, .int .i64 (plS F R P j).line, .int .i64 (plS F R P j).left] 76 (0, 0)) ∧ W.heap[n9]? = some (.cells #[.int .i64 0] 27 (0, 0)))
        ?hI ?hJ ?hX HB3.out.size ?hp0 ?h0 ?assign ?body ?done ?stop
      case hI => exact fun k W W' h hs => h.sd hs (by omega) (by omega) (by omega) (by omega)
      case hJ =>
        rintro k a' W W' ⟨⟨b12, h1, h2, h3⟩, h4⟩ hs
        exact ⟨⟨b12, hs.keep _ _ _ _ h1 (by simp), h2, h3⟩, h4.sd hs (by omega) (by omega) (by omega) (by omega)⟩
      case hX =>
        rintro c k W W' ⟨rfl, h1, h2, h3⟩ hs
        exact ⟨rfl, h1.trans (hs.bel.mono (by omega)), (hs.bel.block _ (by omega)).trans h2, (hs.bel.block _ (by omega)).trans h3⟩
      case hp0 => exact fun W hW => ⟨Ext2.blk hW xl, (HOP3.out.below hW).toI⟩
      case h0 => exact ⟨HB3.out, by omega, by rw [x7]; simp, x8, x9⟩
      case assign =>
        rintro l k W hk hi
        subst ha0
        have hsz := hi.bel.size
        have h9 := blk_lt hi.x9
        simp only [plV]
        gi_wp2
        have hE : Ext2 W (W.alloc (Obj.cells #[.int .i64 (plS F R P k).page, .int .i64 (plS F R P k).line, .int .i64 (plS F R P k).left] 76)) := below_alloc' _ _
        exact ⟨Bd.ext hE hsz, ⟨W.heap.size, blk_new _ _, h9, rfl⟩, ⟨below_ext hi.bel hE, hi.le, Ext2.blk hE hi.x7, Ext2.blk hE hi.x8, Ext2.blk hE hi.x9⟩⟩
      case body =>
        rintro l k a' W hl hr hk ⟨⟨b12, x12, l12, rfl⟩, hS⟩
        subst ha0
        simp only [List.setIfInBounds_toArray, List.set_cons_succ, List.set_cons_zero]
        obtain ⟨hB, hle, x7, x8, x9⟩ := hS
        have HB := Lib.hid hB
        have hsz := hB.size
        clear hB
        have q7c := cell_blk x7
        have q7f := frz_blk x7
        rcases Nat.lt_or_ge k j with hlt | hge
        · have hne : ¬ (j : Int) - (k : Int) = 0 := by omega
          have w4 : IntKind.i64.wrap ((j : Int) - (k : Int) - 1) = (j : Int) - (k : Int) - 1 := IntWalk.i64_in _ (by omega)
          gi_wp2
          refine ⟨Bd.set x7 (by decide) l7 _, ⟨below_set HB.out l7, by omega, ?_, blk_set_ne x8 (by omega), blk_set_ne x9 (by omega)⟩⟩
          refine Eq.trans (blk_set x7 _ _) ?_
          rw [show (j : Int) - (k : Int) - 1 = (j : Int) - ((k + 1 : Nat) : Int) by omega]; rfl
        · obtain rfl : k = j := by omega
          have hne : (k : Int) - (k : Int) = 0 := by omega
          have n812 : ¬ n8 = b12 := by omega
          have q8c := cell_blk x8
          have q8f := frz_blk x8
          have q9c := cell_blk x9
          have q9f := frz_blk x9
          have q12c := cell_blk x12
          have q12f := frz_blk x12
          gi_wp2
          refine ⟨((((KeepsOthers.setCell _ _ _).trans (KeepsOthers.setCell _ _ _)).trans (KeepsOthers.setCell _ _ _)).trans (KeepsOthers.setCell _ _ _)).from _, rfl, below_set (below_set (below_set (below_set HB.out (by omega)) (by omega)) (by omega)) (by omega), ?_, ?_⟩
          · exact blk_set_ne (Eq.trans (blk_set (blk_set (blk_set x8 _ _) _ _) _ _) rfl) (by omega)
          · exact Eq.trans (blk_set (blk_set_ne (blk_set_ne (blk_set_ne x9 (by omega)) (by omega)) (by omega)) _ _) rfl
      case done =>
        rintro d W hd hi hD
        have := hi.le; omega
      case stop =>
        rintro d c k W hd hk ⟨rfl, h1, h2, h3⟩ hD
        subst ha0
        have HD := Lib.hid hD
        clear hD
        go_wp2_with (fail)
        refine leaveM_take (by simp) HD.out ?_
        refine leaveM_done ?_
        have z8 := blk_put (d := d) (o := .deferred none) h2 (by omega)
        have z9 := blk_put (d := d) (o := .deferred none) h3 (by omega)
        have zc := cell_blk z8; have zd := cell_blk z9
        refine ⟨.tuple #[plV (plS F R P j), .int .i64 0], ?_, by rw [HVV.out], below_put h1 (by omega)⟩
        simp [results, Tryd.results40, go_sem, zc, zd, plV]
end Go.Proofs.YtahgbecfaihfpaaDoor
