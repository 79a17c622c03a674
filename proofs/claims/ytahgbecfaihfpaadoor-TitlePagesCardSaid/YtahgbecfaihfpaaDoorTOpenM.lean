/-
  Slices that 'make' lays: program independent.
  title.open.
-/
import Derived.Test.YtahgbecfaihfpaaDoorDMem
import Derived.OwnWalk
import Derived.Test.YtahgbecfaihfpaaDoorTLineM
namespace Go.Proofs.YtahgbecfaihfpaaDoor
open Go.RowKit D
set_option linter.unusedVariables false
theorem run_mk {P : Program} {t e : TypeId} {z : Value} {sz bytes : Nat} (E : Elem P t e z sz bytes) (W : World) (n : Nat) (hn : n ≤ 1000000000) :
    (Instr.makeSlice t (.int .i64 (n : Int)) (.int .i64 (n : Int))).run P W = .ok (.slice (some ⟨W.heap.size, 0, none⟩) n n) (W.alloc (.cells (madeCells z.cells (n * sz)) e)) := by
  obtain ⟨i0, hi, hz0, hz1, hz2⟩ := info_parts E.info
  have hb : i0.bytes * n ≤ 281474976710656 := by
    have h1 := E.by_
    rw [hz2]
    calc bytes * n ≤ 1000 * 1000000000 := Nat.mul_le_mul h1 hn
      _ ≤ 281474976710656 := by omega
  have hb' : (i0.bytes : Int) * (n : Int) ≤ 281474976710656 := by
    have h : ((i0.bytes * n : Nat) : Int) ≤ 281474976710656 := by omega
    rwa [Int.natCast_mul] at h
  have hr := run_make (P := P) W t e i0 z E.und hi hz0 .i64 .i64 n n (by omega) (Int.le_refl _) hb' (by omega)
  simp only [Int.toNat_natCast] at hr
  rw [hr, hz1]
theorem wpList_mk {P : Program} {t e : TypeId} {z : Value} {sz bytes : Nat} (E : Elem P t e z sz bytes) {w : World} {ops : Array Oper} {rest : List Oper} {o : Oper} {a : Act} {Q : Exit → Act → World → Prop}
    (hg : o.guard = none) (l : Operand) (hop : o.op = Op.makeSlice t l l) (n : Nat) (hl : a.eval l = .int .i64 (n : Int)) (hn : n ≤ 1000000000)
    (hK : wpList P ops Q rest (a.put o.dst (.slice (some ⟨w.heap.size, 0, none⟩) n n)) (w.alloc (.cells (madeCells z.cells (n * sz)) e))) :
    wpList P ops Q (o :: rest) a w := by
  refine wpList_plain hg fun K hK' => ?_
  have hrun := run_mk E w n hn
  unfold Oper.wp
  simp [execOp, hop, hl, hrun, Result.andThen]
  exact hK' _ _ hK
theorem exec_mk {P : Program} {t e : TypeId} {z : Value} {sz bytes : Nat} (E : Elem P t e z sz bytes) {o : Oper} {ρ : Operand → Value} {l : Operand} (hop : o.op = Op.makeSlice t l l) (n : Nat) (hl : ρ l = .int .i64 (n : Int)) (hn : n ≤ 1000000000) (W : World) :
    (execOp ρ o).run P W = .ok (.value (.slice (some ⟨W.heap.size, 0, none⟩) n n)) (W.alloc (.cells (madeCells z.cells (n * sz)) e)) := by
  have h := run_mk E W n hn
  simp [execOp, hop, hl, h, Result.andThen]
theorem made_at (z : Array Value) (n k : Nat) (h : k < n) : (madeCells z n).toList[k]? = some (z[k % z.size]!) := by
  simp [madeCells, h]
theorem own_made {w : World} {base e sz n g : Nat} {z : Array Value} (hz : z.size = sz) (h0 : 0 < sz) (hn : n ≤ maxLen) (hb : base ≤ g) (hg : w.heap[g]? = some (.cells (madeCells z (n * sz)) e (0, 0))) :
    OwnR w base e sz (.slice (some ⟨g, 0, none⟩) n n) n (fun _ j => z[j]!) := by
  refine ⟨cellsOf_len _ _ _, .inr ⟨g, n, _, rfl, hb, hg, Nat.le_refl _, hn, size_madeCells _ _, ?_⟩⟩
  rw [List.take_of_length_le (by rw [Array.length_toList, size_madeCells]; exact Nat.le_refl _)]
  apply List.ext_getElem?
  intro k
  by_cases hk : k < n * sz
  · have e1 : k = (k / sz) * sz + k % sz := by rw [Nat.mul_comm]; exact (Nat.div_add_mod k sz).symm
    have e2 : k / sz < n := Nat.div_lt_of_lt_mul (by rw [Nat.mul_comm]; exact hk)
    have a1 := cellsOf_at (c := fun _ j => z[j]!) e2 (Nat.mod_lt k h0)
    rw [← e1] at a1
    rw [made_at _ _ _ hk, a1, hz]
  · rw [List.getElem?_eq_none (by rw [Array.length_toList, size_madeCells]; omega), List.getElem?_eq_none (by rw [cellsOf_len]; omega)]
/-- Three cells of an element are stored. -/
theorem OwnR.set3 {w : World} {base g cap : Nat} {e : TypeId} {n i : Nat} {c : Nat → Nat → Value} (h : OwnR w base e 3 (.slice (some ⟨g, 0, none⟩) n cap) n c) (hi : i < n) (u0 u1 u2 : Value) :
    OwnR (((w.setCell ⟨g, i * 3, none⟩ u0).setCell ⟨g, i * 3 + 1, none⟩ u1).setCell ⟨g, i * 3 + 2, none⟩ u2) base e 3 (.slice (some ⟨g, 0, none⟩) n cap) n (fun i' j' => if i' = i then #[u0, u1, u2][j']! else c i' j') := by
  have h1 := ((h.set (j := 0) hi (by omega) u0).set (i := i) (j := 1) hi (by omega) u1).set (i := i) (j := 2) hi (by omega) u2
  refine OwnR.congr h1 fun i' j' _ hj => ?_
  by_cases hii : i' = i
  · subst hii
    rcases (by omega : j' = 0 ∨ j' = 1 ∨ j' = 2) with rfl | rfl | rfl <;> simp
  · simp [hii]
theorem OwnR.row {w : World} {base g cap : Nat} {e : TypeId} {sz n : Nat} {c : Nat → Nat → Value} (h : OwnR w base e sz (.slice (some ⟨g, 0, none⟩) n cap) n c) : RowC w g 0 sz n c ∧ (∀ o, w.frozen? ⟨g, o, none⟩ = false) ∧ (∃ cur, w.heap[g]? = some (.cells cur e (0, 0))) ∧ base ≤ g ∧ n ≤ cap ∧ cap ≤ 9223372036854775807 := by
  rcases h.forms with ⟨h1, _⟩ | ⟨g', cap', h1, h2, h3, h4, h5, h6, h7⟩
  · cases h1
  · obtain ⟨rfl, rfl⟩ : g = g' ∧ cap = cap' := by simpa using h1
    exact ⟨h5, h6, h7, h2, h3, h4⟩
end Go.Proofs.YtahgbecfaihfpaaDoor
namespace Go.Proofs.YtahgbecfaihfpaaDoor
open Go.RowKit D
set_option linter.unusedVariables false
set_option linter.unusedSimpArgs false
attribute [local go_sem high] run_minI run_maxI
attribute [local go_sem] upon2 cls_cell cls_frozen forall_const exists_eq_left'
attribute [local go_sem] FirstUpon
def D.openE (F : Font) (R : Rul) (t : ByteArray) : Int := if checkRul F R ≠ 0 then checkRul F R else wordsE F R t
def rstC (T : Nat → Rst) (i j : Nat) : Value :=
  match j with
  | 0 => .int .i64 (T i).cost
  | 1 => .int .i64 (T i).lines
  | _ => .int .i64 (T i).end_
/-- A sheet that is ready; w0: where its making began. -/
structure Opened (w0 w : World) (F : Font) (s : FSl) (R : Rul) (P : List ByteArray) (b gm km SB : Nat) (gs ps : Nat → Sl) (ws : Sl) (rb : Nat) : Prop where
  font : FontAt w0 F s
  bel : Below w0.heap.size w0 w
  set : SetAt w F s R b gm km
  sh : w.heap[SB]? = some (.cells #[.pointer (some ⟨b, 0, none⟩), .slice ws.a P.length ws.cap, .slice (some ⟨rb, 0, none⟩) (P.length + 1) (P.length + 1)] 102 (0, 0))
  words : WordsAt w F P gs ps ws
  rest : RowS w ⟨some ⟨rb, 0, none⟩, P.length + 1⟩ 3 (P.length + 1) (rstC (restS F R P))
  rty : TyS w ⟨some ⟨rb, 0, none⟩, P.length + 1⟩ 113
theorem Opened.below {w0 w w' : World} {F : Font} {s : FSl} {R : Rul} {P : List ByteArray} {b gm km SB : Nat} {gs ps : Nat → Sl} {ws : Sl} {rb : Nat} (h : Opened w0 w F s R P b gm km SB gs ps ws rb) (hb : Below w.heap.size w w') : Opened w0 w' F s R P b gm km SB gs ps ws rb := ⟨h.font, below_ext h.bel hb, h.set.below hb, Ext2.blk hb h.sh, h.words.below hb, RowS.below h.rest hb, h.rty.below hb⟩
theorem Opened.sheet {w0 w : World} {F : Font} {s : FSl} {R : Rul} {P : List ByteArray} {b gm km SB : Nat} {gs ps : Nat → Sl} {ws : Sl} {rb : Nat} (h : Opened w0 w F s R P b gm km SB gs ps ws rb) : SheetAt w F s R b gm km SB P gs ps ws (.slice (some ⟨rb, 0, none⟩) (P.length + 1) (P.length + 1)) := ⟨h.set, h.sh, h.words.wrow⟩
theorem elRest : Elem Tryd.prog 100 113 (.agg #[.int .i64 0, .int .i64 0, .int .i64 0]) 3 24 := ⟨by kernel_rfl, by kernel_rfl, rfl, by omega, by omega⟩
theorem GlyAt.set {w : World} {F : Font} {P : List ByteArray} {gs ps : Nat → Sl} {k : Nat} {e : TypeId} (h : GlyAt w F P gs ps k) {g o : Nat} {c : Array Value} {f : Nat × Nat} {v : Value} (hg : w.heap[g]? = some (.cells c e f)) (he : 3 ≠ e) : GlyAt (w.setCell ⟨g, o, none⟩ v) F P gs ps k :=
  fun i hi => ⟨(h i hi).1.set hg he, (h i hi).2.set hg he⟩
theorem WordsAt.set {w : World} {F : Font} {P : List ByteArray} {gs ps : Nat → Sl} {s : Sl} {e : TypeId} (h : WordsAt w F P gs ps s) {g o : Nat} {c : Array Value} {f : Nat × Nat} {v : Value} (hg : w.heap[g]? = some (.cells c e f)) (h1 : 3 ≠ e) (h2 : 90 ≠ e) : WordsAt (w.setCell ⟨g, o, none⟩ v) F P gs ps s :=
  ⟨RowS.set_ty h.row h.ty hg h2, h.gly.set hg h1, h.ty.set hg h2⟩
/-- A sheet whose rest is being filled. -/
structure OSt (w1 W : World) (F : Font) (s : FSl) (R : Rul) (P : List ByteArray) (b gm km SB : Nat) (gs ps : Nat → Sl) (ws : Sl) (rb : Nat) (T : Nat → Rst) : Prop where
  set1 : SetAt w1 F s R b gm km
  bel : Below w1.heap.size w1 W
  n1 : b < SB
  n2 : SB < rb
  n3 : w1.heap.size ≤ SB
  blk : W.heap[SB]? = some (.cells #[.pointer (some ⟨b, 0, none⟩), .slice ws.a P.length ws.cap, .slice (some ⟨rb, 0, none⟩) (P.length + 1) (P.length + 1)] 102 (0, 0))
  words : WordsAt W F P gs ps ws
  own : OwnR W rb 113 3 (.slice (some ⟨rb, 0, none⟩) (P.length + 1) (P.length + 1)) (P.length + 1) (rstC T)
section
variable {w1 W W' : World} {F : Font} {s : FSl} {R : Rul} {P : List ByteArray} {b gm km SB : Nat} {gs ps : Nat → Sl} {ws : Sl} {rb : Nat} {T : Nat → Rst}
theorem OSt.ext (h : OSt w1 W F s R P b gm km SB gs ps ws rb T) (hb : Below W.heap.size W W') : OSt w1 W' F s R P b gm km SB gs ps ws rb T :=
  ⟨h.set1, below_ext h.bel hb, h.n1, h.n2, h.n3, Ext2.blk hb h.blk, h.words.below hb, h.own.below hb⟩
theorem OSt.sheet (h : OSt w1 W F s R P b gm km SB gs ps ws rb T) : SheetAt W F s R b gm km SB P gs ps ws (.slice (some ⟨rb, 0, none⟩) (P.length + 1) (P.length + 1)) := ⟨h.set1.below h.bel, h.blk, h.words.wrow⟩
theorem OSt.congr {T' : Nat → Rst} (h : OSt w1 W F s R P b gm km SB gs ps ws rb T) (hT : ∀ i, i ≤ P.length → T i = T' i) : OSt w1 W F s R P b gm km SB gs ps ws rb T' :=
  ⟨h.set1, h.bel, h.n1, h.n2, h.n3, h.blk, h.words, h.own.congr fun i j hi _ => by unfold rstC; rw [hT i (by omega)]⟩
theorem OSt.set3 (h : OSt w1 W F s R P b gm km SB gs ps ws rb T) {j : Nat} (hj : j ≤ P.length) (c l e : Int) :
    OSt w1 (((W.setCell ⟨rb, j * 3, none⟩ (.int .i64 c)).setCell ⟨rb, j * 3 + 1, none⟩ (.int .i64 l)).setCell ⟨rb, j * 3 + 2, none⟩ (.int .i64 e)) F s R P b gm km SB gs ps ws rb (fun x => if x = j then ⟨c, l, e⟩ else T x) := by
  obtain ⟨-, -, ⟨cur, hc⟩, -⟩ := h.own.row
  have hl : w1.heap.size ≤ rb := by have := h.n2; have := h.n3; omega
  have hc1 := blk_set hc (j * 3) (.int .i64 c)
  have hc2 := blk_set hc1 (j * 3 + 1) (.int .i64 l)
  refine ⟨h.set1, below_set (below_set (below_set h.bel hl) hl) hl, h.n1, h.n2, h.n3, ?_, ?_, ?_⟩
  · have hne : SB ≠ rb := by have := h.n2; omega
    rw [set_oth _ _ hne, set_oth _ _ hne, set_oth _ _ hne]; exact h.blk
  · exact ((h.words.set hc (by decide) (by decide)).set hc1 (by decide) (by decide)).set hc2 (by decide) (by decide)
  · refine OwnR.congr (h.own.set3 (i := j) (by omega) _ _ _) fun i j' _ hj' => ?_
    by_cases hij : i = j
    · subst hij
      unfold rstC
      rcases (by omega : j' = 0 ∨ j' = 1 ∨ j' = 2) with rfl | rfl | rfl <;> simp
    · simp [rstC, hij]
theorem OSt.cells (h : OSt w1 W F s R P b gm km SB gs ps ws rb T) {i : Nat} (hi : i ≤ P.length) :
    W.cell? ⟨rb, i * 3, none⟩ = some (.int .i64 (T i).cost) ∧ W.cell? ⟨rb, i * 3 + 1, none⟩ = some (.int .i64 (T i).lines) ∧ W.cell? ⟨rb, i * 3 + 2, none⟩ = some (.int .i64 (T i).end_) := by
  have h1 := h.own.row.1.three (i := i) (by omega)
  simpa [Nat.zero_add, rstC] using h1
end
def OpenOut (w : World) (F : Font) (s : FSl) (R : Rul) (t : ByteArray) (e : Ending) (w' : World) : Prop :=
  (if openE F R t = 0 then ∃ b gm km SB gs ps ws rb, e = .returned (.pointer (some ⟨SB, 0, none⟩)) ∧ Opened w w' F s R (partsS t) b gm km SB gs ps ws rb else e = .panicked [{ v := .iface 27 (.int .i64 (openE F R t)), recovered := false }]) ∧ Below w.heap.size w w'
theorem openOut_no {w w' : World} {F : Font} {s : FSl} {R : Rul} {t : ByteArray} {x : Int} (h : openE F R t = x) (h0 : x ≠ 0) (hb : Below w.heap.size w w') : OpenOut w F s R t (.panicked [{ v := .iface 27 (.int .i64 (x)), recovered := false }]) w' := by
  refine ⟨?_, hb⟩
  rw [if_neg (by rw [h]; exact h0), h]
set_option maxRecDepth 100000 in
set_option maxHeartbeats 2000000 in
theorem open_any {F : Font} {s : FSl} {R : Rul} {t : ByteArray} {w : World} (hF : FontAt w F s) (hm : MaxAt w) : Calls Tryd.prog 54 #[.agg #[.int .i64 F.high, .int .i64 F.space, .slice s.g.a F.glyphs.length s.g.cap, .slice s.k.a F.kerns.length s.k.cap], .agg #[.int .i64 R.measure, .int .i64 R.lines, .int .i64 R.lead, .int .i64 R.short, .int .i64 R.extra, .int .i64 R.ink], .string t] w (OpenOut w F s R t) := by
  have HR : Hid (∀ W, Below w.heap.size w W → Calls Tryd.prog 66 #[.agg #[.int .i64 F.high, .int .i64 F.space, .slice s.g.a F.glyphs.length s.g.cap, .slice s.k.a F.kerns.length s.k.cap], .agg #[.int .i64 R.measure, .int .i64 R.lines, .int .i64 R.lead, .int .i64 R.short, .int .i64 R.extra, .int .i64 R.ink]] W (RuleOut W F s R)) := Lib.hid fun W hW => rule_any (hF.below hW)
  have HM := Lib.hid hm
  obtain ⟨x, hx⟩ : ∃ x, x = checkRul F R := ⟨_, rfl⟩
  have HX := Lib.hid hx
  have HF0 := Lib.hid hF
  clear hF hx hm
  go_enter Tryd.func54, Tryd.ntmps54
  go_wp2_with (fail)
  (with_reducible refine (HR.out _ ?_).mono ?_)
  · repeat' (first | exact Below.refl _ _ | assumption | refine below_drewN ?_ _ | refine Below.drew ?_ | refine Below.alloc ?_ (by first | assumption | omega | (simp <;> omega)) _ | refine Below.setCell ?_ (by first | assumption | omega | (simp <;> omega)) _ | refine Ext2.on (by assumption) ?_)
  intro e w1 hr
  unfold RuleOut at hr
  rw [← HX.out] at hr
  by_cases h0 : x = 0
  case neg =>
    rw [if_neg h0] at hr
    obtain ⟨rfl, hb1⟩ := hr
    have hB1 : Below w.heap.size w w1 := Below.trans (by repeat' (first | exact Below.refl _ _ | assumption | refine below_drewN ?_ _ | refine Below.drew ?_ | refine Below.alloc ?_ (by first | assumption | omega | (simp <;> omega)) _ | refine Below.setCell ?_ (by first | assumption | omega | (simp <;> omega)) _ | refine Ext2.on (by assumption) ?_)) (hb1.mono (by simp; omega))
    have hoe : openE F R t = x := by unfold openE; rw [← HX.out, if_pos h0]
    have HOE := Lib.hid hoe; have H0 := Lib.hid h0
    clear hb1 hoe h0
    go_wp2_with (fail)
    exact ⟨rfl, openOut_no HOE.out H0.out hB1⟩
  case pos =>
    rw [if_pos h0] at hr
    obtain ⟨⟨b, gm, km, rfl, hbl, hs⟩, hb1⟩ := hr
    have hB1 : Below w.heap.size w w1 := Below.trans (by repeat' (first | exact Below.refl _ _ | assumption | refine below_drewN ?_ _ | refine Below.drew ?_ | refine Below.alloc ?_ (by first | assumption | omega | (simp <;> omega)) _ | refine Below.setCell ?_ (by first | assumption | omega | (simp <;> omega)) _ | refine Ext2.on (by assumption) ?_)) (hb1.mono (by simp; omega))
    obtain ⟨hk, hro⟩ := rul_ok (F := F) (R := R) (by rw [← HX.out, h0])
    have hoe : openE F R t = wordsE F R t := by unfold openE; rw [← HX.out, h0]; rfl
    have HOE := Lib.hid hoe; have HS := Lib.hid hs; have HK := Lib.hid hk; have HRO := Lib.hid hro
    clear hb1 hoe h0 hs hk hro hbl
    go_wp2_with (fail)
    refine calls_name ?_
    intro w2 h2
    have hE2 : Ext2 w1 w2 := by rw [h2]; repeat' (first | exact Below.refl _ _ | assumption | refine below_drewN ?_ _ | refine Below.drew ?_ | refine Below.alloc ?_ (by first | assumption | omega | (simp <;> omega)) _ | refine Below.setCell ?_ (by first | assumption | omega | (simp <;> omega)) _ | refine Ext2.on (by assumption) ?_)
    obtain ⟨SB, hSB⟩ : ∃ n, n = w1.heap.size := ⟨_, rfl⟩
    have xS : w2.heap[SB]? = some (Obj.cells #[.pointer (some ⟨b, 0, none⟩), .slice none 0 0, .slice none 0 0] 102) := by rw [h2, hSB]; exact blk_new _ _
    rw [← hSB]
    have hB2 := below_ext hB1 hE2
    have hS2 := HS.out.below hE2
    have hbS : b < SB := by rw [hSB]; exact blk_lt HS.out.blk
    have lS : w.heap.size ≤ SB := by rw [hSB]; exact hB1.size
    have HW := Lib.hid (words_any (t := t) hS2 HK.out HRO.out (HM.out.below hB2))
    have HS2 := Lib.hid hS2
    have HLB : Hid (w1.heap.size ≤ SB) := Lib.hid (Nat.le_of_eq hSB.symm)
    have HE2 : Hid (Below w1.heap.size w1 w2) := Lib.hid hE2
    have HB1 := Lib.hid hB1
    clear h2 hE2 hSB hB1 hS2
    (with_reducible refine HW.out.mono ?_)
    intro e w3 hw3
    unfold WordsOut at hw3
    obtain ⟨hw3, hb3⟩ := hw3
    have hE3 : Ext2 w2 w3 := hb3
    have hB3 := below_ext hB2 hE3
    have xS := Ext2.blk hE3 xS
    have HS3 := Lib.hid (HS2.out.below hE3)
    obtain ⟨E, hE⟩ : ∃ E, E = wordsE F R t := ⟨_, rfl⟩
    rw [← hE] at hw3
    have HE := Lib.hid hE
    have HBL := Lib.hid (below_ext HE2.out hE3)
    clear hb3 hE3 hE hB2 HS2 HW
    by_cases hE0 : E = 0
    case neg =>
      rw [if_neg hE0] at hw3
      subst hw3
      have HE0 := Lib.hid hE0
      have hoe : openE F R t = E := by rw [HOE.out, HE.out]
      have HO2 := Lib.hid hoe
      clear hE0 hoe
      go_wp2_with (fail)
      exact ⟨rfl, openOut_no HO2.out HE0.out hB3⟩
    case pos =>
      rw [if_pos hE0] at hw3
      obtain ⟨ws, gs, ps, rfl, hwa⟩ := hw3
      have htx := text_ok (R := R) (t := t) HK.out (by rw [← HE.out, hE0])
      obtain ⟨P, hP⟩ : ∃ P, P = partsS t := ⟨_, rfl⟩
      rw [← hP] at hwa htx ⊢
      have h40 := htx.n40; have hn1 := htx.n1
      have HTX := Lib.hid htx; have HWA := Lib.hid hwa; have HP := Lib.hid hP
      have hoe : openE F R t = 0 := by rw [HOE.out, ← HE.out, hE0]
      have HO2 := Lib.hid hoe
      clear hoe hP hwa htx hE0 HE HOE
      have qSc := cell_blk xS
      have qSf := frz_blk xS
      have wl : IntKind.i64.wrap ((P.length : Int) + 1) = (P.length : Int) + 1 := IntWalk.i64_in _ (by omega)
      have wm : IntKind.i64.wrap ((P.length : Int) - 1) = (P.length : Int) - 1 := IntWalk.i64_in _ (by omega)
      have lSB := blk_lt xS
      have nSB : ¬ SB = w3.heap.size := by omega
      have HB3 : Hid (Below w1.heap.size w1 w3) := Lib.hid HBL.out
      have HLS : Hid (w1.heap.size ≤ SB) := Lib.hid HLB.out
      go_wp2_with (at_make; refine wpList_mk elRest rfl _ rfl (P.length + 1) rfl (by omega) ?_)
      refine wp_name ?_
      intro w4 h4
      obtain ⟨rb, hrb⟩ : ∃ n, n = w3.heap.size := ⟨_, rfl⟩
      have hty1 : (3 : TypeId) ≠ 102 := by decide
      have hty2 : (90 : TypeId) ≠ 102 := by decide
      have hOS : OSt w1 w4 F s R P b gm km SB gs ps ws rb (rT F R P 0) := by
        refine ⟨HS.out, ?_, hbS, by omega, HLS.out, ?_, ?_, ?_⟩
        · rw [h4]; exact below_ext (below_set (below_set HB3.out HLS.out) HLS.out) (below_alloc' _ _)
        · rw [h4, hrb]; exact blk_alloc (Eq.trans (blk_set (blk_set xS _ _) _ _) rfl) _
        · rw [h4]; exact ((HWA.out.set xS hty1 hty2).set (blk_set xS _ _) hty1 hty2).below (below_alloc' _ _)
        · refine OwnR.congr (own_made (z := #[.int .i64 0, .int .i64 0, .int .i64 0]) rfl (by omega) (by unfold maxLen; omega) (Nat.le_refl _) (by rw [h4, hrb]; exact blk_new' _ _ (by simp))) fun i j _ hj => ?_
          rcases (by omega : j = 0 ∨ j = 1 ∨ j = 2) with rfl | rfl | rfl <;> rfl
      rw [← hrb]
      have HOS := Lib.hid hOS
      have n2 := hOS.n2
      clear h4 hOS hrb qSc qSf xS hty1 hty2 lSB nSB hB3
      go_loopw [8] (fun p wr => ∃ (i : Int) (k : Nat), p = .int .i64 i ∧ i = (k : Int) - 1 ∧ k ≤ P.length ∧ OSt w1 wr F s R P b gm km SB gs ps ws rb (rT F R P (P.length - k))) (fun p _ => (intOf p + 1).toNat)
      case atStart => exact ⟨_, P.length, rfl, rfl, Nat.le_refl _, by rw [Nat.sub_self]; exact HOS.out⟩
      case round =>
        obtain ⟨i, k, rfl, hi, hk, hO⟩ := hrel
        have HO := Lib.hid hO
        clear hO
        cases k with
        | zero =>
          obtain rfl : i = -1 := by simpa using hi
          clear hi
          have hfin : OpenOut w F s R t (.returned (.pointer (some ⟨SB, 0, none⟩))) wr := by
            refine ⟨?_, below_ext HB1.out HO.out.bel⟩
            rw [if_pos HO2.out, ← HP.out]
            obtain ⟨h1, -, -, -, h2, h3⟩ := HO.out.own.row
            exact ⟨b, gm, km, SB, gs, ps, ws, rb, rfl, HF0.out, below_ext HB1.out HO.out.bel, HO.out.sheet.set, HO.out.blk, HO.out.words, h1.sl h2 h3, own_ty HO.out.own⟩
          have HFIN := Lib.hid hfin
          clear hfin
          go_wp2_with (fail)
          go_ret
          exact HFIN.out
        | succ j =>
          obtain rfl : i = (j : Int) := by omega
          go_light
          obtain ⟨T, hT⟩ : ∃ T, T = rT F R P (P.length - (j + 1)) := ⟨_, rfl⟩
          rw [← hT] at HO
          have hTz : T j = ⟨0, 0, 0⟩ := by rw [hT]; exact rT_zero F R P _ _ (by omega) (by omega)
          have hTr : ∀ q, j < q → q ≤ P.length → T q = restS F R P q := fun q h1 h2 => by rw [hT]; exact rT_rest F R P (by omega) (by omega)
          have HT := Lib.hid hT; have HTR := Lib.hid hTr
          have hO0 : OSt w1 wr F s R P b gm km SB gs ps ws rb (fun x => if x = j then innS F R P T j 0 else T x) := HO.out.congr fun i _ => by
            by_cases hij : i = j
            · subst hij; simp [hTz, innS]
            · simp [hij]
          have HO0 := Lib.hid hO0
          have w3' : IntKind.i64.wrap ((j : Int) + 1) = (j : Int) + 1 := IntWalk.i64_in _ (by omega)
          have w4' : IntKind.i64.wrap ((j : Int) - 1) = (j : Int) - 1 := IntWalk.i64_in _ (by omega)
          have p0 : (0 : Int) ≤ (j : Int) := by omega
          clear hT hTz hTr HO hO0 hi
          go_wp2_with (fail)
          go_loopw [9] (fun p wr => ∃ (e : Int) (c : Nat), p = .int .i64 e ∧ e = ((j + 1 + c : Nat) : Int) ∧ j + c ≤ P.length ∧ (∀ x, x < c → wideL F P j (j + x + 1) ≤ R.measure) ∧ OSt w1 wr F s R P b gm km SB gs ps ws rb (fun x => if x = j then innS F R P T j c else T x)) (fun p _ => P.length + 1 - (intOf p).toNat)
          case atStart => exact ⟨_, 0, rfl, by omega, by omega, fun x hx => absurd hx (Nat.not_lt_zero x), HO0.out⟩
          case round =>
            obtain ⟨e, c, rfl, he, hc, hfit, hO⟩ := hrel
            have HO := Lib.hid hO; have HFIT := Lib.hid hfit
            have HLR : ∀ T' : Nat → Rst, Hid (c = kmax F R P j) → Hid ((fun x => if x = j then innS F R P T j c else T x) = rT F R P (P.length - j)) := fun _ hck => Lib.hid (by
              rw [show P.length - j = P.length - (j + 1) + 1 from by omega, rT]
              have e1 : P.length - (P.length - (j + 1) + 1) = j := by omega
              rw [e1, hck.out, ← HT.out])
            obtain ⟨q, hq⟩ : ∃ q, q = j + 1 + c := ⟨_, rfl⟩
            rw [← hq] at he
            have hjq : j < q := by omega
            have hqc : q = j + c + 1 := by omega
            have HQ := Lib.hid hqc
            have HCN := Lib.hid hc
            subst he
            clear hO hfit hq hqc hc
            by_cases hlt : q ≤ P.length
            · have HLN := Lib.hid (line_any (a := j) (z := q) HO.out.sheet HK.out HRO.out HTX.out hjq hlt)
              obtain ⟨W, hW⟩ : ∃ W, W = wideL F P j q := ⟨_, rfl⟩
              obtain ⟨C, hC⟩ : ∃ C, C = costL F R P j q := ⟨_, rfl⟩
              rw [← hW, ← hC] at HLN
              have HW := Lib.hid hW; have HC := Lib.hid hC
              have hdq : decide ((q : Int) ≤ (P.length : Int)) = true := decide_eq_true (by omega)
              have hlq : (q : Int) ≤ (P.length : Int) := by omega
              have xB := HO.out.blk
              clear hW hC
              have qBc := cell_blk xB
              have qBf := frz_blk xB
              go_wp2_with (fail)
              (with_reducible refine HLN.out.mono ?_)
              rintro e w5 ⟨rfl, hb5⟩
              have HO5 := Lib.hid (HO.out.ext hb5)
              clear hb5 qBc qBf xB
              go_wp2_with (fail)
              refine wp_name ?_
              intro w6 h6
              obtain ⟨n10, hn10⟩ : ∃ n, n = w5.heap.size := ⟨_, rfl⟩
              have hE6 : Ext2 w5 w6 := by rw [h6]; repeat' (first | exact Below.refl _ _ | assumption | refine below_drewN ?_ _ | refine Below.drew ?_ | refine Below.alloc ?_ (by first | assumption | omega | (simp <;> omega)) _ | refine Below.setCell ?_ (by first | assumption | omega | (simp <;> omega)) _ | refine Ext2.on (by assumption) ?_)
              have x10 : w6.heap[n10]? = some (Obj.cells #[.int .i64 (j : Int), .int .i64 (q : Int), .int .i64 W, .int .i64 C] 71) := by rw [h6, hn10]; exact blk_new' _ _ (by simp)
              have HO6 := Lib.hid (HO5.out.ext hE6)
              rw [← hn10]
              have xB := HO6.out.blk
              have xs := HO6.out.sheet.set.blk
              clear h6 hE6 hn10
              have qBc := cell_blk xB
              have qBf := frz_blk xB
              have qsc := cell_blk xs
              have qsf := frz_blk xs
              have q10c := cell_blk x10
              have q10f := frz_blk x10
              by_cases hfw : W ≤ R.measure
              · have hd1 : decide (R.measure < W) = false := decide_eq_false (by omega)
                have hn1' : ¬ R.measure < W := by omega
                refine region_ev [] [0, 1, 2, 3, 4, 5, 6, 7, 8, 9, 10] [] [] (by kernel_rfl) (by kernel_rfl) (by intro c a d v w h; cases d <;> exact h) ?_
                simp only [picks, List.drop_succ_cons, List.drop_zero]
                repeat (refine wpQ0_step (fun K hK => ?_); go_simp; (refine hK _ ?_; clear hK K))
                refine wpQ0_nil ?_
                repeat ((with_reducible refine wpQ2_step (fun K hK => ?_)); go_simp; first | ((with_reducible refine hK _ ?_); clear hK K) | (apply Exists.intro; refine ⟨fun x => ?_, hK _ ?_⟩; (fail); clear hK K))
                refine wpQ2_nil ?_
                refine Events.none_ fun w7 hg7 => ?_
                simp only [picks, List.drop_succ_cons, List.drop_zero]
                have HO7 := Lib.hid (HO6.out.ext hg7)
                have x10 := Ext2.blk hg7 x10
                clear q10c q10f qBc qBf qsc qsf xB xs hg7
                have xB := HO7.out.blk
                obtain ⟨c0, c1, c2⟩ := HO7.out.cells (i := q) hlt
                obtain ⟨-, hrf, ⟨cur, hcur⟩, -⟩ := HO7.out.own.row
                have hqj : (if q = j then innS F R P T j c else T q) = T q := if_neg (by omega)
                rw [hqj] at c0 c1 c2
                have hrr := rest_rng HK.out HRO.out HTX.out (i := q) hlt
                have hcr := costL_rng HK.out HRO.out HTX.out (a := j) (z := q) hjq hlt
                rw [← HTR.out q hjq hlt] at hrr
                rw [← HC.out] at hcr
                obtain ⟨tc, htc⟩ : ∃ x, x = (T q).cost := ⟨_, rfl⟩
                obtain ⟨tl, htl⟩ : ∃ x, x = (T q).lines := ⟨_, rfl⟩
                obtain ⟨te, hte⟩ : ∃ x, x = (T q).end_ := ⟨_, rfl⟩
                rw [← htc] at c0 hrr; rw [← htl] at c1 hrr; rw [← hte] at c2
                obtain ⟨y0, hy0⟩ : ∃ x, x = C + tc := ⟨_, rfl⟩
                obtain ⟨y1, hy1⟩ : ∃ x, x = 1 + tl := ⟨_, rfl⟩
                have s1 : IntKind.i64.wrap (C + tc) = y0 := Eq.trans (IntWalk.i64_in _ (by omega)) hy0.symm
                have s2 : IntKind.i64.wrap (1 + tl) = y1 := Eq.trans (IntWalk.i64_in _ (by omega)) hy1.symm
                have hcand : candR F R P T j q = ⟨y0, y1, (q : Int)⟩ := by unfold candR; rw [← HC.out, ← htc, ← htl, hy0, hy1]
                have HCA := Lib.hid hcand
                have t0 : (0 : Int) ≤ (q : Int) := by omega
                have t1 : (q : Int) < (P.length : Int) + 1 := by omega
                clear hqj hrr hcr htc htl hte hy0 hy1 hcand hcur
                have l10 := blk_lt x10
                have n10' : ¬ n10 = w7.heap.size := by omega
                have qBc := cell_blk xB
                have qBf := frz_blk xB
                have q10c := cell_blk x10
                have q10f := frz_blk x10
                go_wp2_with (fail)
                refine wp_name ?_
                intro w8 h8
                obtain ⟨n11, hn11⟩ : ∃ n, n = w7.heap.size := ⟨_, rfl⟩
                have hE8 : Ext2 w7 w8 := by rw [h8]; repeat' (first | exact Below.refl _ _ | assumption | refine below_drewN ?_ _ | refine Below.drew ?_ | refine Below.alloc ?_ (by first | assumption | omega | (simp <;> omega)) _ | refine Below.setCell ?_ (by first | assumption | omega | (simp <;> omega)) _ | refine Ext2.on (by assumption) ?_)
                have x11 : w8.heap[n11]? = some (Obj.cells #[.int .i64 y0, .int .i64 y1, .int .i64 (q : Int)] 113) := by rw [h8, hn11]; exact blk_new' _ _ rfl
                rw [← hn11]
                have HO8 := Lib.hid (HO7.out.ext hE8)
                have xB := HO8.out.blk
                obtain ⟨r, hr⟩ : ∃ r, r = innS F R P T j c := ⟨_, rfl⟩
                have HRI := Lib.hid hr
                obtain ⟨d0, d1, d2⟩ := HO8.out.cells (i := j) (by omega)
                rw [if_pos rfl, ← hr] at d0 d1 d2
                have HLE : Hid (∀ W, Calls Tryd.prog 77 #[.agg #[.int .i64 r.cost, .int .i64 r.lines, .int .i64 r.end_], .agg #[.int .i64 y0, .int .i64 y1, .int .i64 (q : Int)]] W fun e w' => e = .returned (.bool (lessS r ⟨y0, y1, q⟩)) ∧ Below W.heap.size W w') := Lib.hid fun W => less_any r ⟨y0, y1, q⟩ W
                obtain ⟨lv, hlv⟩ : ∃ v, v = lessS r ⟨y0, y1, q⟩ := ⟨_, rfl⟩
                rw [← hlv] at HLE
                have HLV := Lib.hid hlv
                obtain ⟨z, hz⟩ : ∃ z, z = decide (c = 0) := ⟨_, rfl⟩
                have HZ := Lib.hid hz
                have hzq : decide ((q : Int) = (j : Int) + 1) = z := by rw [hz]; have := HQ.out; congr 1; apply propext; constructor <;> intro <;> omega
                have hnew : innS F R P T j (c + 1) = if z = true ∨ lv = false then ⟨y0, y1, (q : Int)⟩ else r := by
                  rw [innS, ← hr, show j + c + 1 = q from by have := HQ.out; omega, HCA.out, ← hlv]
                  have : (z = true ∨ lv = false) = (c = 0 ∨ lv = false) := by rw [hz]; simp
                  simp only [this]
                have HNEW := Lib.hid hnew
                have t2 : (j : Int) < (P.length : Int) + 1 := by omega
                have wq : IntKind.i64.wrap ((q : Int) + 1) = (q : Int) + 1 := IntWalk.i64_in _ (by omega)
                clear h8 hE8 hn11 hr hlv hz hnew HO7 x10 q10c q10f qBc qBf c0 c1 c2 hrf s1 s2 l10 n10' t0 t1
                have qBc := cell_blk xB
                have qBf := frz_blk xB
                have q11c := cell_blk x11
                have q11f := frz_blk x11
                cases z with
                | true =>
                  have hqt : ((q : Int) = (j : Int) + 1) = True := eq_true (of_decide_eq_true hzq)
                  refine region_st [⟨[], [0, 1, 2, 3, 4, 5, 6, 7, 8, 9, 10, 11, 12, 13, 14, 15], []⟩] (by kernel_rfl) (by kernel_rfl) (by intro c a d v w h; cases d <;> exact h) ?_
                  refine wpSt_cons ?_
                  simp only [picks, List.drop_succ_cons, List.drop_zero]
                  repeat ((with_reducible refine wpQ0_step (fun K hK => ?_)); go_simp; ((with_reducible refine hK _ ?_); clear hK K))
                  refine wpQ0_nil ?_
                  repeat ((with_reducible refine wpQ2_step (fun K hK => ?_)); go_simp; first | ((with_reducible refine hK _ ?_); clear hK K) | (apply Exists.intro; refine ⟨fun x => ?_, hK _ ?_⟩; (fail); clear hK K))
                  refine wpQ2_nil ?_
                  intro w9 hw9
                  refine wpTl_nil ?_
                  refine wpSt_nil ?_
                  have HO9 := Lib.hid (HO8.out.ext hw9)
                  have x11 := Ext2.blk hw9 x11
                  clear q11c q11f qBc qBf d0 d1 d2 xB hw9
                  have xB := HO9.out.blk
                  have qBc := cell_blk xB
                  have qBf := frz_blk xB
                  have q11c := cell_blk x11
                  have q11f := frz_blk x11
                  go_wp2_with (fail)
                  refine region_ev [] [0, 1, 2, 3, 4, 5, 6] [] [7] (by kernel_rfl) (by kernel_rfl) (by intro c a d v w h; cases d <;> exact h) ?_
                  simp only [picks, List.drop_succ_cons, List.drop_zero]
                  repeat (refine wpQ0_step (fun K hK => ?_); go_simp; (refine hK _ ?_; clear hK K))
                  refine wpQ0_nil ?_
                  repeat ((with_reducible refine wpQ2_step (fun K hK => ?_)); go_simp; first | ((with_reducible refine hK _ ?_); clear hK K) | (apply Exists.intro; refine ⟨fun x => ?_, hK _ ?_⟩; (fail); clear hK K))
                  refine wpQ2_nil ?_
                  refine Events.none_ fun wa hga => ?_
                  simp only [picks, List.drop_succ_cons, List.drop_zero]
                  have HOa := Lib.hid (HO9.out.ext hga)
                  obtain ⟨d0, d1, d2⟩ := HOa.out.cells (i := j) (by omega)
                  obtain ⟨-, hrf, -⟩ := HOa.out.own.row
                  rw [if_pos rfl, ← HRI.out] at d0 d1 d2
                  clear q11c q11f qBc qBf xB x11 hga
                  go_wp2_with (fail)
                  refine ⟨⟨_, c + 1, rfl, by have := HQ.out; omega, by have := HQ.out; omega, fun x hx => ?_, (HOa.out.set3 (j := j) (by omega) y0 y1 q).congr fun i _ => by
                    by_cases hij : i = j
                    · rw [if_pos hij, if_pos hij, HNEW.out]; simp
                    · rw [if_neg hij, if_neg hij, if_neg hij]⟩, by simp [intOf]; omega⟩
                  rcases Nat.lt_or_ge x c with hxc | hxc
                  · exact HFIT.out x hxc
                  · obtain rfl : x = c := by omega
                    rw [← HQ.out, ← HW.out]; exact hfw
                | false =>
                  have hqn : ¬ ((q : Int) = (j : Int) + 1) := of_decide_eq_false hzq
                  have hzb : ((q : Int) == (j : Int) + 1) = false := beq_eq_false_iff_ne.2 hqn
                  refine region_st [⟨[], [0, 1, 2, 3, 4, 5, 6, 7, 8, 9, 10, 11, 12, 13, 14, 15], []⟩] (by kernel_rfl) (by kernel_rfl) (by intro c a d v w h; cases d <;> exact h) ?_
                  refine wpSt_cons ?_
                  simp only [picks, List.drop_succ_cons, List.drop_zero]
                  repeat ((with_reducible refine wpQ0_step (fun K hK => ?_)); go_simp; ((with_reducible refine hK _ ?_); clear hK K))
                  refine wpQ0_nil ?_
                  repeat ((with_reducible refine wpQ2_step (fun K hK => ?_)); go_simp; first | ((with_reducible refine hK _ ?_); clear hK K) | (apply Exists.intro; refine ⟨fun x => ?_, hK _ ?_⟩; ((with_reducible exact HLE.out x.1)); clear hK K))
                  refine wpQ2_nil ?_
                  intro w9 hw9
                  refine wpTl_nil ?_
                  refine wpSt_nil ?_
                  cases lv with
                  | false =>
                    simp only [hzb, Bool.false_or, Bool.not_false]
                    have HO9 := Lib.hid (HO8.out.ext hw9)
                    have x11 := Ext2.blk hw9 x11
                    clear q11c q11f qBc qBf d0 d1 d2 xB hw9
                    have xB := HO9.out.blk
                    have qBc := cell_blk xB
                    have qBf := frz_blk xB
                    have q11c := cell_blk x11
                    have q11f := frz_blk x11
                    go_wp2_with (fail)
                    refine region_ev [] [0, 1, 2, 3, 4, 5, 6] [] [7] (by kernel_rfl) (by kernel_rfl) (by intro c a d v w h; cases d <;> exact h) ?_
                    simp only [picks, List.drop_succ_cons, List.drop_zero]
                    repeat (refine wpQ0_step (fun K hK => ?_); go_simp; (refine hK _ ?_; clear hK K))
                    refine wpQ0_nil ?_
                    repeat ((with_reducible refine wpQ2_step (fun K hK => ?_)); go_simp; first | ((with_reducible refine hK _ ?_); clear hK K) | (apply Exists.intro; refine ⟨fun x => ?_, hK _ ?_⟩; (fail); clear hK K))
                    refine wpQ2_nil ?_
                    refine Events.none_ fun wa hga => ?_
                    simp only [picks, List.drop_succ_cons, List.drop_zero]
                    have HOa := Lib.hid (HO9.out.ext hga)
                    obtain ⟨d0, d1, d2⟩ := HOa.out.cells (i := j) (by omega)
                    obtain ⟨-, hrf, -⟩ := HOa.out.own.row
                    rw [if_pos rfl, ← HRI.out] at d0 d1 d2
                    clear q11c q11f qBc qBf xB x11 hga
                    go_wp2_with (fail)
                    refine ⟨⟨_, c + 1, rfl, by have := HQ.out; omega, by have := HQ.out; omega, fun x hx => ?_, (HOa.out.set3 (j := j) (by omega) y0 y1 q).congr fun i _ => by
                      by_cases hij : i = j
                      · rw [if_pos hij, if_pos hij, HNEW.out]; simp
                      · rw [if_neg hij, if_neg hij, if_neg hij]⟩, by simp [intOf]; omega⟩
                    rcases Nat.lt_or_ge x c with hxc | hxc
                    · exact HFIT.out x hxc
                    · obtain rfl : x = c := by omega
                      rw [← HQ.out, ← HW.out]; exact hfw
                  | true =>
                    simp only [hzb, Bool.false_or, Bool.not_true]
                    have HO9 := Lib.hid (HO8.out.ext hw9)
                    clear q11c q11f qBc qBf d0 d1 d2 xB hw9 x11
                    go_wp2_with (fail)
                    refine ⟨⟨_, c + 1, rfl, by have := HQ.out; omega, by have := HQ.out; omega, fun x hx => ?_, HO9.out.congr fun i _ => by
                      by_cases hij : i = j
                      · rw [if_pos hij, if_pos hij, HNEW.out, HRI.out]; simp
                      · rw [if_neg hij, if_neg hij]⟩, by simp [intOf]; omega⟩
                    rcases Nat.lt_or_ge x c with hxc | hxc
                    · exact HFIT.out x hxc
                    · obtain rfl : x = c := by omega
                      rw [← HQ.out, ← HW.out]; exact hfw
              · have hd1 : decide (R.measure < W) = true := decide_eq_true (by omega)
                have hn1' : R.measure < W := by omega
                refine region_ev [] [0, 1, 2, 3, 4, 5, 6, 7, 8, 9, 10] [] [] (by kernel_rfl) (by kernel_rfl) (by intro c a d v w h; cases d <;> exact h) ?_
                simp only [picks, List.drop_succ_cons, List.drop_zero]
                repeat (refine wpQ0_step (fun K hK => ?_); go_simp; (refine hK _ ?_; clear hK K))
                refine wpQ0_nil ?_
                repeat ((with_reducible refine wpQ2_step (fun K hK => ?_)); go_simp; first | ((with_reducible refine hK _ ?_); clear hK K) | (apply Exists.intro; refine ⟨fun x => ?_, hK _ ?_⟩; (fail); clear hK K))
                refine wpQ2_nil ?_
                refine Events.none_ fun w7 hg7 => ?_
                simp only [picks, List.drop_succ_cons, List.drop_zero]
                have HO7 := Lib.hid (HO6.out.ext hg7)
                have hck : c = kmax F R P j := by
                  have h1 := HQ.out; have h2 := HCN.out
                  unfold kmax
                  refine (firstN_at (fun x hx => decide_eq_false (by have := HFIT.out x hx; omega)) (decide_eq_true ?_) (by omega)).symm
                  rw [← h1, ← HW.out]; exact hn1'
                have HR := HLR T (Lib.hid hck)
                rw [HR.out] at HO7
                clear hck HLR
                go_wp2_with (fail)
                exact ⟨⟨_, j, rfl, rfl, by omega, HO7.out⟩, by simp [intOf]⟩
            · have hdq : decide ((q : Int) ≤ (P.length : Int)) = false := decide_eq_false (by omega)
              have hlq : ¬ (q : Int) ≤ (P.length : Int) := by omega
              have xB := HO.out.blk
              have qBc := cell_blk xB
              have qBf := frz_blk xB
              have hck : c = kmax F R P j := by
                have h1 := HQ.out; have h2 := HCN.out
                have hc' : c = P.length - j := by omega
                unfold kmax
                rw [firstN_none, hc']
                intro x hx
                exact decide_eq_false (by have := HFIT.out x (by omega); omega)
              have HR := HLR T (Lib.hid hck)
              rw [HR.out] at HO
              clear hck HLR
              go_wp2_with (fail)
              exact ⟨⟨_, j, rfl, rfl, by omega, HO.out⟩, by simp [intOf]⟩
end Go.Proofs.YtahgbecfaihfpaaDoor
