/-
  Lines, plain; a sheet in memory.
  title.line, title.less.
  title.less.
  The best breaks, plain.
-/
import Derived.Test.YtahgbecfaihfpaaDoorTWordsM
namespace Go.Proofs.YtahgbecfaihfpaaDoor.D
structure Ln where
  from_ : Int
  until_ : Int
  wide : Int
  cost : Int
  deriving DecidableEq, Inhabited
/-- The width of n words from one on. -/
def sumW (F : Font) (P : List ByteArray) (from_ : Nat) : Nat → Int
  | 0 => -F.space
  | n + 1 => sumW F P from_ n + (F.space + wW F (strD P (from_ + n)))
def wideL (F : Font) (P : List ByteArray) (a z : Nat) : Int := sumW F P a (z - a)
def costL (F : Font) (R : Rul) (P : List ByteArray) (a z : Nat) : Int :=
  if z = P.length then 0
  else (R.measure - wideL F P a z) * (R.measure - wideL F P a z) + (if ((strD P (z - 1)).size : Int) ≤ R.short then R.extra else 0)
def lineS (F : Font) (R : Rul) (P : List ByteArray) (a z : Nat) : Ln := ⟨a, z, wideL F P a z, costL F R P a z⟩
/-- What is known of the words of a text that is accepted. -/
structure TextOk (F : Font) (R : Rul) (P : List ByteArray) : Prop where
  n1 : 1 ≤ P.length
  n40 : P.length ≤ 40
  size : ∀ i, i < P.length → (strD P i).size ≤ 24
  odd : ∀ i, i < P.length → oddS (strD P i) = false
  set : ∀ i, i < P.length → (setS F (strD P i).data.toList).isSome
  wide : ∀ i, i < P.length → 0 ≤ wW F (strD P i) ∧ wW F (strD P i) ≤ R.measure
theorem gL_mem {F : Font} {p : ByteArray} : ∀ x ∈ gL F p, x < F.glyphs.length := by
  unfold gL
  cases h : setS F p.data.toList with
  | none => intro x hx; cases hx
  | some l => exact setS_mem F _ _ (Nat.le_refl _) l h
theorem wW_pos {F : Font} (hk : FontOk F) (p : ByteArray) : 0 ≤ wW F p := (widS_rng hk gL_mem _ (Nat.le_refl _)).1
end Go.Proofs.YtahgbecfaihfpaaDoor.D
namespace Go.Proofs.YtahgbecfaihfpaaDoor
open Go.RowKit D
theorem anyF_false' {p : Nat → Bool} {n : Nat} (h : anyF p n = false) (i : Nat) (hi : i < n) : p i = false := anyF_false h.symm i hi
theorem text_ok {F : Font} {R : Rul} {t : ByteArray} (hk : FontOk F) (h : wordsE F R t = 0) : TextOk F R (partsS t) := by
  unfold wordsE at h
  split at h
  · omega
  · split at h
    · omega
    · rename_i h2
      split at h
      · omega
      · rename_i h3
        split at h
        · omega
        · rename_i h4
          have hb : ∀ i, i < (partsS t).length → badW F R (partsS t) i = false := by
            split at h
            · rename_i h5
              have h6 := (firstN_spec (p := badW F R (partsS t)) (n := (partsS t).length)).2 h5
              exact absurd h (of_decide_eq_true h6)
            · rename_i h5
              intro i hi
              exact (firstN_spec (p := badW F R (partsS t)) (n := (partsS t).length)).1 i (by omega)
          refine ⟨by rw [parts_len]; omega, by omega, fun i hi => ?_, fun i hi => ?_, fun i hi => ?_, fun i hi => ⟨wW_pos hk _, ?_⟩⟩
          · have := anyF_false' (by simpa using h4) i hi
            simpa using this
          · exact anyF_false' (p := fun i => oddS (strD (partsS t) i)) (by simpa using h2) i hi
          · have := of_decide_eq_false (hb i hi)
            unfold wordErr at this
            cases hs : setS F (strD (partsS t) i).data.toList with
            | none => rw [hs] at this; simp at this
            | some l => rfl
          · have := of_decide_eq_false (hb i hi)
            unfold wordErr at this
            cases hs : setS F (strD (partsS t) i).data.toList with
            | none => rw [hs] at this; simp at this
            | some l =>
              rw [hs] at this
              by_cases hw : R.measure < wW F (strD (partsS t) i)
              · simp [hw] at this
              · omega
theorem sumW_rng {F : Font} {R : Rul} {P : List ByteArray} (hk : FontOk F) (hr : RulOk F R) (h : TextOk F R P) (a : Nat) : ∀ n, a + n ≤ P.length → -20 ≤ sumW F P a n ∧ sumW F P a n ≤ 68 * (n : Int)
  | 0, _ => by have := hk.space; simp only [sumW]; omega
  | n + 1, hn => by
    have ih := sumW_rng hk hr h a n (by omega)
    have h1 := h.wide (a + n) (by omega)
    have h2 := hk.space
    have h3 := hr.measure
    rw [sumW]; omega
/-- The words of a text without what their glyphs are. -/
structure WRow (w : World) (F : Font) (P : List ByteArray) (gs ps : Nat → Sl) (s : Sl) : Prop where
  row : RowS w s 4 P.length (wordC F P gs ps)
  ty : TyS w s 90
theorem WordsAt.wrow {w : World} {F : Font} {P : List ByteArray} {gs ps : Nat → Sl} {s : Sl} (h : WordsAt w F P gs ps s) : WRow w F P gs ps s := ⟨h.row, h.ty⟩
theorem WRow.below {w w' : World} {F : Font} {P : List ByteArray} {gs ps : Nat → Sl} {s : Sl} (h : WRow w F P gs ps s) (hb : Below w.heap.size w w') : WRow w' F P gs ps s := ⟨RowS.below h.row hb, h.ty.below hb⟩
/-- A sheet in block B. -/
structure SheetAt (w : World) (F : Font) (s : FSl) (R : Rul) (b gm km B : Nat) (P : List ByteArray) (gs ps : Nat → Sl) (ws : Sl) (rv : Value) : Prop where
  set : SetAt w F s R b gm km
  blk : w.heap[B]? = some (.cells #[.pointer (some ⟨b, 0, none⟩), .slice ws.a P.length ws.cap, rv] 102 (0, 0))
  words : WRow w F P gs ps ws
theorem WordsAt.below {w w' : World} {F : Font} {P : List ByteArray} {gs ps : Nat → Sl} {s : Sl} (h : WordsAt w F P gs ps s) (hb : Below w.heap.size w w') : WordsAt w' F P gs ps s := ⟨RowS.below h.row hb, h.gly.below hb, h.ty.below hb⟩
theorem SheetAt.below {w w' : World} {F : Font} {s : FSl} {R : Rul} {b gm km B : Nat} {P : List ByteArray} {gs ps : Nat → Sl} {ws : Sl} {rv : Value} (h : SheetAt w F s R b gm km B P gs ps ws rv) (hb : Below w.heap.size w w') : SheetAt w' F s R b gm km B P gs ps ws rv := ⟨h.set.below hb, Ext2.blk hb h.blk, h.words.below hb⟩
end Go.Proofs.YtahgbecfaihfpaaDoor
namespace Go.Proofs.YtahgbecfaihfpaaDoor
open Go.RowKit D
set_option linter.unusedVariables false
set_option linter.unusedSimpArgs false
attribute [local go_sem high] run_minI run_maxI
attribute [local go_sem] upon2 cls_cell cls_frozen forall_const exists_eq_left'
attribute [local go_sem] FirstUpon
theorem word_cells {w : World} {F : Font} {P : List ByteArray} {gs ps : Nat → Sl} {s : Sl} (h : RowS w s 4 P.length (wordC F P gs ps)) {i : Nat} (hi : i < P.length) :
    ∃ b off, s.a = some ⟨b, off, none⟩ ∧ w.cell? ⟨b, off + i * 4, none⟩ = some (.string (strD P i)) ∧ w.cell? ⟨b, off + i * 4 + 1, none⟩ = some (.slice (gs i).a (gL F (strD P i)).length (gs i).cap) ∧ w.cell? ⟨b, off + i * 4 + 2, none⟩ = some (.slice (ps i).a (gL F (strD P i)).length (ps i).cap) ∧ w.cell? ⟨b, off + i * 4 + 3, none⟩ = some (.int .i64 (wW F (strD P i))) := by
  obtain ⟨b, off, ha, h0⟩ := h.cell i 0 hi (by omega)
  obtain ⟨b1, off1, ha1, h1⟩ := h.cell i 1 hi (by omega)
  obtain ⟨b2, off2, ha2, h2⟩ := h.cell i 2 hi (by omega)
  obtain ⟨b3, off3, ha3, h3⟩ := h.cell i 3 hi (by omega)
  rw [ha] at ha1 ha2 ha3
  obtain ⟨rfl, rfl⟩ : b = b1 ∧ off = off1 := by simpa using ha1
  obtain ⟨rfl, rfl⟩ : b = b2 ∧ off = off2 := by simpa using ha2
  obtain ⟨rfl, rfl⟩ : b = b3 ∧ off = off3 := by simpa using ha3
  exact ⟨b, off, ha, h0, h1, h2, h3⟩
theorem set4 {w : World} {g : Nat} {c0 c1 c2 c3 v0 v1 v2 v3 : Value} {t : TypeId} (h : w.heap[g]? = some (.cells #[c0, c1, c2, c3] t (0, 0))) : ((((w.setCell ⟨g, 0, none⟩ v0).setCell ⟨g, 1, none⟩ v1).setCell ⟨g, 2, none⟩ v2).setCell ⟨g, 3, none⟩ v3).heap[g]? = some (.cells #[v0, v1, v2, v3] t (0, 0)) := Eq.trans (blk_set (blk_set (blk_set (blk_set h _ _) _ _) _ _) _ _) rfl
theorem set4_below {B g : Nat} {w0 w : World} {v0 v1 v2 v3 : Value} (h : Below B w0 w) (hg : B ≤ g) : Below B w0 ((((w.setCell ⟨g, 0, none⟩ v0).setCell ⟨g, 1, none⟩ v1).setCell ⟨g, 2, none⟩ v2).setCell ⟨g, 3, none⟩ v3) := below_set (below_set (below_set (below_set h hg) hg) hg) hg
theorem sq_rng {d : Int} (h1 : -3000 ≤ d) (h2 : d ≤ 3000) : 0 ≤ d * d ∧ d * d ≤ 9000000 := by
  have key : ∀ x : Int, 0 ≤ x → x ≤ 3000 → 0 ≤ x * x ∧ x * x ≤ 9000000 := fun x h0 h3 => ⟨Int.mul_nonneg h0 h0, by have := Int.mul_le_mul h3 h3 h0 (by omega); omega⟩
  rcases Int.le_total 0 d with h0 | h0
  · exact key d h0 h2
  · have e : d * d = (-d) * (-d) := by rw [Int.neg_mul_neg]
    rw [e]; exact key (-d) (by omega) (by omega)
set_option maxRecDepth 100000 in
set_option maxHeartbeats 2000000 in
theorem line_any {F : Font} {s : FSl} {R : Rul} {b gm km B : Nat} {P : List ByteArray} {gs ps : Nat → Sl} {ws : Sl} {rv : Value} {a z : Nat} {w : World} (hS : SheetAt w F s R b gm km B P gs ps ws rv) (hk : FontOk F) (hr : RulOk F R) (ht : TextOk F R P) (haz : a < z) (hz : z ≤ P.length) :
    Calls Tryd.prog 56 #[.pointer (some ⟨B, 0, none⟩), .int .i64 (a : Int), .int .i64 (z : Int)] w fun e w' => e = .returned (.agg #[.int .i64 (a : Int), .int .i64 (z : Int), .int .i64 (wideL F P a z), .int .i64 (costL F R P a z)]) ∧ Below w.heap.size w w' := by
  have HS := Lib.hid hS; have HT := Lib.hid ht
  have hsp := hk.space; have hms := hr.measure; have hsh := hr.short; have hex := hr.extra
  have h40 := ht.n40
  have hcap := hS.words.row.le; have hmax := hS.words.row.max
  have xB := hS.blk; have xs := hS.set.blk
  obtain ⟨sa, sc⟩ := ws
  dsimp only at hcap hmax xB
  obtain ⟨wb, off, hwa, -⟩ := word_cells hS.words.row (i := 0) (by omega)
  dsimp only at hwa
  subst hwa
  have HSUM : Hid (∀ n, a + n ≤ P.length → -20 ≤ sumW F P a n ∧ sumW F P a n ≤ 68 * (n : Int)) := Lib.hid fun n hn => sumW_rng hk hr ht a n hn
  have hBl := blk_lt xB; have hbl := blk_lt xs
  have wn : IntKind.i64.wrap (-F.space) = -F.space := IntWalk.i64_in _ (by omega)
  have p0 : (0 : Int) ≤ (a : Int) := by omega
  have p1 : (a : Int) ≤ (z : Int) := by omega
  have p2 : (z : Int) ≤ (sc : Int) := by omega
  clear hS hk hr ht
  have qBc := cell_blk xB
  have qBf := frz_blk xB
  have qsc := cell_blk xs
  have qsf := frz_blk xs
  have nB : ¬ B = w.heap.size := by omega
  have nb : ¬ b = w.heap.size := by omega
  have nB1 : ¬ B = w.heap.size + 1 := by omega
  have nb1 : ¬ b = w.heap.size + 1 := by omega
  go_enter Tryd.func56, Tryd.ntmps56
  go_wp2_with (fail)
  refine wp_name ?_
  intro w1 h1
  obtain ⟨n6, hn6⟩ : ∃ n, n = w.heap.size := ⟨_, rfl⟩
  obtain ⟨n7, hn7⟩ : ∃ n, n = w.heap.size + 1 := ⟨_, rfl⟩
  obtain ⟨n, hn⟩ : ∃ n, n = z - a := ⟨_, rfl⟩
  have x6 : w1.heap[n6]? = some (Obj.cells #[.int .i64 0, .int .i64 0, .int .i64 0, .int .i64 0] 71) := by rw [h1, hn6]; exact blk_alloc (blk_new _ _) _
  have x7 : w1.heap[n7]? = some (Obj.cells #[.int .i64 (a : Int), .int .i64 (z : Int), .int .i64 (sumW F P a 0), .int .i64 0] 71) := by rw [h1, hn7]; exact blk_new' _ _ (by simp)
  have hB1 : Below w.heap.size w w1 := by rw [h1]; repeat' (first | exact Below.refl _ _ | assumption | refine below_drewN ?_ _ | refine Below.drew ?_ | refine Below.alloc ?_ (by first | assumption | omega | (simp <;> omega)) _ | refine Below.setCell ?_ (by first | assumption | omega | (simp <;> omega)) _ | refine Ext2.on (by assumption) ?_)
  rw [← hn7, ← hn6, ← hn]
  have han : a + n = z := by omega
  have hn0 : 0 < n := by omega
  have hn40 : n ≤ 40 := by omega
  have l67 : n6 < n7 := by omega
  have lB : B < n6 := by omega
  have lb : b < n6 := by omega
  have l6 : w.heap.size ≤ n6 := by omega
  have l7 : w.heap.size ≤ n7 := by omega
  have H6 := Lib.hid x6; have H7 := Lib.hid x7; have HB1 := Lib.hid hB1
  have HN6 := Lib.hid hn6; have HN7 := Lib.hid hn7; have HN := Lib.hid hn; have HAN := Lib.hid han
  clear h1 x6 x7 hB1 hn6 hn7 hn qBc qBf qsc qsf xB xs nB nb nB1 nb1 wn p0 p1 p2 han
  go_loopw [30] (fun p wr => ∃ (k : Nat), p = .int .i64 (k : Int) ∧ k ≤ n ∧ Below w.heap.size w wr ∧ wr.heap[n6]? = some (Obj.cells #[.int .i64 0, .int .i64 0, .int .i64 0, .int .i64 0] 71) ∧ wr.heap[n7]? = some (Obj.cells #[.int .i64 (a : Int), .int .i64 (z : Int), .int .i64 (sumW F P a k), .int .i64 0] 71)) (fun p _ => n - (intOf p).toNat)
  case atStart => exact ⟨0, rfl, by omega, HB1.out, H6.out, H7.out⟩
  case round =>
    obtain ⟨k, rfl, hk, hB, x6, x7⟩ := hrel
    have hSr := HS.out.below hB
    by_cases hlt : k < n
    · go_light
      obtain ⟨b', off', ha', c0, c1, c2, c3⟩ := word_cells hSr.words.row (i := a + k) (by have := HAN.out; omega)
      obtain ⟨rfl, rfl⟩ : wb = b' ∧ off = off' := by simpa using ha'
      rw [show off + (a + k) * 4 = off + a * 4 + k * 4 from by omega] at c0 c1 c2 c3
      obtain ⟨p, hp⟩ : ∃ p, p = strD P (a + k) := ⟨_, rfl⟩
      rw [← hp] at c0 c1 c2 c3
      obtain ⟨W, hW⟩ : ∃ W, W = wW F p := ⟨_, rfl⟩
      rw [← hW] at c3
      have hWr := HT.out.wide (a + k) (by have := HAN.out; omega)
      rw [← hp, ← hW] at hWr
      have hsk := HSUM.out k (by have := HAN.out; omega)
      obtain ⟨S, hSS⟩ : ∃ S, S = sumW F P a k := ⟨_, rfl⟩
      rw [← hSS] at x7 hsk
      have hs1 : sumW F P a (k + 1) = S + (F.space + W) := by rw [sumW, ← hSS, ← hp, ← hW]
      have HS1 := Lib.hid hs1
      have r0 : (0 : Int) ≤ (k : Int) := by omega
      have r1 : (k : Int) < (n : Int) := by omega
      have w3' : IntKind.i64.wrap ((k : Int) + 1) = (k : Int) + 1 := IntWalk.i64_in _ (by omega)
      have s1 : IntKind.i64.wrap (F.space + W) = F.space + W := IntWalk.i64_in _ (by omega)
      have s2 : IntKind.i64.wrap (S + (F.space + W)) = S + (F.space + W) := IntWalk.i64_in _ (by omega)
      have l7r := blk_lt x7
      clear ha' hp hW hSS hs1 hsk hWr
      go_wp2_with (fail)
      refine wp_name ?_
      intro w2 h2
      obtain ⟨n9, hn9⟩ : ∃ n, n = wr.heap.size := ⟨_, rfl⟩
      have hE2 : Ext2 wr w2 := by rw [h2]; repeat' (first | exact Below.refl _ _ | assumption | refine below_drewN ?_ _ | refine Below.drew ?_ | refine Below.alloc ?_ (by first | assumption | omega | (simp <;> omega)) _ | refine Below.setCell ?_ (by first | assumption | omega | (simp <;> omega)) _ | refine Ext2.on (by assumption) ?_)
      have x9 : w2.heap[n9]? = some (Obj.cells #[.string p, .slice (gs (a + k)).a (gL F p).length (gs (a + k)).cap, .slice (ps (a + k)).a (gL F p).length (ps (a + k)).cap, .int .i64 W] 90) := by rw [h2, hn9]; exact blk_new _ _
      have x6 := Ext2.blk hE2 x6; have x7 := Ext2.blk hE2 x7
      have xB := Ext2.blk hE2 hSr.blk; have xs := Ext2.blk hE2 hSr.set.blk
      have hB2 := below_ext hB hE2
      rw [← hn9]
      have l79 : n7 < n9 := by omega
      clear h2 hn9 c0 c1 c2 c3 hSr hE2 hB l7r
      dsimp only at xB
      have q7c := cell_blk x7
      have q7f := frz_blk x7
      have q9c := cell_blk x9
      have q9f := frz_blk x9
      have qBc := cell_blk xB
      have qBf := frz_blk xB
      have qsc := cell_blk xs
      have qsf := frz_blk xs
      go_wp2_with (fail)
      refine region_ev [] [0, 1, 2, 3, 4, 5, 6, 7, 8, 9, 10, 11, 12, 13, 14] [] [15] (by kernel_rfl) (by kernel_rfl) (by intro c a d v w h; cases d <;> exact h) ?_
      simp only [picks, List.drop_succ_cons, List.drop_zero]
      repeat (refine wpQ0_step (fun K hK => ?_); go_simp; (refine hK _ ?_; clear hK K))
      refine wpQ0_nil ?_
      repeat ((with_reducible refine wpQ2_step (fun K hK => ?_)); go_simp; first | ((with_reducible refine hK _ ?_); clear hK K) | (apply Exists.intro; refine ⟨fun x => ?_, hK _ ?_⟩; (fail); clear hK K))
      refine wpQ2_nil ?_
      refine Events.none_ fun w3 hg3 => ?_
      simp only [picks, List.drop_succ_cons, List.drop_zero]
      have x6 := Ext2.blk hg3 x6; have x7 := Ext2.blk hg3 x7
      have hB3 := below_ext hB2 hg3
      clear q7c q7f q9c q9f qBc qBf qsc qsf x9 xB xs hB2 hg3
      have q7c := cell_blk x7
      have q7f := frz_blk x7
      go_wp2_with (fail)
      go_roundw
      case rel =>
        refine ⟨k + 1, by go_num, by omega, below_set hB3 l7, ?_, ?_⟩
        · rw [set_oth _ _ (by omega)]; exact x6
        · rw [HS1.out]; exact Eq.trans (blk_set x7 _ _) rfl
      case measure => simp [intOf]; omega
    · obtain rfl : k = n := by omega
      have hSr := HS.out.below hB
      have hwide : wideL F P a z = sumW F P a k := by unfold wideL; rw [← HN.out]
      obtain ⟨W, hW⟩ : ∃ W, W = sumW F P a k := ⟨_, rfl⟩
      have hWr := HSUM.out k (by have := HAN.out; omega)
      rw [← hW] at x7 hwide hWr
      have HWI := Lib.hid hwide
      have xB := hSr.blk; have xs := hSr.set.blk
      dsimp only at xB
      have r8 : ¬ (k : Int) < (k : Int) := by omega
      have nB6 : ¬ B = n6 := by omega
      have n76 : ¬ n7 = n6 := by omega
      have n67 : ¬ n6 = n7 := by omega
      have HR6 := Lib.hid x6
      clear hlt hW hwide
      have q6c := cell_blk x6
      have q6f := frz_blk x6
      have q7c := cell_blk x7
      have q7f := frz_blk x7
      have qBc := cell_blk xB
      have qBf := frz_blk xB
      have qsc := cell_blk xs
      have qsf := frz_blk xs
      by_cases hzl : z = P.length
      · have hzd : ((z : Int) = (P.length : Int)) := by omega
        have hc : costL F R P a z = 0 := by unfold costL; rw [if_pos hzl]
        have HC := Lib.hid hc; have HZ := Lib.hid hzl
        clear hc hzl
        go_wp2_with (fail)
        have y6 := set4 (v0 := .int .i64 (a : Int)) (v1 := .int .i64 (P.length : Int)) (v2 := .int .i64 W) (v3 := .int .i64 0) HR6.out
        have yc := cell_blk y6
        refine ⟨rfl, .agg #[.int .i64 (a : Int), .int .i64 (P.length : Int), .int .i64 W, .int .i64 0], ?_, ?_, set4_below hB l6⟩
        · simp [results, Tryd.results56, go_sem, yc]
        · rw [HWI.out, HC.out]
      · have hzn : ¬ ((z : Int) = (P.length : Int)) := by omega
        have hzd : decide ((z : Int) = (P.length : Int)) = false := decide_eq_false hzn
        obtain ⟨y, hy⟩ : ∃ y, z = y + 1 := ⟨z - 1, by omega⟩
        obtain ⟨b', off', ha', c0, -⟩ := word_cells hSr.words.row (i := y) (by omega)
        obtain ⟨rfl, rfl⟩ : wb = b' ∧ off = off' := by simpa using ha'
        obtain ⟨p, hp⟩ : ∃ p, p = strD P y := ⟨_, rfl⟩
        rw [← hp] at c0
        obtain ⟨d, hd⟩ : ∃ d, d = R.measure - W := ⟨_, rfl⟩
        have hq := sq_rng (d := d) (by omega) (by omega)
        obtain ⟨q, hqe⟩ : ∃ q, q = d * d := ⟨_, rfl⟩
        rw [← hqe] at hq
        have hc : costL F R P a z = q + (if (p.size : Int) ≤ R.short then R.extra else 0) := by
          unfold costL
          rw [if_neg hzl, HWI.out, ← hd, ← hqe, hy, Nat.add_sub_cancel, ← hp]
        have HC := Lib.hid hc
        have s1 : IntKind.i64.wrap (R.measure - W) = d := by rw [hd]; exact IntWalk.i64_in _ (by omega)
        have s2 : IntKind.i64.wrap (d * d) = q := by rw [hqe]; exact IntWalk.i64_in _ (by omega)
        have s3 : IntKind.i64.wrap (q + R.extra) = q + R.extra := IntWalk.i64_in _ (by omega)
        have s4 : IntKind.i64.wrap ((z : Int) - 1) = (y : Int) := Eq.trans (IntWalk.i64_in _ (by omega)) (by omega)
        have t0 : (0 : Int) ≤ (y : Int) := by omega
        have t1 : (y : Int) < (P.length : Int) := by omega
        have l7r := blk_lt x7
        clear hzl hy ha' hp hd hq hqe hc hWr
        go_wp2_with (fail)
        refine region_ev [] [0, 1, 2, 3, 4, 5, 6, 7, 8, 9, 10, 11, 12, 13, 14, 15, 16, 17, 18, 19, 20, 21, 22, 23] [] [24] (by kernel_rfl) (by kernel_rfl) (by intro c a d v w h; cases d <;> exact h) ?_
        simp only [picks, List.drop_succ_cons, List.drop_zero]
        repeat (refine wpQ0_step (fun K hK => ?_); go_simp; (refine hK _ ?_; clear hK K))
        refine wpQ0_nil ?_
        repeat ((with_reducible refine wpQ2_step (fun K hK => ?_)); go_simp; first | ((with_reducible refine hK _ ?_); clear hK K) | (apply Exists.intro; refine ⟨fun x => ?_, hK _ ?_⟩; (fail); clear hK K))
        refine wpQ2_nil ?_
        refine Events.none_ fun w2 hg2 => ?_
        simp only [picks, List.drop_succ_cons, List.drop_zero]
        have x7b := Ext2.blk hg2 x7; have x6b := Ext2.blk hg2 x6
        have hB2 := below_ext hB hg2
        have xBb := Ext2.blk hg2 xB; have xsb := Ext2.blk hg2 xs
        have c0b : w2.cell? ⟨wb, off + y * 4, none⟩ = some (.string p) := by rw [(bcell (w := wr) (W := wr) hg2).1 _ _ (cell_lt c0)]; exact c0
        have hwn7 : wb ≠ n7 := by
          rintro rfl
          obtain ⟨c, f, hc⟩ := hSr.words.ty wb off rfl
          rw [x7] at hc
          exact absurd (Obj.cells.inj (Option.some.inj hc)).2.1 (by decide)
        clear q6c q6f q7c q7f qBc qBf qsc qsf x7 x6 xB xs c0 hg2
        have q7c := cell_blk x7b
        have q7f := frz_blk x7b
        go_wp2_with (fail)
        refine wp_name ?_
        intro w3 h3
        have x7 : w3.heap[n7]? = some (Obj.cells #[.int .i64 (a : Int), .int .i64 (z : Int), .int .i64 W, .int .i64 q] 71) := by rw [h3]; exact Eq.trans (blk_set x7b _ _) rfl
        have x6 := Eq.trans (show w3.heap[n6]? = w2.heap[n6]? by rw [h3, set_oth _ _ (by omega)]) x6b
        have xB := Eq.trans (show w3.heap[B]? = w2.heap[B]? by rw [h3, set_oth _ _ (by omega)]) xBb
        have xs := Eq.trans (show w3.heap[b]? = w2.heap[b]? by rw [h3, set_oth _ _ (by omega)]) xsb
        have hB3 : Below w.heap.size w w3 := by rw [h3]; exact below_set hB2 l7
        have c0 : w3.cell? ⟨wb, off + y * 4, none⟩ = some (.string p) := by
          rw [← c0b, h3]
          simp only [World.cell?]
          rw [set_oth _ _ hwn7]
        clear h3 x7b x6b xBb xsb hB2 c0b q7c q7f hSr hB
        have q7c := cell_blk x7
        have q7f := frz_blk x7
        have qBc := cell_blk xB
        have qBf := frz_blk xB
        have qsc := cell_blk xs
        have qsf := frz_blk xs
        by_cases hsl : (p.size : Int) ≤ R.short
        · have hd2 : decide ((p.size : Int) ≤ R.short) = true := decide_eq_true hsl
          have HSL := Lib.hid hsl
          go_wp2_with (fail)
          refine region_ev [] [0, 1, 2, 3, 4, 5, 6, 7, 8, 9, 10, 11, 12, 13, 14, 15, 16, 17, 18] [] [] (by kernel_rfl) (by kernel_rfl) (by intro c a d v w h; cases d <;> exact h) ?_
          simp only [picks, List.drop_succ_cons, List.drop_zero]
          repeat (refine wpQ0_step (fun K hK => ?_); go_simp; (refine hK _ ?_; clear hK K))
          refine wpQ0_nil ?_
          repeat ((with_reducible refine wpQ2_step (fun K hK => ?_)); go_simp; first | ((with_reducible refine hK _ ?_); clear hK K) | (apply Exists.intro; refine ⟨fun x => ?_, hK _ ?_⟩; (fail); clear hK K))
          refine wpQ2_nil ?_
          refine Events.none_ fun w4 hg4 => ?_
          simp only [picks, List.drop_succ_cons, List.drop_zero]
          have x7b := Ext2.blk hg4 x7; have x6b := Ext2.blk hg4 x6; have hB4 := below_ext hB3 hg4; have xBb := Ext2.blk hg4 xB; have xsb := Ext2.blk hg4 xs
          clear q7c q7f qBc qBf qsc qsf x7 x6 xB xs c0 hg4 hB3
          have q7c := cell_blk x7b
          have q7f := frz_blk x7b
          have qBc := cell_blk xBb
          have qBf := frz_blk xBb
          have qsc := cell_blk xsb
          have qsf := frz_blk xsb
          go_wp2_with (fail)
          refine region_ev [] [0, 1, 2, 3, 4, 5, 6, 7, 8, 9, 10, 11] [] [12] (by kernel_rfl) (by kernel_rfl) (by intro c a d v w h; cases d <;> exact h) ?_
          simp only [picks, List.drop_succ_cons, List.drop_zero]
          repeat (refine wpQ0_step (fun K hK => ?_); go_simp; (refine hK _ ?_; clear hK K))
          refine wpQ0_nil ?_
          repeat ((with_reducible refine wpQ2_step (fun K hK => ?_)); go_simp; first | ((with_reducible refine hK _ ?_); clear hK K) | (apply Exists.intro; refine ⟨fun x => ?_, hK _ ?_⟩; (fail); clear hK K))
          refine wpQ2_nil ?_
          refine Events.none_ fun w5 hg5 => ?_
          simp only [picks, List.drop_succ_cons, List.drop_zero]
          have x7 := Ext2.blk hg5 x7b; have x6 := Ext2.blk hg5 x6b; have hB5 := below_ext hB4 hg5
          clear q7c q7f qBc qBf qsc qsf x7b x6b xBb xsb hg5 hB4
          have q7c := cell_blk x7
          have q7f := frz_blk x7
          have q6c := cell_blk x6
          have q6f := frz_blk x6
          go_wp2_with (fail)
          have x6' := Eq.trans (set_oth w5 (o := 3) (.int .i64 (q + R.extra)) n67) x6
          have y6 := set4 (v0 := .int .i64 (a : Int)) (v1 := .int .i64 (z : Int)) (v2 := .int .i64 W) (v3 := .int .i64 (q + R.extra)) x6'
          have yc := cell_blk y6
          refine ⟨rfl, .agg #[.int .i64 (a : Int), .int .i64 (z : Int), .int .i64 W, .int .i64 (q + R.extra)], ?_, ?_, set4_below (below_set hB5 l7) l6⟩
          · simp [results, Tryd.results56, go_sem, yc]
          · rw [HWI.out, HC.out, if_pos HSL.out]
        · have hd2 : decide ((p.size : Int) ≤ R.short) = false := decide_eq_false hsl
          have HSL := Lib.hid hsl
          go_wp2_with (fail)
          refine region_ev [] [0, 1, 2, 3, 4, 5, 6, 7, 8, 9, 10, 11, 12, 13, 14, 15, 16, 17, 18] [] [] (by kernel_rfl) (by kernel_rfl) (by intro c a d v w h; cases d <;> exact h) ?_
          simp only [picks, List.drop_succ_cons, List.drop_zero]
          repeat (refine wpQ0_step (fun K hK => ?_); go_simp; (refine hK _ ?_; clear hK K))
          refine wpQ0_nil ?_
          repeat ((with_reducible refine wpQ2_step (fun K hK => ?_)); go_simp; first | ((with_reducible refine hK _ ?_); clear hK K) | (apply Exists.intro; refine ⟨fun x => ?_, hK _ ?_⟩; (fail); clear hK K))
          refine wpQ2_nil ?_
          refine Events.none_ fun w4 hg4 => ?_
          simp only [picks, List.drop_succ_cons, List.drop_zero]
          have x7b := Ext2.blk hg4 x7; have x6b := Ext2.blk hg4 x6; have hB4 := below_ext hB3 hg4
          clear q7c q7f qBc qBf qsc qsf x7 x6 xB xs c0 hg4 hB3
          have q7c := cell_blk x7b
          have q7f := frz_blk x7b
          have q6c := cell_blk x6b
          have q6f := frz_blk x6b
          go_wp2_with (fail)
          have y6 := set4 (v0 := .int .i64 (a : Int)) (v1 := .int .i64 (z : Int)) (v2 := .int .i64 W) (v3 := .int .i64 q) x6b
          have yc := cell_blk y6
          refine ⟨rfl, .agg #[.int .i64 (a : Int), .int .i64 (z : Int), .int .i64 W, .int .i64 q], ?_, ?_, set4_below hB4 l6⟩
          · simp [results, Tryd.results56, go_sem, yc]
          · rw [HWI.out, HC.out, if_neg (by have := HSL.out; omega), Int.add_zero]
end Go.Proofs.YtahgbecfaihfpaaDoor
namespace Go.Proofs.YtahgbecfaihfpaaDoor.D
/-- What is from a word on. -/
structure Rst where
  cost : Int
  lines : Int
  end_ : Int
  deriving DecidableEq, Inhabited
def lessS (r q : Rst) : Bool := decide (r.cost < q.cost) || (decide (r.cost = q.cost) && decide (r.lines < q.lines))
end Go.Proofs.YtahgbecfaihfpaaDoor.D
namespace Go.Proofs.YtahgbecfaihfpaaDoor
open Go.RowKit D
set_option linter.unusedVariables false
set_option linter.unusedSimpArgs false
attribute [local go_sem high] run_minI run_maxI
attribute [local go_sem] upon2 cls_cell cls_frozen forall_const exists_eq_left'
attribute [local go_sem] FirstUpon
set_option maxRecDepth 100000 in
set_option maxHeartbeats 2000000 in
theorem less_any (r q : Rst) (w : World) : Calls Tryd.prog 77 #[.agg #[.int .i64 r.cost, .int .i64 r.lines, .int .i64 r.end_], .agg #[.int .i64 q.cost, .int .i64 q.lines, .int .i64 q.end_]] w fun e w' => e = .returned (.bool (lessS r q)) ∧ Below w.heap.size w w' := by
  go_enter Tryd.func77, Tryd.ntmps77
  by_cases h1 : r.cost < q.cost
  · have hd1 : decide (r.cost < q.cost) = true := decide_eq_true h1
    have hs : lessS r q = true := by unfold lessS; rw [hd1]; rfl
    have HS := Lib.hid hs
    clear hs
    go_wp2_with (fail)
    go_ret
    exact ⟨by rw [HS.out]; rfl, by repeat' (first | exact Below.refl _ _ | assumption | refine below_drewN ?_ _ | refine Below.drew ?_ | refine Below.alloc ?_ (by first | assumption | omega | (simp <;> omega)) _ | refine Below.setCell ?_ (by first | assumption | omega | (simp <;> omega)) _ | refine Ext2.on (by assumption) ?_)⟩
  · have hd1 : decide (r.cost < q.cost) = false := decide_eq_false h1
    by_cases h2 : r.cost = q.cost
    · have hd2 : decide (r.cost = q.cost) = true := decide_eq_true h2
      obtain ⟨v, hv⟩ : ∃ v, v = decide (r.lines < q.lines) := ⟨_, rfl⟩
      have hs : lessS r q = v := by unfold lessS; rw [hd1, hd2, hv]; rfl
      have HS := Lib.hid hs; have HV := Lib.hid hv; have H2 := Lib.hid h2
      clear hs h2 hv
      go_wp2_with (fail)
      go_ret
      exact ⟨by rw [HS.out, HV.out]; rfl, by repeat' (first | exact Below.refl _ _ | assumption | refine below_drewN ?_ _ | refine Below.drew ?_ | refine Below.alloc ?_ (by first | assumption | omega | (simp <;> omega)) _ | refine Below.setCell ?_ (by first | assumption | omega | (simp <;> omega)) _ | refine Ext2.on (by assumption) ?_)⟩
    · have hd2 : decide (r.cost = q.cost) = false := decide_eq_false h2
      have hs : lessS r q = false := by unfold lessS; rw [hd1, hd2]; rfl
      have HS := Lib.hid hs
      clear hs
      go_wp2_with (fail)
      go_ret
      exact ⟨by rw [HS.out]; rfl, by repeat' (first | exact Below.refl _ _ | assumption | refine below_drewN ?_ _ | refine Below.drew ?_ | refine Below.alloc ?_ (by first | assumption | omega | (simp <;> omega)) _ | refine Below.setCell ?_ (by first | assumption | omega | (simp <;> omega)) _ | refine Ext2.on (by assumption) ?_)⟩
end Go.Proofs.YtahgbecfaihfpaaDoor
namespace Go.Proofs.YtahgbecfaihfpaaDoor.D
/-- What is from a word on if its line ends there. -/
def candR (F : Font) (R : Rul) (P : List ByteArray) (T : Nat → Rst) (i e : Nat) : Rst := ⟨costL F R P i e + (T e).cost, 1 + (T e).lines, (e : Int)⟩
/-- The best of the first c ends; of several as good the longest line. -/
def innS (F : Font) (R : Rul) (P : List ByteArray) (T : Nat → Rst) (i : Nat) : Nat → Rst
  | 0 => ⟨0, 0, 0⟩
  | c + 1 => if c = 0 ∨ lessS (innS F R P T i c) (candR F R P T i (i + c + 1)) = false then candR F R P T i (i + c + 1) else innS F R P T i c
/-- How many ends fit. -/
def kmax (F : Font) (R : Rul) (P : List ByteArray) (i : Nat) : Nat := firstN (fun c => decide (R.measure < wideL F P i (i + c + 1))) (P.length - i)
/-- The table behind the last m words. -/
def rT (F : Font) (R : Rul) (P : List ByteArray) : Nat → Nat → Rst
  | 0 => fun _ => ⟨0, 0, 0⟩
  | m + 1 => fun j => if j = P.length - (m + 1) then innS F R P (rT F R P m) (P.length - (m + 1)) (kmax F R P (P.length - (m + 1))) else rT F R P m j
def restS (F : Font) (R : Rul) (P : List ByteArray) (i : Nat) : Rst := rT F R P P.length i
theorem innS_congr {F : Font} {R : Rul} {P : List ByteArray} {T T' : Nat → Rst} {i : Nat} : ∀ {c : Nat}, (∀ e, i < e → e ≤ i + c → T e = T' e) → innS F R P T i c = innS F R P T' i c
  | 0, _ => rfl
  | c + 1, h => by
    have e1 : candR F R P T i (i + c + 1) = candR F R P T' i (i + c + 1) := by unfold candR; rw [h (i + c + 1) (by omega) (by omega)]
    rw [innS, innS, innS_congr (c := c) (fun e h1 h2 => h e h1 (by omega)), e1]
theorem kmax_le (F : Font) (R : Rul) (P : List ByteArray) (i : Nat) : kmax F R P i ≤ P.length - i := firstN_le _ _
theorem rT_zero (F : Font) (R : Rul) (P : List ByteArray) : ∀ m j, m ≤ P.length → j < P.length - m → rT F R P m j = ⟨0, 0, 0⟩
  | 0, _, _, _ => rfl
  | m + 1, j, h, hj => by
    rw [rT]
    dsimp only
    rw [if_neg (by omega)]
    exact rT_zero F R P m j (by omega) (by omega)
theorem rT_stay (F : Font) (R : Rul) (P : List ByteArray) {m j : Nat} (hj : P.length - m ≤ j) : ∀ d, m + d ≤ P.length → rT F R P (m + d) j = rT F R P m j
  | 0, _ => rfl
  | d + 1, h => by
    rw [← Nat.add_assoc, rT]
    dsimp only
    rw [if_neg (by omega)]
    exact rT_stay F R P hj d (by omega)
theorem rT_rest (F : Font) (R : Rul) (P : List ByteArray) {m j : Nat} (hm : m ≤ P.length) (hj : P.length - m ≤ j) : rT F R P m j = restS F R P j := by
  have h := rT_stay F R P hj (P.length - m) (by omega)
  rw [show m + (P.length - m) = P.length from by omega] at h
  exact h.symm
theorem restS_end (F : Font) (R : Rul) (P : List ByteArray) : restS F R P P.length = ⟨0, 0, 0⟩ := by
  exact (rT_rest F R P (m := 0) (j := P.length) (Nat.zero_le _) (by omega)).symm
theorem restS_eq (F : Font) (R : Rul) (P : List ByteArray) {i : Nat} (hi : i < P.length) : restS F R P i = innS F R P (restS F R P) i (kmax F R P i) := by
  have hk := kmax_le F R P i
  rw [← rT_rest F R P (m := P.length - i) (by omega) (by omega)]
  obtain ⟨m, hm⟩ : ∃ m, P.length - i = m + 1 := ⟨P.length - i - 1, by omega⟩
  have hi' : P.length - (m + 1) = i := by omega
  rw [hm, rT]
  dsimp only
  rw [hi', if_pos rfl]
  exact innS_congr fun e h1 h2 => rT_rest F R P (by omega) (by omega)
theorem wideL_one {F : Font} {P : List ByteArray} (i : Nat) : wideL F P i (i + 1) = wW F (strD P i) := by
  unfold wideL
  rw [Nat.add_sub_cancel_left]
  simp only [sumW, Nat.add_zero]
  omega
theorem kmax_pos {F : Font} {R : Rul} {P : List ByteArray} (h : TextOk F R P) {i : Nat} (hi : i < P.length) : 1 ≤ kmax F R P i := by
  rcases Nat.eq_zero_or_pos (kmax F R P i) with h0 | h0
  · have h1 := (firstN_spec (p := fun c => decide (R.measure < wideL F P i (i + c + 1))) (n := P.length - i)).2 (by show kmax F R P i < _; omega)
    have h2 : firstN (fun c => decide (R.measure < wideL F P i (i + c + 1))) (P.length - i) = 0 := h0
    rw [h2] at h1
    have h3 := of_decide_eq_true h1
    rw [Nat.add_zero, wideL_one] at h3
    have := (h.wide i hi).2
    omega
  · exact h0
end Go.Proofs.YtahgbecfaihfpaaDoor.D
namespace Go.Proofs.YtahgbecfaihfpaaDoor
open Go.RowKit D
theorem wideL_rng {F : Font} {R : Rul} {P : List ByteArray} (hk : FontOk F) (hr : RulOk F R) (h : TextOk F R P) {a z : Nat} (haz : a < z) (hz : z ≤ P.length) : -20 ≤ wideL F P a z ∧ wideL F P a z ≤ 2720 := by
  have h1 := sumW_rng hk hr h a (z - a) (by omega)
  have h2 := h.n40
  unfold wideL
  omega
theorem costL_rng {F : Font} {R : Rul} {P : List ByteArray} (hk : FontOk F) (hr : RulOk F R) (h : TextOk F R P) {a z : Nat} (haz : a < z) (hz : z ≤ P.length) : 0 ≤ costL F R P a z ∧ costL F R P a z ≤ 9010000 := by
  have h1 := wideL_rng hk hr h haz hz
  have h2 := hr.measure
  have h3 := hr.extra
  have h4 := sq_rng (d := R.measure - wideL F P a z) (by omega) (by omega)
  unfold costL
  split
  · omega
  · split <;> omega
theorem innS_or (F : Font) (R : Rul) (P : List ByteArray) (T : Nat → Rst) (i : Nat) : ∀ c, 0 < c → ∃ e, i < e ∧ e ≤ i + c ∧ innS F R P T i c = candR F R P T i e
  | c + 1, _ => by
    rw [innS]
    split
    · exact ⟨i + c + 1, by omega, by omega, rfl⟩
    · rename_i h
      obtain ⟨e, h1, h2, h3⟩ := innS_or F R P T i c (by omega)
      exact ⟨e, h1, by omega, h3⟩
/-- What a rest is. -/
structure RstOk (P : List ByteArray) (r : Rst) (i : Nat) : Prop where
  cost : 0 ≤ r.cost ∧ r.cost ≤ 9010000 * ((P.length : Int) - i)
  lines : 0 ≤ r.lines ∧ r.lines ≤ (P.length : Int) - i
theorem rest_ok {F : Font} {R : Rul} {P : List ByteArray} (hk : FontOk F) (hr : RulOk F R) (h : TextOk F R P) : ∀ m, m ≤ P.length → RstOk P (restS F R P (P.length - m)) (P.length - m)
  | 0, _ => by
    rw [Nat.sub_zero, restS_end]
    exact ⟨⟨Int.le_refl _, by show (0 : Int) ≤ _; omega⟩, Int.le_refl _, by show (0 : Int) ≤ _; omega⟩
  | m + 1, hm => by
    have hi : P.length - (m + 1) < P.length := by omega
    obtain ⟨e, h1, h2, h3⟩ := innS_or F R P (restS F R P) (P.length - (m + 1)) _ (kmax_pos h hi)
    have hke := kmax_le F R P (P.length - (m + 1))
    have he : e ≤ P.length := by omega
    have ih := rest_ok hk hr h (P.length - e) (by omega)
    rw [show P.length - (P.length - e) = e from by omega] at ih
    rw [restS_eq F R P hi, h3]
    have hc := costL_rng hk hr h (a := P.length - (m + 1)) (z := e) h1 he
    have i1 := ih.cost; have i2 := ih.lines
    have hcast : ((P.length - (m + 1) : Nat) : Int) = (P.length : Int) - (m + 1) := by omega
    refine ⟨?_, ?_⟩
    · show 0 ≤ costL F R P (P.length - (m + 1)) e + (restS F R P e).cost ∧ costL F R P (P.length - (m + 1)) e + (restS F R P e).cost ≤ _
      omega
    · show 0 ≤ 1 + (restS F R P e).lines ∧ 1 + (restS F R P e).lines ≤ _
      omega
  termination_by m => m
  decreasing_by omega
theorem rest_rng {F : Font} {R : Rul} {P : List ByteArray} (hk : FontOk F) (hr : RulOk F R) (h : TextOk F R P) {i : Nat} (hi : i ≤ P.length) : (0 ≤ (restS F R P i).cost ∧ (restS F R P i).cost ≤ 360400000) ∧ 0 ≤ (restS F R P i).lines ∧ (restS F R P i).lines ≤ 40 := by
  have h1 := rest_ok hk hr h (P.length - i) (by omega)
  rw [show P.length - (P.length - i) = i from by omega] at h1
  have h2 := h.n40
  have h3 := h1.cost; have h4 := h1.lines
  omega
/-- Where the first line ends. -/
theorem rest_end {F : Font} {R : Rul} {P : List ByteArray} (h : TextOk F R P) {i : Nat} (hi : i < P.length) : ∃ e : Nat, (restS F R P i).end_ = (e : Int) ∧ i < e ∧ e ≤ i + kmax F R P i ∧ e ≤ P.length ∧ restS F R P i = candR F R P (restS F R P) i e := by
  obtain ⟨e, h1, h2, h3⟩ := innS_or F R P (restS F R P) i _ (kmax_pos h hi)
  have hke := kmax_le F R P i
  have h4 := restS_eq F R P hi
  rw [h3] at h4
  exact ⟨e, by rw [h4]; rfl, h1, h2, by omega, h4⟩
end Go.Proofs.YtahgbecfaihfpaaDoor
