/-
  The examples of the document, plain.
  ref.Ints: are two lists equal?
  The law's examples: Font, Rule, Text, Page.
  The law's drawn.
  The law's Awake returns true.
-/
import Derived.Test.YtahgbecfaihfpaaDoorTPages
import Derived.Test.YtahgbecfaihfpaaDoorTBreakM
import Derived.Test.YtahgbecfaihfpaaDoorTSetM
import Derived.Test.YtahgbecfaihfpaaDoorTJudge
namespace Go.Proofs.YtahgbecfaihfpaaDoor.D
def exF : Font := ⟨3, 2, [⟨⟨#[97]⟩, 3, [2, 5, 7]⟩, ⟨⟨#[102]⟩, 2, [3, 2, 2]⟩, ⟨⟨#[105]⟩, 1, [1, 1, 1]⟩, ⟨⟨#[102, 105]⟩, 3, [7, 5, 5]⟩, ⟨⟨#[110]⟩, 3, [6, 5, 5]⟩], [⟨1, 0, -1⟩]⟩
def exR : Rul := ⟨12, 2, 1, 1, 10, 200⟩
def exT : ByteArray := ⟨#[97, 32, 102, 97, 110, 32, 105, 110, 32, 102, 105, 110]⟩
def exFan : ByteArray := ⟨#[102, 97, 110]⟩
/-- The page of the text, as the document draws it. -/
def exP : List Nat := [46, 35, 46, 46, 46, 35, 35, 35, 46, 35, 35, 46, 35, 46, 35, 46, 46, 35, 35, 46, 35, 35, 46, 35, 35, 35, 35, 46, 46, 35, 35, 35, 35, 35, 46, 35, 46, 46, 46, 46, 46, 46, 46, 46, 46, 46, 46, 46, 35, 35, 35, 46, 46, 46, 35, 35, 35, 35, 35, 46, 35, 35, 46, 35, 46, 46, 35, 46, 35, 35, 46, 35, 35, 35, 46, 35, 46, 46, 35, 46, 35, 35, 46, 35]
theorem exSet : setS exF exFan.data.toList = some [1, 0, 4] := by kernel_rfl
theorem exSetE : setE exF exFan = 0 := by kernel_rfl
theorem exSetW : wW exF exFan = 7 := by kernel_rfl
theorem exOpen : openE exF exR exT = 0 := by kernel_rfl
theorem exRest : restL exF exR (partsS exT) = [0, 25, 0, 0, 0] := by kernel_rfl
theorem exJ1 : judgeV exF exR exT [1, 2, 4] = (116, 0) := by kernel_rfl
theorem exJ2 : judgeV exF exR exT [3, 4] = (0, 202) := by kernel_rfl
theorem exN : npg exF exR (partsS exT) (partsS exT).length = 1 := by kernel_rfl
theorem exPix : pixN exF exR = 84 := by kernel_rfl
theorem exRows : rowsV exF exR = 7 := by kernel_rfl
theorem exPg : ∀ j, j < 84 → decide (j ∈ ptsK exF exR (partsS exT) 0 (partsS exT).length) = decide (exP.getD j 0 = 35) := by
  have h : (List.range 84).all (fun j => decide (j ∈ ptsK exF exR (partsS exT) 0 (partsS exT).length) == decide (exP.getD j 0 = 35)) = true := by kernel_rfl
  intro j hj
  have := List.all_eq_true.1 h j (List.mem_range.2 hj)
  simpa using this
end Go.Proofs.YtahgbecfaihfpaaDoor.D
namespace Go.Proofs.YtahgbecfaihfpaaDoor
open Go.RowKit D
set_option linter.unusedVariables false
set_option linter.unusedSimpArgs false
attribute [local go_sem high] run_minI run_maxI
attribute [local go_sem] upon2 cls_cell cls_frozen forall_const exists_eq_left'
attribute [local go_sem] FirstUpon
theorem ints_ext {l m : List Int} (h : l.length = m.length) (h' : ∀ j, j < l.length → intD l j = intD m j) : l = m := by
  refine List.ext_getElem h fun i h1 h2 => ?_
  have := h' i h1
  rwa [intD, intD, List.getD_eq_getElem?_getD, List.getD_eq_getElem?_getD, List.getElem?_eq_getElem h1, List.getElem?_eq_getElem h2] at this
set_option maxRecDepth 100000 in
set_option maxHeartbeats 2000000 in
theorem intsR_any {s t : Sl} {l m : List Int} {w : World} (hl : IntsS w s l) (hm : IntsS w t m) :
    Calls Tryd.prog 19 #[.slice s.a l.length s.cap, .slice t.a m.length t.cap] w fun e w' => e = .returned (.bool (decide (l = m))) ∧ Below w.heap.size w w' := by
  obtain ⟨a, cap⟩ := s
  obtain ⟨a', cap'⟩ := t
  have hc : l.length ≤ cap := hl.le
  have hcm : cap ≤ 9223372036854775807 := hl.max
  have hc' : m.length ≤ cap' := hm.le
  have hcm' : cap' ≤ 9223372036854775807 := hm.max
  have HL := Lib.hid hl; have HM := Lib.hid hm; clear hl hm
  by_cases hne : l.length = m.length
  · have HN := Lib.hid hne
    have hb : ((l.length : Int) != (m.length : Int)) = false := by simp [hne]
    clear hne
    go_enter Tryd.func19, Tryd.ntmps19
    go_wp2_with (fail)
    go_loopw [5] (fun i wr => ∃ k : Nat, i = .int .i64 k ∧ k ≤ l.length ∧ Below w.heap.size w wr ∧ ∀ j, j < k → intD l j = intD m j) (fun i _ => l.length - (intOf i).toNat)
    case atStart => exact ⟨0, rfl, by omega, Below.refl _ _, fun j h => absurd h (by omega)⟩
    case round =>
      obtain ⟨k, rfl, hk, hB, hall⟩ := hrel
      have HA := Lib.hid hall; have HB := Lib.hid hB; clear hall
      by_cases hlt : k < l.length
      · go_light
        obtain ⟨b, off, h1, x0⟩ := int_cell (HL.out.below hB) hlt
        obtain ⟨b', off', h2, y0⟩ := int_cell (HM.out.below hB) (i := k) (by have := HN.out; omega)
        dsimp only at h1 h2
        subst h1 h2
        have i0 : (0 : Int) ≤ (k : Int) := by omega
        have i1 : (k : Int) < (l.length : Int) := by omega
        have i2 : (k : Int) < (m.length : Int) := by have := HN.out; omega
        have w3' : IntKind.i64.wrap ((k : Int) + 1) = (k : Int) + 1 := IntWalk.i64_in _ (by omega)
        obtain ⟨x, hx⟩ : ∃ x, x = intD l k := ⟨_, rfl⟩
        obtain ⟨y, hy⟩ : ∃ y, y = intD m k := ⟨_, rfl⟩
        rw [← hx] at x0; rw [← hy] at y0
        have HX := Lib.hid hx; have HY := Lib.hid hy
        clear hx hy hb hB
        go_wp2_with (fail)
        refine region_ev [] [0, 1, 2, 3, 4, 5, 6, 7, 8] [] [] (by kernel_rfl) (by kernel_rfl) (by intro c a d v w h; cases d <;> exact h) ?_
        simp only [picks, List.drop_succ_cons, List.drop_zero]
        repeat (refine wpQ0_step (fun K hK => ?_); go_simp; (refine hK _ ?_; clear hK K))
        refine wpQ0_nil ?_
        repeat ((with_reducible refine wpQ2_step (fun K hK => ?_)); go_simp; first | ((with_reducible refine hK _ ?_); clear hK K) | (apply Exists.intro; refine ⟨fun x => ?_, hK _ ?_⟩; (fail); clear hK K))
        refine wpQ2_nil ?_
        refine Events.none_ fun w3 hg3 => ?_
        simp only [picks, List.drop_succ_cons, List.drop_zero]
        have hB3 := below_ext HB.out hg3
        clear x0 y0 hg3
        by_cases hq : x = y
        · have hq1 : (x != y) = false := by simp [hq]
          have HQ := Lib.hid hq
          clear hq
          go_wp2_with (fail)
          go_roundw
          case rel => exact ⟨k + 1, by go_num, by omega, hB3, fun j hj => by
            by_cases hjk : j = k
            · rw [hjk, ← HX.out, ← HY.out]; exact HQ.out
            · exact HA.out j (by omega)⟩
          case measure => simp [intOf]; omega
        · have hq1 : (x != y) = true := by simp [hq]
          have hne : l ≠ m := fun he => hq (by rw [HX.out, HY.out, he])
          have HNE := Lib.hid hne
          clear hq hne
          go_wp2_with (fail)
          go_ret
          exact ⟨ret_bool (by rw [decide_eq_false HNE.out]), hB3⟩
      · obtain rfl : k = l.length := by omega
        have r1 : ¬ (l.length : Int) < (l.length : Int) := by omega
        clear hb
        go_wp2_with (fail)
        go_ret
        exact ⟨ret_bool (decide_eq_true (ints_ext HN.out HA.out)).symm, HB.out⟩
  · have hb : ((l.length : Int) != (m.length : Int)) = true := by simp; omega
    have hd : l ≠ m := fun he => hne (by rw [he])
    have HD := Lib.hid hd
    clear hd
    go_enter Tryd.func19, Tryd.ntmps19
    go_wp2_with (fail)
    go_ret
    exact ⟨ret_bool (decide_eq_false HD.out).symm, Below.refl _ _⟩
end Go.Proofs.YtahgbecfaihfpaaDoor
namespace Go.Proofs.YtahgbecfaihfpaaDoor
open Go.RowKit D
set_option linter.unusedVariables false
set_option linter.unusedSimpArgs false
attribute [local go_sem high] run_minI run_maxI
attribute [local go_sem] upon2 cls_cell cls_frozen forall_const exists_eq_left'
attribute [local go_sem] FirstUpon
theorem rows_blk {w : World} {b sz n : Nat} {cs : Array Value} {t : TypeId} {c : Nat → Nat → Value} (h : w.heap[b]? = some (.cells cs t (0, 0))) (hn : n ≤ 9223372036854775807) (hc : ∀ i j, i < n → j < sz → cs[i * sz + j]? = some (c i j)) : RowS w ⟨some ⟨b, 0, none⟩, n⟩ sz n c :=
  ⟨Nat.le_refl _, hn, fun i j hi hj => ⟨b, 0, rfl, by rw [Nat.zero_add, cell_blk h]; exact hc i j hi hj⟩⟩
theorem ints_blk {w : World} {b : Nat} {l : List Int} {t : TypeId} (h : w.heap[b]? = some (.cells (l.map (Value.int .i64)).toArray t (0, 0))) (hn : l.length ≤ 9223372036854775807) : IntsS w ⟨some ⟨b, 0, none⟩, l.length⟩ l :=
  rows_blk h hn fun i j hi hj => by
    obtain rfl : j = 0 := by omega
    simp [intC, intD, List.getD_eq_getElem?_getD, hi]
theorem bp_name {P : Program} {fn : Func} {R : Ending → World → Prop} {e : Exit} {a : Act} {w : World} (h : ∀ w0, w0 = w → bodyPost P fn R e a w0) : bodyPost P fn R e a w := h w rfl
set_option maxRecDepth 100000 in
set_option maxHeartbeats 2000000 in
theorem fontL_any (w : World) : Calls Tryd.prog 42 #[] w fun e w' => (∃ s : FSl, e = .returned (.agg #[.int .i64 exF.high, .int .i64 exF.space, .slice s.g.a exF.glyphs.length s.g.cap, .slice s.k.a exF.kerns.length s.k.cap]) ∧ FontAt w' exF s) ∧ Below w.heap.size w w' := by
  go_enter Tryd.func42, Tryd.ntmps42
  go_wp2_with (fail)
  refine bp_name ?_
  intro w1 h1
  have k0 : w1.heap[w.heap.size]? = some (.cells #[.int .i64 3, .int .i64 2, .slice (some ⟨w.heap.size + 1 + 1 + 1 + 1 + 1 + 1, 0, none⟩) 5 5, .slice (some ⟨w.heap.size + 1 + 1 + 1 + 1 + 1 + 1 + 1, 0, none⟩) 1 1] 25 (0, 0)) := by rw [h1]; repeat' (first | (with_reducible assumption) | (with_reducible refine blk_set_ne ?_ ?_) | (with_reducible exact blk_new _ _) | (with_reducible refine blk_new' _ _ (by first | (with_reducible rfl) | (simp; done) | (simp <;> omega))) | (with_reducible refine blk_alloc ?_ _) | (with_reducible refine blk_drew ?_) | (with_reducible refine blk_drewN ?_ _) | (with_reducible refine Ext2.blk (by assumption) ?_) | omega | (simp <;> omega) | exact blk_set (by assumption) _ _)
  have k1 : w1.heap[w.heap.size + 1]? = some (.cells #[.int .i64 2, .int .i64 5, .int .i64 7] 3 (0, 0)) := by rw [h1]; repeat' (first | (with_reducible assumption) | (with_reducible refine blk_set_ne ?_ ?_) | (with_reducible exact blk_new _ _) | (with_reducible refine blk_new' _ _ (by first | (with_reducible rfl) | (simp; done) | (simp <;> omega))) | (with_reducible refine blk_alloc ?_ _) | (with_reducible refine blk_drew ?_) | (with_reducible refine blk_drewN ?_ _) | (with_reducible refine Ext2.blk (by assumption) ?_) | omega | (simp <;> omega) | exact blk_set (by assumption) _ _)
  have k2 : w1.heap[w.heap.size + 1 + 1]? = some (.cells #[.int .i64 3, .int .i64 2, .int .i64 2] 3 (0, 0)) := by rw [h1]; repeat' (first | (with_reducible assumption) | (with_reducible refine blk_set_ne ?_ ?_) | (with_reducible exact blk_new _ _) | (with_reducible refine blk_new' _ _ (by first | (with_reducible rfl) | (simp; done) | (simp <;> omega))) | (with_reducible refine blk_alloc ?_ _) | (with_reducible refine blk_drew ?_) | (with_reducible refine blk_drewN ?_ _) | (with_reducible refine Ext2.blk (by assumption) ?_) | omega | (simp <;> omega) | exact blk_set (by assumption) _ _)
  have k3 : w1.heap[w.heap.size + 1 + 1 + 1]? = some (.cells #[.int .i64 1, .int .i64 1, .int .i64 1] 3 (0, 0)) := by rw [h1]; repeat' (first | (with_reducible assumption) | (with_reducible refine blk_set_ne ?_ ?_) | (with_reducible exact blk_new _ _) | (with_reducible refine blk_new' _ _ (by first | (with_reducible rfl) | (simp; done) | (simp <;> omega))) | (with_reducible refine blk_alloc ?_ _) | (with_reducible refine blk_drew ?_) | (with_reducible refine blk_drewN ?_ _) | (with_reducible refine Ext2.blk (by assumption) ?_) | omega | (simp <;> omega) | exact blk_set (by assumption) _ _)
  have k4 : w1.heap[w.heap.size + 1 + 1 + 1 + 1]? = some (.cells #[.int .i64 7, .int .i64 5, .int .i64 5] 3 (0, 0)) := by rw [h1]; repeat' (first | (with_reducible assumption) | (with_reducible refine blk_set_ne ?_ ?_) | (with_reducible exact blk_new _ _) | (with_reducible refine blk_new' _ _ (by first | (with_reducible rfl) | (simp; done) | (simp <;> omega))) | (with_reducible refine blk_alloc ?_ _) | (with_reducible refine blk_drew ?_) | (with_reducible refine blk_drewN ?_ _) | (with_reducible refine Ext2.blk (by assumption) ?_) | omega | (simp <;> omega) | exact blk_set (by assumption) _ _)
  have k5 : w1.heap[w.heap.size + 1 + 1 + 1 + 1 + 1]? = some (.cells #[.int .i64 6, .int .i64 5, .int .i64 5] 3 (0, 0)) := by rw [h1]; repeat' (first | (with_reducible assumption) | (with_reducible refine blk_set_ne ?_ ?_) | (with_reducible exact blk_new _ _) | (with_reducible refine blk_new' _ _ (by first | (with_reducible rfl) | (simp; done) | (simp <;> omega))) | (with_reducible refine blk_alloc ?_ _) | (with_reducible refine blk_drew ?_) | (with_reducible refine blk_drewN ?_ _) | (with_reducible refine Ext2.blk (by assumption) ?_) | omega | (simp <;> omega) | exact blk_set (by assumption) _ _)
  have k6 : w1.heap[w.heap.size + 1 + 1 + 1 + 1 + 1 + 1]? = some (.cells #[.string ⟨#[97]⟩, .int .i64 3, .slice (some ⟨w.heap.size + 1, 0, none⟩) 3 3, .string ⟨#[102]⟩, .int .i64 2, .slice (some ⟨w.heap.size + 1 + 1, 0, none⟩) 3 3, .string ⟨#[105]⟩, .int .i64 1, .slice (some ⟨w.heap.size + 1 + 1 + 1, 0, none⟩) 3 3, .string ⟨#[102, 105]⟩, .int .i64 3, .slice (some ⟨w.heap.size + 1 + 1 + 1 + 1, 0, none⟩) 3 3, .string ⟨#[110]⟩, .int .i64 3, .slice (some ⟨w.heap.size + 1 + 1 + 1 + 1 + 1, 0, none⟩) 3 3] 41 (0, 0)) := by rw [h1]; repeat' (first | (with_reducible assumption) | (with_reducible refine blk_set_ne ?_ ?_) | (with_reducible exact blk_new _ _) | (with_reducible refine blk_new' _ _ (by first | (with_reducible rfl) | (simp; done) | (simp <;> omega))) | (with_reducible refine blk_alloc ?_ _) | (with_reducible refine blk_drew ?_) | (with_reducible refine blk_drewN ?_ _) | (with_reducible refine Ext2.blk (by assumption) ?_) | omega | (simp <;> omega) | exact blk_set (by assumption) _ _)
  have k7 : w1.heap[w.heap.size + 1 + 1 + 1 + 1 + 1 + 1 + 1]? = some (.cells #[.int .i64 1, .int .i64 0, .int .i64 (-1)] 62 (0, 0)) := by rw [h1]; repeat' (first | (with_reducible assumption) | (with_reducible refine blk_set_ne ?_ ?_) | (with_reducible exact blk_new _ _) | (with_reducible refine blk_new' _ _ (by first | (with_reducible rfl) | (simp; done) | (simp <;> omega))) | (with_reducible refine blk_alloc ?_ _) | (with_reducible refine blk_drew ?_) | (with_reducible refine blk_drewN ?_ _) | (with_reducible refine Ext2.blk (by assumption) ?_) | omega | (simp <;> omega) | exact blk_set (by assumption) _ _)
  have hB : Below w.heap.size w w1 := by rw [h1]; repeat' (first | exact Below.refl _ _ | assumption | refine below_drewN ?_ _ | refine Below.drew ?_ | refine Below.alloc ?_ (by first | assumption | omega | (simp <;> omega)) _ | refine Below.setCell ?_ (by first | assumption | omega | (simp <;> omega)) _ | refine Ext2.on (by assumption) ?_)
  clear h1
  have hF : FontAt w1 exF ⟨⟨some ⟨w.heap.size + 1 + 1 + 1 + 1 + 1 + 1, 0, none⟩, 5⟩, fun i => ⟨some ⟨w.heap.size + 1 + i, 0, none⟩, 3⟩, ⟨some ⟨w.heap.size + 1 + 1 + 1 + 1 + 1 + 1 + 1, 0, none⟩, 1⟩⟩ := by
    refine ⟨⟨rows_blk k6 (by decide) ?_, ?_, ?_⟩, rows_blk k7 (by decide) ?_⟩
    · intro i j hi hj
      rcases (show i = 0 ∨ i = 1 ∨ i = 2 ∨ i = 3 ∨ i = 4 by have : i < 5 := hi; omega) with rfl | rfl | rfl | rfl | rfl <;> rcases (by omega : j = 0 ∨ j = 1 ∨ j = 2) with rfl | rfl | rfl <;> rfl
    · intro i hi
      rcases (show i = 0 ∨ i = 1 ∨ i = 2 ∨ i = 3 ∨ i = 4 by have : i < 5 := hi; omega) with rfl | rfl | rfl | rfl | rfl
      · exact ints_blk (l := [2, 5, 7]) k1 (by decide)
      · exact ints_blk (l := [3, 2, 2]) k2 (by decide)
      · exact ints_blk (l := [1, 1, 1]) k3 (by decide)
      · exact ints_blk (l := [7, 5, 5]) k4 (by decide)
      · exact ints_blk (l := [6, 5, 5]) k5 (by decide)
    · intro i hi
      rcases (show i = 0 ∨ i = 1 ∨ i = 2 ∨ i = 3 ∨ i = 4 by have : i < 5 := hi; omega) with rfl | rfl | rfl | rfl | rfl <;> decide
    · intro i j hi hj
      obtain rfl : i = 0 := by have : i < 1 := hi; omega
      rcases (by omega : j = 0 ∨ j = 1 ∨ j = 2) with rfl | rfl | rfl <;> rfl
  refine bodyPost_ret (v := .agg #[.int .i64 3, .int .i64 2, .slice (some ⟨w.heap.size + 1 + 1 + 1 + 1 + 1 + 1, 0, none⟩) 5 5, .slice (some ⟨w.heap.size + 1 + 1 + 1 + 1 + 1 + 1 + 1, 0, none⟩) 1 1]) ?_ rfl ⟨⟨_, rfl, hF⟩, hB⟩
  have zc := cell_blk k0
  have zf := frz_blk k0
  simp [results, Tryd.results42, go_sem, zc]
set_option maxRecDepth 100000 in
set_option maxHeartbeats 2000000 in
theorem ruleL_any (w : World) : Calls Tryd.prog 43 #[] w fun e w' => e = .returned (.agg #[.int .i64 exR.measure, .int .i64 exR.lines, .int .i64 exR.lead, .int .i64 exR.short, .int .i64 exR.extra, .int .i64 exR.ink]) ∧ Below w.heap.size w w' := by
  go_enter Tryd.func43, Tryd.ntmps43
  go_wp2_with (fail)
  refine bp_name ?_
  intro w1 h1
  have k0 : w1.heap[w.heap.size]? = some (.cells #[.int .i64 12, .int .i64 2, .int .i64 1, .int .i64 1, .int .i64 10, .int .i64 200] 34 (0, 0)) := by rw [h1]; repeat' (first | (with_reducible assumption) | (with_reducible refine blk_set_ne ?_ ?_) | (with_reducible exact blk_new _ _) | (with_reducible refine blk_new' _ _ (by first | (with_reducible rfl) | (simp; done) | (simp <;> omega))) | (with_reducible refine blk_alloc ?_ _) | (with_reducible refine blk_drew ?_) | (with_reducible refine blk_drewN ?_ _) | (with_reducible refine Ext2.blk (by assumption) ?_) | omega | (simp <;> omega) | exact blk_set (by assumption) _ _)
  have hB : Below w.heap.size w w1 := by rw [h1]; repeat' (first | exact Below.refl _ _ | assumption | refine below_drewN ?_ _ | refine Below.drew ?_ | refine Below.alloc ?_ (by first | assumption | omega | (simp <;> omega)) _ | refine Below.setCell ?_ (by first | assumption | omega | (simp <;> omega)) _ | refine Ext2.on (by assumption) ?_)
  clear h1
  refine bodyPost_ret (v := .agg #[.int .i64 12, .int .i64 2, .int .i64 1, .int .i64 1, .int .i64 10, .int .i64 200]) ?_ rfl ⟨rfl, hB⟩
  have zc := cell_blk k0
  have zf := frz_blk k0
  simp [results, Tryd.results43, go_sem, zc]
set_option maxRecDepth 100000 in
set_option maxHeartbeats 2000000 in
theorem textL_any (w : World) : Calls Tryd.prog 44 #[] w fun e w' => e = .returned (.string exT) ∧ Below w.heap.size w w' := by
  go_enter Tryd.func44, Tryd.ntmps44
  go_wp2_with (fail)
  go_ret
  exact ⟨rfl, Below.refl _ _⟩
def exPS : ByteArray := ⟨(exP.map UInt8.ofNat).toArray⟩
set_option maxRecDepth 100000 in
set_option maxHeartbeats 2000000 in
theorem pageL_any (w : World) : Calls Tryd.prog 75 #[] w fun e w' => e = .returned (.string exPS) ∧ w' = w := by
  go_enter Tryd.func75, Tryd.ntmps75
  go_wp2_with (fail)
  go_ret
  exact ⟨by kernel_rfl, rfl⟩
end Go.Proofs.YtahgbecfaihfpaaDoor
namespace Go.Proofs.YtahgbecfaihfpaaDoor
open Go.RowKit D
set_option linter.unusedVariables false
set_option linter.unusedSimpArgs false
attribute [local go_sem high] run_minI run_maxI
attribute [local go_sem] upon2 cls_cell cls_frozen forall_const exists_eq_left'
attribute [local go_sem] FirstUpon
theorem exPS_size : exPS.size = 84 := by kernel_rfl
theorem exPS_at {k : Nat} (h : k < exPS.size) : (exPS[k]'h).toNat = exP.getD k 0 := by
  have h1 : (List.range 84).all (fun k => decide ((exPS.get! k).toNat = exP.getD k 0)) = true := by kernel_rfl
  have h2 := List.all_eq_true.1 h1 k (List.mem_range.2 (by rw [← exPS_size]; exact h))
  have h3 := of_decide_eq_true h2
  rw [← h3]
  show _ = (exPS.get! k).toNat
  simp [ByteArray.get!, getElem!_pos, h]
  rfl
theorem page_b (W : World) : Calls Tryd.prog 75 #[] W fun e w' => e = .returned (.string exPS) ∧ Below W.heap.size W w' := (pageL_any W).mono fun e w' ⟨he, hw⟩ => ⟨he, by rw [hw]; exact Below.refl _ _⟩
def exC (pb _i j : Nat) : Value :=
  match j with
  | 0 => .int .i64 12
  | 1 => .int .i64 7
  | _ => .slice (some ⟨pb, 0, none⟩) 84 84
set_option maxRecDepth 100000 in
set_option maxHeartbeats 2000000 in
theorem drawn_any {sl : Sl} {pb : Nat} {L : List Nat} {w : World} (hr : RowS w sl 3 1 (exC pb)) (hp : PixAt w pb 84 200 L) (hL : ∀ j, j < 84 → decide (j ∈ L) = decide (exP.getD j 0 = 35)) :
    Calls Tryd.prog 53 #[.slice sl.a 1 sl.cap] w fun e w' => e = .returned (.bool true) ∧ Below w.heap.size w w' := by
  obtain ⟨b, off, ha, hrow⟩ := hr.row (by omega) (by omega)
  have hc := hr.le; have hm := hr.max
  obtain ⟨a, cap⟩ := sl
  dsimp only at ha hc hm
  subst ha
  obtain ⟨c0, c1, c2⟩ := hrow.three (i := 0) (by omega)
  simp only [exC, Nat.zero_mul, Nat.add_zero] at c0 c1 c2
  have hps := exPS_size
  have HR := Lib.hid hrow; have HP := Lib.hid hp; have HL := Lib.hid hL
  have HPG : Hid (∀ W, Calls Tryd.prog 75 #[] W fun e w' => e = .returned (.string exPS) ∧ Below W.heap.size W w') := Lib.hid page_b
  clear hrow hp hL hr
  go_enter Tryd.func53, Tryd.ntmps53
  go_wp2_with (fail)
  refine region_st [⟨[], [0, 1, 2, 3, 4, 5, 6, 7, 8, 9, 10, 11, 12, 13, 14, 15, 16, 17, 18, 19, 20, 21, 22, 23, 24, 25, 26], []⟩] (by kernel_rfl) (by kernel_rfl) (by intro c a d v w h; cases d <;> exact h) ?_
  refine wpSt_cons ?_
  simp only [picks, List.drop_succ_cons, List.drop_zero]
  repeat ((with_reducible refine wpQ0_step (fun K hK => ?_)); go_simp; ((with_reducible refine hK _ ?_); clear hK K))
  refine wpQ0_nil ?_
  repeat ((with_reducible refine wpQ2_step (fun K hK => ?_)); go_simp; first | ((with_reducible refine hK _ ?_); clear hK K) | (apply Exists.intro; refine ⟨fun x => ?_, hK _ ?_⟩; ((with_reducible exact HPG.out x.1)); clear hK K))
  refine wpQ2_nil ?_
  intro w9 hw9
  refine wpTl_nil ?_
  refine wpSt_nil ?_
  have HX := Lib.hid hw9
  have hB9 : Below w.heap.size w w9 := hw9
  clear c0 c1 c2 hw9
  go_wp2_with (fail)
  go_loopw [3] (fun i wr => ∃ k : Nat, i = .int .i64 k ∧ k ≤ 84 ∧ Below w.heap.size w wr) (fun i _ => 84 - (intOf i).toNat)
  case atStart => exact ⟨0, rfl, by omega, hB9⟩
  case round =>
    obtain ⟨k, rfl, hk, hB⟩ := hrel
    have HB := Lib.hid hB
    by_cases hlt : k < 84
    · go_light
      obtain ⟨c0, c1, c2⟩ := (HR.out.below hB).three (i := 0) (by omega)
      simp only [exC, Nat.zero_mul, Nat.add_zero] at c0 c1 c2
      obtain ⟨c, hcb, hcs, hcv⟩ := HP.out
      have x0 : wr.heap[pb]? = some (.cells c 5 (0, 0)) := below_blk hB hcb (blk_lt hcb)
      have v0 := hcv k hlt
      have hks : k < exPS.size := by rw [exPS_size]; exact hlt
      have hat := exPS_at hks
      obtain ⟨ch, hch⟩ : ∃ ch, ch = (exPS[k]'hks).toNat := ⟨_, rfl⟩
      rw [← hch] at hat
      have hv : (if k ∈ L then (200 : Int) else 0) = if ch = 35 then 200 else 0 := by
        have := HL.out k hlt
        rw [← hat] at this
        by_cases h : ch = 35
        · rw [decide_eq_true h] at this
          rw [if_pos h, if_pos (of_decide_eq_true this)]
        · rw [decide_eq_false h] at this
          rw [if_neg h, if_neg (of_decide_eq_false this)]
      rw [hv] at v0
      have i0 : (0 : Int) ≤ (k : Int) := by omega
      have i1 : (k : Int) < 84 := by omega
      have w3' : IntKind.i64.wrap ((k : Int) + 1) = (k : Int) + 1 := IntWalk.i64_in _ (by omega)
      have hch2 := hch.symm
      have hcl : ch < 256 := by rw [hch]; exact UInt8.toNat_lt _
      have v1 : wr.cell? ⟨pb, k, none⟩ = some (.int .u8 (if ch = 35 then 200 else 0)) := (cell_blk x0 k).trans v0
      clear hv hat hch x0 v0 hcb hcs hcv hB
      by_cases h35 : ch = 35
      · subst h35
        rw [if_pos rfl] at v1
        go_wp2_with (go_at_call 75; (with_reducible refine (pageL_any _).mono ?_); rintro e w' ⟨rfl, rfl⟩)
        exact ⟨⟨k + 1, congrArg (Value.int .i64) (by omega), by omega, HB.out⟩, by simp only [intOf]; omega⟩
      · rw [if_neg h35] at v1
        have hne : ((ch : Int) == 35) = false := by simp; omega
        go_wp2_with (go_at_call 75; (with_reducible refine (pageL_any _).mono ?_); rintro e w' ⟨rfl, rfl⟩)
        exact ⟨⟨k + 1, congrArg (Value.int .i64) (by omega), by omega, HB.out⟩, by simp only [intOf]; omega⟩
    · obtain rfl : k = 84 := by omega
      have r1 : ¬ (84 : Int) < 84 := by omega
      go_wp2_with (go_at_call 75; (with_reducible refine (pageL_any _).mono ?_); rintro e w' ⟨rfl, rfl⟩)
      go_ret
      exact ⟨rfl, HB.out⟩
end Go.Proofs.YtahgbecfaihfpaaDoor
namespace Go.Proofs.YtahgbecfaihfpaaDoor
open Go.RowKit D
set_option linter.unusedVariables false
set_option linter.unusedSimpArgs false
attribute [local go_sem high] run_minI run_maxI
attribute [local go_sem] upon2 cls_cell cls_frozen forall_const exists_eq_left'
attribute [local go_sem] FirstUpon
/-- The calls of the examples. -/
theorem exSetC {w : World} {s : FSl} (hF : FontAt w exF s) : Calls Tryd.prog 17 #[.agg #[.int .i64 exF.high, .int .i64 exF.space, .slice s.g.a exF.glyphs.length s.g.cap, .slice s.k.a exF.kerns.length s.k.cap], .string ⟨#[102, 97, 110]⟩] w fun e w' => (∃ gs : Sl, e = .returned (.tuple #[.slice gs.a 3 gs.cap, .int .i64 7, .int .i64 0]) ∧ IntsS w' gs [1, 0, 4]) ∧ Below w.heap.size w w' := by
  have h := setApi_any (t := exFan) hF
  refine h.mono ?_
  rintro e w' ⟨⟨gv, wd, rfl, hv⟩, hb⟩
  unfold SetVal at hv
  rw [exSetE] at hv ⊢
  rw [if_pos rfl, exSet] at hv
  obtain ⟨l, hl, rfl, gs, rfl, hi⟩ := hv
  obtain rfl := Option.some.inj hl
  exact ⟨⟨gs, rfl, hi.1⟩, hb⟩
theorem exRestC {w : World} {s : FSl} (hF : FontAt w exF s) (hm : MaxAt w) : Calls Tryd.prog 25 #[.agg #[.int .i64 exF.high, .int .i64 exF.space, .slice s.g.a exF.glyphs.length s.g.cap, .slice s.k.a exF.kerns.length s.k.cap], .agg #[.int .i64 exR.measure, .int .i64 exR.lines, .int .i64 exR.lead, .int .i64 exR.short, .int .i64 exR.extra, .int .i64 exR.ink], .string exT] w fun e w' => (∃ gs : Sl, e = .returned (.tuple #[.slice gs.a 5 gs.cap, .int .i64 0]) ∧ IntsS w' gs [0, 25, 0, 0, 0]) ∧ Below w.heap.size w w' := by
  refine (rest_any hF hm).mono ?_
  rintro e w' ⟨⟨v, rfl, hv⟩, hb⟩
  rw [exOpen] at hv ⊢
  rw [if_pos rfl, exRest] at hv
  obtain ⟨sl, rfl, hi⟩ := hv
  exact ⟨⟨sl, rfl, hi.1⟩, hb⟩
theorem exJ1C {w : World} {s : FSl} {b : Nat} (hF : FontAt w exF s) (hm : MaxAt w) (hE : w.heap[b]? = some (.cells #[.int .i64 1, .int .i64 2, .int .i64 4] 3 (0, 0))) : Calls Tryd.prog 21 #[.agg #[.int .i64 exF.high, .int .i64 exF.space, .slice s.g.a exF.glyphs.length s.g.cap, .slice s.k.a exF.kerns.length s.k.cap], .agg #[.int .i64 exR.measure, .int .i64 exR.lines, .int .i64 exR.lead, .int .i64 exR.short, .int .i64 exR.extra, .int .i64 exR.ink], .string exT, .slice (some ⟨b, 0, none⟩) 3 3] w fun e w' => e = .returned (.tuple #[.int .i64 116, .int .i64 0]) ∧ Below w.heap.size w w' := by
  have h := judge_any (R := exR) (t := exT) hF hm (ints_blk (l := [1, 2, 4]) hE (by decide))
  rw [exJ1] at h
  exact h
theorem exJ2C {w : World} {s : FSl} {b : Nat} (hF : FontAt w exF s) (hm : MaxAt w) (hE : w.heap[b]? = some (.cells #[.int .i64 3, .int .i64 4] 3 (0, 0))) : Calls Tryd.prog 21 #[.agg #[.int .i64 exF.high, .int .i64 exF.space, .slice s.g.a exF.glyphs.length s.g.cap, .slice s.k.a exF.kerns.length s.k.cap], .agg #[.int .i64 exR.measure, .int .i64 exR.lines, .int .i64 exR.lead, .int .i64 exR.short, .int .i64 exR.extra, .int .i64 exR.ink], .string exT, .slice (some ⟨b, 0, none⟩) 2 2] w fun e w' => e = .returned (.tuple #[.int .i64 0, .int .i64 202]) ∧ Below w.heap.size w w' := by
  have h := judge_any (R := exR) (t := exT) hF hm (ints_blk (l := [3, 4]) hE (by decide))
  rw [exJ2] at h
  exact h
/-- The page of the examples. -/
def ExPage (w : World) (sl : Sl) : Prop := ∃ (pb : Nat) (L : List Nat), RowS w sl 3 1 (exC pb) ∧ PixAt w pb 84 200 L ∧ ∀ j, j < 84 → decide (j ∈ L) = decide (exP.getD j 0 = 35)
theorem exPagesC {w : World} {s : FSl} (hF : FontAt w exF s) (hm : MaxAt w) : Calls Tryd.prog 28 #[.agg #[.int .i64 exF.high, .int .i64 exF.space, .slice s.g.a exF.glyphs.length s.g.cap, .slice s.k.a exF.kerns.length s.k.cap], .agg #[.int .i64 exR.measure, .int .i64 exR.lines, .int .i64 exR.lead, .int .i64 exR.short, .int .i64 exR.extra, .int .i64 exR.ink], .string exT] w fun e w' => (∃ sl : Sl, e = .returned (.tuple #[.slice sl.a 1 sl.cap, .int .i64 0]) ∧ ExPage w' sl) ∧ Below w.heap.size w w' := by
  refine (pages_any hF hm).mono ?_
  rintro e w' ⟨⟨v, rfl, hv⟩, hb⟩
  rw [exOpen] at hv ⊢
  rw [if_pos rfl] at hv
  obtain ⟨sl, pb, rfl, hr, hp⟩ := hv
  rw [exN] at hr hp ⊢
  refine ⟨⟨sl, rfl, pb 0, _, ⟨hr.le, hr.max, fun i j hi hj => ?_⟩, by have := hp 0 (by omega); rw [exPix] at this; exact this, exPg⟩, hb⟩
  obtain ⟨b, off, ha, hc⟩ := hr.cell i j hi hj
  refine ⟨b, off, ha, hc.trans ?_⟩
  obtain rfl : i = 0 := by omega
  rcases (by omega : j = 0 ∨ j = 1 ∨ j = 2) with rfl | rfl | rfl
  · rfl
  · show some (Value.int .i64 (rowsV exF exR)) = _; rw [exRows]; rfl
  · show some (Value.slice _ (pixN exF exR) (pixN exF exR)) = _; rw [exPix]; rfl
set_option maxRecDepth 100000 in
set_option maxHeartbeats 2000000 in
theorem awake_any {w : World} (hm : MaxAt w) : Calls Tryd.prog 20 #[] w fun e w' => e = .returned (.bool true) ∧ Below w.heap.size w w' := by
  have HM := Lib.hid hm
  clear hm
  go_enter Tryd.func20, Tryd.ntmps20
  go_wp2_with (fail)
  refine (fontL_any _).mono ?_
  rintro e w1 ⟨⟨s1, rfl, hf1⟩, hb1⟩
  have HC := Lib.hid (exSetC hf1)
  have HB1 := Lib.hid hb1
  clear hf1 hb1
  go_wp2_with (fail)
  refine HC.out.mono ?_
  rintro e w2 ⟨⟨g1, rfl, hi1⟩, hb2⟩
  have HB2 := Lib.hid (below_ext HB1.out hb2)
  have HI1 := Lib.hid hi1
  clear HC HB1 hb2 hi1
  go_wp2_with (fail)
  refine (fontL_any _).mono ?_
  rintro e w3 ⟨⟨s2, rfl, hf2⟩, hb3⟩
  go_wp2_with (fail)
  refine (ruleL_any _).mono ?_
  rintro e w4 ⟨rfl, hb4⟩
  go_wp2_with (fail)
  refine (textL_any _).mono ?_
  rintro e w5 ⟨rfl, hb5⟩
  have hE5 : Ext2 w2 w5 := ext_trans hb3 (ext_trans hb4 hb5)
  have HC := Lib.hid (exRestC (hf2.below (ext_trans hb4 hb5)) (HM.out.below (below_ext HB2.out hE5)))
  clear hf2 hb3 hb4 hb5
  go_wp2_with (fail)
  refine HC.out.mono ?_
  rintro e w6 ⟨⟨g2, rfl, hi2⟩, hb6⟩
  have hE6 : Ext2 w2 w6 := ext_trans hE5 hb6
  have HI1 := Lib.hid (RowS.below HI1.out hE6)
  have HI2 := Lib.hid hi2
  have HB6 := Lib.hid (below_ext HB2.out hE6)
  clear HC hE5 hb6 hi2 hE6 HB2
  go_wp2_with (fail)
  refine (fontL_any _).mono ?_
  rintro e w7 ⟨⟨s3, rfl, hf3⟩, hb7⟩
  go_wp2_with (fail)
  refine (ruleL_any _).mono ?_
  rintro e w8 ⟨rfl, hb8⟩
  go_wp2_with (fail)
  refine (textL_any _).mono ?_
  rintro e w9 ⟨rfl, hb9⟩
  have hE9 : Ext2 w6 w9 := ext_trans hb7 (ext_trans hb8 hb9)
  have hf9 := hf3.below (ext_trans hb8 hb9)
  have HE9 := Lib.hid hE9; have HF9 := Lib.hid hf9
  clear hf3 hf9 hE9 hb7 hb8 hb9
  go_wp2_with (fail)
  refine calls_name ?_
  intro w10 h10
  have hA : Ext2 w9 w10 := by rw [h10]; exact below_alloc' _ _
  have n10 : w10.heap[w9.heap.size]? = some (.cells #[.int .i64 1, .int .i64 2, .int .i64 4] 3 (0, 0)) := by rw [h10]; exact blk_new _ _
  have hE10 := ext_trans HE9.out hA
  refine (exJ1C (HF9.out.below hA) (HM.out.below (below_ext HB6.out hE10)) n10).mono ?_
  rintro e w11 ⟨rfl, hb11⟩
  have hE11 := ext_trans hE10 hb11
  have HI1 := Lib.hid (RowS.below HI1.out hE11); have HI2 := Lib.hid (RowS.below HI2.out hE11)
  have HB11 := Lib.hid (below_ext HB6.out hE11)
  clear h10 hA n10 hE10 hb11 hE11 HE9 HF9 HB6
  go_wp2_with (fail)
  refine (fontL_any _).mono ?_
  rintro e w12 ⟨⟨s4, rfl, hf4⟩, hb12⟩
  go_wp2_with (fail)
  refine (ruleL_any _).mono ?_
  rintro e w13 ⟨rfl, hb13⟩
  go_wp2_with (fail)
  refine (textL_any _).mono ?_
  rintro e w14 ⟨rfl, hb14⟩
  have hE14 : Ext2 w11 w14 := ext_trans hb12 (ext_trans hb13 hb14)
  have hf14 := hf4.below (ext_trans hb13 hb14)
  have HE14 := Lib.hid hE14; have HF14 := Lib.hid hf14
  clear hf4 hf14 hE14 hb12 hb13 hb14
  go_wp2_with (fail)
  refine calls_name ?_
  intro w15 h15
  have hA : Ext2 w14 w15 := by rw [h15]; exact below_alloc' _ _
  have n15 : w15.heap[w14.heap.size]? = some (.cells #[.int .i64 3, .int .i64 4] 3 (0, 0)) := by rw [h15]; exact blk_new _ _
  have hE15 := ext_trans HE14.out hA
  refine (exJ2C (HF14.out.below hA) (HM.out.below (below_ext HB11.out hE15)) n15).mono ?_
  rintro e w16 ⟨rfl, hb16⟩
  have hE16 := ext_trans hE15 hb16
  have HI1 := Lib.hid (RowS.below HI1.out hE16); have HI2 := Lib.hid (RowS.below HI2.out hE16)
  have HB16 := Lib.hid (below_ext HB11.out hE16)
  clear h15 hA n15 hE15 hb16 hE16 HE14 HF14 HB11
  go_wp2_with (fail)
  refine (fontL_any _).mono ?_
  rintro e w17 ⟨⟨s5, rfl, hf5⟩, hb17⟩
  go_wp2_with (fail)
  refine (ruleL_any _).mono ?_
  rintro e w18 ⟨rfl, hb18⟩
  go_wp2_with (fail)
  refine (textL_any _).mono ?_
  rintro e w19 ⟨rfl, hb19⟩
  have hE19 : Ext2 w16 w19 := ext_trans hb17 (ext_trans hb18 hb19)
  have HC := Lib.hid (exPagesC (hf5.below (ext_trans hb18 hb19)) (HM.out.below (below_ext HB16.out hE19)))
  clear hf5 hb17 hb18 hb19
  go_wp2_with (fail)
  refine HC.out.mono ?_
  rintro e w20 ⟨⟨pg, rfl, hpg⟩, hb20⟩
  have hE20 := ext_trans hE19 hb20
  have HI1 := Lib.hid (RowS.below HI1.out hE20); have HI2 := Lib.hid (RowS.below HI2.out hE20)
  have HB20 := Lib.hid (below_ext HB16.out hE20)
  have HPG := Lib.hid hpg
  clear HC hE19 hb20 hE20 HB16 hpg
  go_wp2_with (fail)
  refine calls_name ?_
  intro w21 h21
  have hA : Ext2 w20 w21 := by rw [h21]; exact below_alloc' _ _
  have n21 : w21.heap[w20.heap.size]? = some (.cells #[.int .i64 1, .int .i64 0, .int .i64 4] 3 (0, 0)) := by rw [h21]; exact blk_new _ _
  have h := intsR_any (RowS.below HI1.out hA) (ints_blk (l := [1, 0, 4]) n21 (by decide))
  refine h.mono ?_
  clear h
  rintro e w22 ⟨rfl, hb22⟩
  have HE22 := Lib.hid (ext_trans hA hb22)
  clear h21 hA n21 hb22
  rw [decide_eq_true rfl]
  go_wp2_with (fail)
  refine calls_name ?_
  intro w23 h23
  have hA : Ext2 w22 w23 := by rw [h23]; exact below_alloc' _ _
  have n23 : w23.heap[w22.heap.size]? = some (.cells #[.int .i64 0, .int .i64 25, .int .i64 0, .int .i64 0, .int .i64 0] 3 (0, 0)) := by rw [h23]; exact blk_new _ _
  have h := intsR_any (RowS.below HI2.out (ext_trans HE22.out hA)) (ints_blk (l := [0, 25, 0, 0, 0]) n23 (by decide))
  refine h.mono ?_
  clear h
  rintro e w24 ⟨rfl, hb24⟩
  have HE24 := Lib.hid (ext_trans HE22.out (ext_trans hA hb24))
  clear h23 hA n23 hb24 HE22
  rw [decide_eq_true rfl]
  go_wp2_with (fail)
  obtain ⟨pb, L, hp1, hp2, hp3⟩ := HPG.out
  have h := drawn_any (RowS.below hp1 HE24.out) (hp2.same (HE24.out.block _ (by obtain ⟨c, hc, -⟩ := hp2; exact blk_lt hc))) hp3
  refine h.mono ?_
  clear h
  rintro e w25 ⟨rfl, hb25⟩
  have hB25 := below_ext HB20.out (ext_trans HE24.out hb25)
  clear hb25 hp1 hp2 hp3
  go_wp2_with (fail)
  go_ret
  exact ⟨rfl, hB25⟩
end Go.Proofs.YtahgbecfaihfpaaDoor
