/-
  The examples of the document, plain.
  The law's examples: Rule, Day, Task.
-/
import Derived.Test.YtfjbgcaogffiaaaDKnowA
import Derived.Test.YtfjbgcaogffiaaaDRefLev
import Derived.Test.YtfjbgcaogffiaaaDLaw1
namespace Go.Proofs.Ytfjbgcaogffiaaa.D
def exR : Rule := ⟨[⟨100, 100⟩, ⟨300, 500⟩, ⟨400, 1000⟩], [⟨200, 200⟩, ⟨600, 1000⟩], 50, 10000, 1000, 5000, 20000, 1030⟩
def exD : Day := ⟨200, 250, 400, 500⟩
def exT (l : List Test) : Task := ⟨exR, 100, [exD, exD, exD], ⟨900, 1000⟩, l⟩
theorem exR_ok : check exR = (0, 0, 0) := by kernel_rfl
theorem ex1 : levelsRes (exT [⟨101, 0, 0⟩]) = [⟨900, 989⟩, ⟨910, 999⟩, ⟨920, 1019⟩, ⟨930, 1039⟩] := by kernel_rfl
theorem ex1s : struckRes (exT [⟨101, 0, 0⟩]) = [] := by kernel_rfl
theorem ex1e : (checkTask (exT [⟨101, 0, 0⟩])).2.2 = 0 := by kernel_rfl
theorem ex2s : struckRes (exT [⟨101, 0, 0⟩, ⟨102, 3, 1⟩]) = [⟨1, 0⟩] := by kernel_rfl
theorem ex2l : (levelsRes (exT [⟨101, 0, 0⟩, ⟨102, 3, 1⟩])).length = 4 := by kernel_rfl
theorem ex2e : (checkTask (exT [⟨101, 0, 0⟩, ⟨102, 3, 1⟩])).2.2 = 0 := by kernel_rfl
theorem ex3 : lostT (exT []) = ⟨102, -1⟩ := by kernel_rfl
theorem ex3e : (checkTask (exT [])).2.2 = 0 := by kernel_rfl
end Go.Proofs.Ytfjbgcaogffiaaa.D
namespace Go.Proofs.Ytfjbgcaogffiaaa
open Go.RowKit D
set_option linter.unusedVariables false
set_option linter.unusedSimpArgs false
attribute [local go_sem high] run_minI run_maxI
attribute [local go_sem] upon2 cls_cell cls_frozen forall_const exists_eq_left'
theorem rows_blk {w : World} {b sz n : Nat} {cs : Array Value} {t : TypeId} {c : Nat → Nat → Value} (h : w.heap[b]? = some (.cells cs t (0, 0))) (hn : n ≤ 9223372036854775807) (hc : ∀ i j, i < n → j < sz → cs[i * sz + j]? = some (c i j)) : RowS w ⟨some ⟨b, 0, none⟩, n⟩ sz n c :=
  ⟨Nat.le_refl _, hn, fun i j hi hj => ⟨b, 0, rfl, by rw [Nat.zero_add, cell_blk h]; exact hc i j hi hj⟩⟩
theorem bp_name {P : Program} {fn : Func} {R : Ending → World → Prop} {e : Exit} {a : Act} {w : World} (h : ∀ w0, w0 = w → bodyPost P fn R e a w0) : bodyPost P fn R e a w := h w rfl
def exB1 : Obj := .cells #[.int .i64 100, .int .i64 100, .int .i64 300, .int .i64 500, .int .i64 400, .int .i64 1000] 120 (0, 0)
def exB2 : Obj := .cells #[.int .i64 200, .int .i64 200, .int .i64 600, .int .i64 1000] 120 (0, 0)
def exB3 : Obj := .cells #[.int .i64 200, .int .i64 250, .int .i64 400, .int .i64 500, .int .i64 200, .int .i64 250, .int .i64 400, .int .i64 500, .int .i64 200, .int .i64 250, .int .i64 400, .int .i64 500] 48 (0, 0)
theorem exR_at {w : World} {b1 b2 : Nat} (h1 : w.heap[b1]? = some exB1) (h2 : w.heap[b2]? = some exB2) : RuleAt w exR ⟨some ⟨b1, 0, none⟩, 3⟩ ⟨some ⟨b2, 0, none⟩, 2⟩ := by
  refine ⟨rows_blk h1 (by omega) ?_, rows_blk h2 (by omega) ?_⟩
  · intro i j hi hj
    rcases (show i = 0 ∨ i = 1 ∨ i = 2 by have : i < 3 := hi; omega) with rfl | rfl | rfl <;> rcases (by omega : j = 0 ∨ j = 1) with rfl | rfl <;> rfl
  · intro i j hi hj
    rcases (show i = 0 ∨ i = 1 by have : i < 2 := hi; omega) with rfl | rfl <;> rcases (by omega : j = 0 ∨ j = 1) with rfl | rfl <;> rfl
theorem exD_at {w : World} {b3 : Nat} (h : w.heap[b3]? = some exB3) : DaysS w ⟨some ⟨b3, 0, none⟩, 3⟩ [exD, exD, exD] := by
  refine rows_blk h (by omega) ?_
  intro i j hi hj
  rcases (show i = 0 ∨ i = 1 ∨ i = 2 by have : i < 3 := hi; omega) with rfl | rfl | rfl <;> rcases (by omega : j = 0 ∨ j = 1 ∨ j = 2 ∨ j = 3) with rfl | rfl | rfl | rfl <;> rfl
set_option maxRecDepth 100000 in
set_option maxHeartbeats 2000000 in
theorem ruleL_any (w : World) : Calls Try.prog 47 #[] w fun e w' => (∃ b1 b2 : Nat, e = .returned (.agg #[.slice (some ⟨b1, 0, none⟩) 3 3, .slice (some ⟨b2, 0, none⟩) 2 2, .int .i64 50, .int .i64 10000, .int .i64 1000, .int .i64 5000, .int .i64 20000, .int .i64 1030]) ∧ w.heap.size ≤ b1 ∧ w.heap.size ≤ b2 ∧ w'.heap[b1]? = some exB1 ∧ w'.heap[b2]? = some exB2) ∧ Below w.heap.size w w' := by
  go_enter Try.func47, Try.ntmps47
  go_wp2_with (fail)
  refine bp_name ?_
  intro w1 h1
  have k0 : w1.heap[w.heap.size]? = some (.cells #[.slice (some ⟨w.heap.size + 1, 0, none⟩) 3 3, .slice (some ⟨w.heap.size + 1 + 1, 0, none⟩) 2 2, .int .i64 50, .int .i64 10000, .int .i64 1000, .int .i64 5000, .int .i64 20000, .int .i64 1030] 25 (0, 0)) := by rw [h1]; repeat' (first | (with_reducible assumption) | (with_reducible refine blk_set_ne ?_ ?_) | (with_reducible exact blk_new _ _) | (with_reducible refine blk_new' _ _ (by first | (with_reducible rfl) | (simp; done) | (simp <;> omega))) | (with_reducible refine blk_alloc ?_ _) | (with_reducible refine blk_drew ?_) | (with_reducible refine blk_drewN ?_ _) | (with_reducible refine Ext2.blk (by assumption) ?_) | omega | (simp <;> omega) | exact blk_set (by assumption) _ _)
  have k1 : w1.heap[w.heap.size + 1]? = some exB1 := by rw [h1]; unfold exB1; repeat' (first | (with_reducible assumption) | (with_reducible refine blk_set_ne ?_ ?_) | (with_reducible exact blk_new _ _) | (with_reducible refine blk_new' _ _ (by first | (with_reducible rfl) | (simp; done) | (simp <;> omega))) | (with_reducible refine blk_alloc ?_ _) | (with_reducible refine blk_drew ?_) | (with_reducible refine blk_drewN ?_ _) | (with_reducible refine Ext2.blk (by assumption) ?_) | omega | (simp <;> omega) | exact blk_set (by assumption) _ _)
  have k2 : w1.heap[w.heap.size + 1 + 1]? = some exB2 := by rw [h1]; unfold exB2; repeat' (first | (with_reducible assumption) | (with_reducible refine blk_set_ne ?_ ?_) | (with_reducible exact blk_new _ _) | (with_reducible refine blk_new' _ _ (by first | (with_reducible rfl) | (simp; done) | (simp <;> omega))) | (with_reducible refine blk_alloc ?_ _) | (with_reducible refine blk_drew ?_) | (with_reducible refine blk_drewN ?_ _) | (with_reducible refine Ext2.blk (by assumption) ?_) | omega | (simp <;> omega) | exact blk_set (by assumption) _ _)
  have hB : Below w.heap.size w w1 := by rw [h1]; repeat' (first | exact Below.refl _ _ | assumption | refine below_drewN ?_ _ | refine Below.drew ?_ | refine Below.alloc ?_ (by first | assumption | omega | (simp <;> omega)) _ | refine Below.setCell ?_ (by first | assumption | omega | (simp <;> omega)) _ | refine Ext2.on (by assumption) ?_)
  clear h1
  refine bodyPost_ret (v := .agg #[.slice (some ⟨w.heap.size + 1, 0, none⟩) 3 3, .slice (some ⟨w.heap.size + 1 + 1, 0, none⟩) 2 2, .int .i64 50, .int .i64 10000, .int .i64 1000, .int .i64 5000, .int .i64 20000, .int .i64 1030]) ?_ rfl ⟨⟨_, _, rfl, by omega, by omega, k1, k2⟩, hB⟩
  have zc := cell_blk k0
  have zf := frz_blk k0
  simp [results, Try.results47, go_sem, zc]
set_option maxRecDepth 100000 in
set_option maxHeartbeats 2000000 in
theorem dayL_any (w : World) : Calls Try.prog 48 #[] w fun e w' => e = .returned (.agg #[.int .i64 200, .int .i64 250, .int .i64 400, .int .i64 500]) ∧ Below w.heap.size w w' := by
  go_enter Try.func48, Try.ntmps48
  go_wp2_with (fail)
  refine (span_any _ _ _).mono ?_
  rintro e w1 ⟨rfl, hb1⟩
  go_wp2_with (fail)
  refine (span_any _ _ _).mono ?_
  rintro e w2 ⟨rfl, hb2⟩
  have hB2 : Below (w.heap.size + 1) (w.alloc (.cells #[.int .i64 0, .int .i64 0, .int .i64 0, .int .i64 0] 48)) w2 := by
    have h1 := hb1; rw [World.size_alloc] at h1; exact h1.trans (hb2.mono (by have := h1.size; rw [World.size_alloc] at this; exact this))
  have b0 : w2.heap[w.heap.size]? = some (.cells #[.int .i64 0, .int .i64 0, .int .i64 0, .int .i64 0] 48 (0, 0)) := below_blk hB2 (blk_new _ _) (by omega)
  have hB : Below w.heap.size w w2 := (below_alloc' _ _).trans (hB2.mono (by omega))
  clear hb1 hb2 hB2
  have q0c := cell_blk b0
  have q0f := frz_blk b0
  go_wp2_with (fail)
  refine bp_name ?_
  intro w3 h3
  have k0 : w3.heap[w.heap.size]? = some (.cells #[.int .i64 200, .int .i64 250, .int .i64 400, .int .i64 500] 48 (0, 0)) := by rw [h3]; exact Eq.trans (blk_set (blk_set (blk_set (blk_set b0 _ _) _ _) _ _) _ _) rfl
  have hB : Below w.heap.size w w3 := by rw [h3]; repeat' (first | exact Below.refl _ _ | assumption | refine below_drewN ?_ _ | refine Below.drew ?_ | refine Below.alloc ?_ (by first | assumption | omega | (simp <;> omega)) _ | refine Below.setCell ?_ (by first | assumption | omega | (simp <;> omega)) _ | refine Ext2.on (by assumption) ?_)
  clear h3
  refine bodyPost_ret (v := .agg #[.int .i64 200, .int .i64 250, .int .i64 400, .int .i64 500]) ?_ rfl ⟨rfl, hB⟩
  have zc := cell_blk k0
  have zf := frz_blk k0
  simp [results, Try.results48, go_sem, zc]
set_option maxRecDepth 100000 in
set_option maxHeartbeats 2000000 in
theorem taskL_any {a : Option Addr} {n cap : Nat} (w : World) : Calls Try.prog 49 #[.slice a n cap] w fun e w' => (∃ b1 b2 b3 : Nat, e = .returned (.agg #[.slice (some ⟨b1, 0, none⟩) 3 3, .slice (some ⟨b2, 0, none⟩) 2 2, .int .i64 50, .int .i64 10000, .int .i64 1000, .int .i64 5000, .int .i64 20000, .int .i64 1030, .int .i64 100, .slice (some ⟨b3, 0, none⟩) 3 3, .int .i64 900, .int .i64 1000, .slice a n cap]) ∧ w'.heap[b1]? = some exB1 ∧ w'.heap[b2]? = some exB2 ∧ w'.heap[b3]? = some exB3) ∧ Below w.heap.size w w' := by
  go_enter Try.func49, Try.ntmps49
  go_wp2_with (fail)
  refine (ruleL_any _).mono ?_
  rintro e w1 ⟨⟨b1, b2, rfl, hb1l, hb2l, k1, k2⟩, hb1⟩
  have hB1 := hb1
  rw [World.size_alloc] at hB1 hb1l hb2l
  have K1 := Lib.hid k1; have K2 := Lib.hid k2
  clear hb1 k1 k2
  go_wp2_with (fail)
  refine (dayL_any _).mono ?_
  rintro e w2 ⟨rfl, hb2⟩
  go_wp2_with (fail)
  refine (dayL_any _).mono ?_
  rintro e w3 ⟨rfl, hb3⟩
  go_wp2_with (fail)
  refine (dayL_any _).mono ?_
  rintro e w4 ⟨rfl, hb4⟩
  have hE4 : Ext2 w1 w4 := Below.trans hb2 ((Below.trans hb3 (Below.mono hb4 hb3.size)).mono hb2.size)
  clear hb2 hb3 hb4
  go_wp2_with (fail)
  refine (span_any _ _ _).mono ?_
  rintro e w5 ⟨rfl, hb5⟩
  have k3 : w5.heap[w4.heap.size]? = some exB3 := below_blk hb5 (blk_new _ _) (by simp)
  have hE5 : Ext2 w1 w5 := hE4.trans (Below.mono ((below_alloc' _ _).trans (hb5.mono (by simp))) hE4.size)
  have k0 : w5.heap[w.heap.size]? = some (.cells #[.slice none 0 0, .slice none 0 0, .int .i64 0, .int .i64 0, .int .i64 0, .int .i64 0, .int .i64 0, .int .i64 0, .int .i64 0, .slice none 0 0, .int .i64 0, .int .i64 0, .slice none 0 0] 31 (0, 0)) := Ext2.blk hE5 (below_blk hB1 (blk_new _ _) (by omega))
  have hB5 : Below (w.heap.size + 1) (w.alloc (.cells #[.slice none 0 0, .slice none 0 0, .int .i64 0, .int .i64 0, .int .i64 0, .int .i64 0, .int .i64 0, .int .i64 0, .int .i64 0, .slice none 0 0, .int .i64 0, .int .i64 0, .slice none 0 0] 31)) w5 := hB1.trans (Below.mono hE5 (by have := hB1.size; rw [World.size_alloc] at this; exact this))
  have hz4 : w.heap.size < w4.heap.size := by have := hB1.size; have := hE4.size; rw [World.size_alloc] at *; omega
  have hB : Below w.heap.size w w5 := (below_alloc' _ _).trans (hB5.mono (by omega))
  have k1 := Ext2.blk hE5 K1.out
  have k2 := Ext2.blk hE5 K2.out
  clear hB1 hb5 hE4 hE5 hB5
  have q0c := cell_blk k0
  have q0f := frz_blk k0
  have K1 := Lib.hid k1; have K2 := Lib.hid k2; have K3 := Lib.hid k3
  clear k1 k2 k3
  go_wp2_with (fail)
  refine bodyPost_ret (v := .agg #[.slice (some ⟨b1, 0, none⟩) 3 3, .slice (some ⟨b2, 0, none⟩) 2 2, .int .i64 50, .int .i64 10000, .int .i64 1000, .int .i64 5000, .int .i64 20000, .int .i64 1030, .int .i64 100, .slice (some ⟨w4.heap.size, 0, none⟩) 3 3, .int .i64 900, .int .i64 1000, .slice a n cap]) ?_ rfl ⟨⟨b1, b2, w4.heap.size, rfl, ?_, ?_, ?_⟩, by repeat' (first | (with_reducible assumption) | (with_reducible refine Below.setCell ?_ (by first | omega | (simp <;> omega)) _) | (with_reducible refine Below.alloc ?_ (by first | omega | (simp <;> omega)) _) | (with_reducible refine Below.drew ?_) | (with_reducible refine below_drewN ?_ _) | (with_reducible exact Below.refl _ _) | refine Ext2.on (by assumption) ?_)⟩
  · simp [results, Try.results49, go_sem, q0c]
  · have k := K1.out; repeat' (first | (with_reducible assumption) | (with_reducible refine blk_set_ne ?_ (by omega)))
  · have k := K2.out; repeat' (first | (with_reducible assumption) | (with_reducible refine blk_set_ne ?_ (by omega)))
  · have k := K3.out; repeat' (first | (with_reducible assumption) | (with_reducible refine blk_set_ne ?_ (by omega)))
end Go.Proofs.Ytfjbgcaogffiaaa
