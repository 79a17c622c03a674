/-
  decay.mornings: the maker of the iterator.
-/
import Derived.Test.YtfjbgcaogffiaaaDHeap
namespace Go.Proofs.Ytfjbgcaogffiaaa
open Go.RowKit D
set_option linter.unusedVariables false
set_option linter.unusedSimpArgs false
attribute [local go_sem high] run_minI run_maxI
/-- The boxes of the iterator: its reel, the caller's span, from, until. -/
def mornW (w : World) (px pn : Option Addr) (i j : Int) : World := (((w.alloc (.cells #[.pointer px] 88)).alloc (.cells #[.pointer pn] 126)).alloc (.cells #[.int .i64 i] 3)).alloc (.cells #[.int .i64 j] 3)
def mornF (n : Nat) : Value := .func (.func 105) #[] #[.pointer (some ⟨n + 1 + 1, 0, none⟩), .pointer (some ⟨n + 1 + 1 + 1, 0, none⟩), .pointer (some ⟨n, 0, none⟩), .pointer (some ⟨n + 1, 0, none⟩)]
theorem mornings_any (px pn : Option Addr) (i j : Int) (w : World) : Calls Try.prog 79 #[.pointer px, .pointer pn, .int .i64 i, .int .i64 j] w fun e w' => e = .returned (mornF w.heap.size) ∧ w' = mornW w px pn i j := by
  go_enter Try.func79, Try.ntmps79
  go_wp2
  go_ret
  exact ⟨rfl, rfl⟩
theorem mornW_blk (w : World) (px pn : Option Addr) (i j : Int) :
    Below w.heap.size w (mornW w px pn i j) ∧ (mornW w px pn i j).heap.size = w.heap.size + 1 + 1 + 1 + 1 ∧ (mornW w px pn i j).heap[w.heap.size]? = some (.cells #[.pointer px] 88) ∧ (mornW w px pn i j).heap[w.heap.size + 1]? = some (.cells #[.pointer pn] 126) ∧
    (mornW w px pn i j).heap[w.heap.size + 1 + 1]? = some (.cells #[.int .i64 i] 3) ∧ (mornW w px pn i j).heap[w.heap.size + 1 + 1 + 1]? = some (.cells #[.int .i64 j] 3) := by
  unfold mornW
  refine ⟨by repeat' (first | exact Below.refl _ _ | assumption | refine below_drewN ?_ _ | refine Below.drew ?_ | refine Below.alloc ?_ (by first | assumption | omega | (simp <;> omega)) _ | refine Below.setCell ?_ (by first | assumption | omega | (simp <;> omega)) _), by simp, ?_, ?_, ?_, ?_⟩
  · repeat' (first | (with_reducible assumption) | (with_reducible refine blk_set_ne ?_ ?_) | (with_reducible exact blk_new _ _) | (with_reducible refine blk_new' _ _ (by first | (with_reducible rfl) | (simp; done) | (simp <;> omega))) | (with_reducible refine blk_alloc ?_ _) | (with_reducible refine blk_drew ?_) | (with_reducible refine blk_drewN ?_ _) | (with_reducible refine Ext2.blk (by assumption) ?_) | omega | (simp <;> omega) | exact blk_set (by assumption) _ _)
  · repeat' (first | (with_reducible assumption) | (with_reducible refine blk_set_ne ?_ ?_) | (with_reducible exact blk_new _ _) | (with_reducible refine blk_new' _ _ (by first | (with_reducible rfl) | (simp; done) | (simp <;> omega))) | (with_reducible refine blk_alloc ?_ _) | (with_reducible refine blk_drew ?_) | (with_reducible refine blk_drewN ?_ _) | (with_reducible refine Ext2.blk (by assumption) ?_) | omega | (simp <;> omega) | exact blk_set (by assumption) _ _)
  · repeat' (first | (with_reducible assumption) | (with_reducible refine blk_set_ne ?_ ?_) | (with_reducible exact blk_new _ _) | (with_reducible refine blk_new' _ _ (by first | (with_reducible rfl) | (simp; done) | (simp <;> omega))) | (with_reducible refine blk_alloc ?_ _) | (with_reducible refine blk_drew ?_) | (with_reducible refine blk_drewN ?_ _) | (with_reducible refine Ext2.blk (by assumption) ?_) | omega | (simp <;> omega) | exact blk_set (by assumption) _ _)
  · repeat' (first | (with_reducible assumption) | (with_reducible refine blk_set_ne ?_ ?_) | (with_reducible exact blk_new _ _) | (with_reducible refine blk_new' _ _ (by first | (with_reducible rfl) | (simp; done) | (simp <;> omega))) | (with_reducible refine blk_alloc ?_ _) | (with_reducible refine blk_drew ?_) | (with_reducible refine blk_drewN ?_ _) | (with_reducible refine Ext2.blk (by assumption) ?_) | omega | (simp <;> omega) | exact blk_set (by assumption) _ _)
end Go.Proofs.Ytfjbgcaogffiaaa
