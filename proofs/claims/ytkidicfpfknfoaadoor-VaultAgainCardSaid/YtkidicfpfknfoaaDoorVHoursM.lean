/-
  hours, as an iterator; and the function that makes it.
-/
import Derived.Test.YtkidicfpfknfoaaDoorVHours
namespace Go.Proofs.YtkidicfpfknfoaaDoor
open Go.RowKit D
set_option linter.unusedVariables false
set_option linter.unusedSimpArgs false
attribute [local go_sem high] run_minI run_maxI
attribute [local go_sem] upon2 cls_cell cls_frozen forall_const exists_eq_left'
attribute [local go_sem] FirstUpon
theorem hoursIter {S : Site} {s : SSl} {b b1 b2 c B : Nat} {M : List Mv} {kk : Sl} (hC : Chk S) (hM : ∀ m ∈ M, mvE S m = 0) (hso : SortH M) (hc : c < S.cans.length) (hml : M.length ≤ 60) (hB : B ≤ b1) :
    IterT Tryd.prog 85 #[.pointer (some ⟨b1, 0, none⟩), .pointer (some ⟨b2, 0, none⟩)] 2401 (fun k => #[.agg #[.int .i64 (ownT S M c k).lo, .int .i64 (ownT S M c k).hi], .int .i64 (atV S M c (k : Int))]) [25] B (HrAt S s b M kk b1 b2 c) :=
  fun T l I X W hp0 hpk hts h0 hI _ hY => callsIn_wide.2 (callsIn_wide.1 (hoursIter_in Fence.wide rfl rfl hC hM hso hc hml T l I X W hp0 (Nat.le_of_lt (Nat.lt_of_le_of_lt hB (blk_lt hp0.box1))) hpk hts h0 hI hY))
/-- What the iterator finds, behind a body that turns what lies elsewhere. -/
theorem HrAt.bw {S : Site} {s : SSl} {b : Nat} {M : List Mv} {kk : Sl} {b1 b2 c : Nat} {w W W' : World} {T : Nat → TypeId → Prop} (h0 : VltAt w S s b M kk) (h : HrAt S s b M kk b1 b2 c W) (hb : Bw w.heap.size T W W') (n1 : ¬ T b1 128) (n2 : ¬ T b2 3) : HrAt S s b M kk b1 b2 c W' :=
  ⟨hb.blk h.box1 n1, hb.blk h.box2 n2, h0.later h.vlt hb.bel⟩
theorem hours_any (b : Nat) (c : Int) (w : World) : Calls Tryd.prog 71 #[.pointer (some ⟨b, 0, none⟩), .int .i64 c] w fun e w' => e = .returned (.func (.func 85) #[] #[.pointer (some ⟨w.heap.size, 0, none⟩), .pointer (some ⟨w.heap.size + 1, 0, none⟩)]) ∧ w' = (w.alloc (.cells #[.pointer (some ⟨b, 0, none⟩)] 128 (0, 0))).alloc (.cells #[.int .i64 c] 3 (0, 0)) := by
  go_enter Tryd.func71, Tryd.ntmps71
  go_wp2
  go_ret
  exact ⟨by simp, rfl⟩
end Go.Proofs.YtkidicfpfknfoaaDoor
