/-
  ref.Frames: are two lists of pages equal?
-/
import Derived.Test.YtahgbecfaihfpaaDoorTPages
import Derived.Test.YtahgbecfaihfpaaDoorTRefB
import Derived.Laws.BytesArg
namespace Go.Proofs.YtahgbecfaihfpaaDoor
open Go.RowKit D
set_option linter.unusedVariables false
set_option linter.unusedSimpArgs false
attribute [local go_sem high] run_minI run_maxI
attribute [local go_sem] upon2 cls_cell cls_frozen forall_const exists_eq_left'
attribute [local go_sem] FirstUpon
theorem fr_cellsF {w : World} {b cap n : Nat} {off : Nat} {F : Font} {R : Rul} {pb : Nat → Nat} (h : RowS w ⟨some ⟨b, off, none⟩, cap⟩ 3 n (frC F R pb)) {i : Nat} (hi : i < n) : w.cell? ⟨b, off + i * 3, none⟩ = some (.int .i64 R.measure) ∧ w.cell? ⟨b, off + i * 3 + 1, none⟩ = some (.int .i64 (rowsV F R)) ∧ w.cell? ⟨b, off + i * 3 + 2, none⟩ = some (.slice (some ⟨pb i, 0, none⟩) (pixN F R) (pixN F R)) := by
  obtain ⟨b', off', e1, hr⟩ := h.row (by omega) (by omega)
  obtain ⟨rfl, rfl⟩ : b = b' ∧ off = off' := by simpa using e1
  have := hr.three hi
  simpa [frC] using this
/-- The pixels of a page, as numbers. -/
def pixL (ink : Int) (L : List Nat) (N : Nat) : List Int := (List.range N).map fun j => if j ∈ L then ink else 0
theorem conv_pix {W : World} {b N : Nat} {ink : Int} {L : List Nat} (h : PixAt W b N ink L) : (convert 57 9 (.slice (some ⟨b, 0, none⟩) N N)).run Tryd.prog W = .ok (.string (strOfNums (pixL ink L N))) W := by
  refine run_convert_bytes_arg W 57 5 Tryd.underlying57 Tryd.underlying5 b 0 N N (pixL ink L N) (by simp [pixL]) (fun i hi => ?_) 9 Tryd.underlying9
  obtain ⟨c, h1, h2, h3⟩ := h
  rw [Nat.zero_add, cell_blk h1, h3 i hi]
  simp [pixL, hi]
set_option maxRecDepth 100000 in
set_option maxHeartbeats 4000000 in
theorem framesR_any {F : Font} {R : Rul} {m : Nat} {s t : Sl} {pb pb' : Nat → Nat} {L : Nat → List Nat} {w : World} (h1 : RowS w s 3 m (frC F R pb)) (g1 : ∀ p, p < m → PixAt w (pb p) (pixN F R) R.ink (L p)) (h2 : RowS w t 3 m (frC F R pb')) (g2 : ∀ p, p < m → PixAt w (pb' p) (pixN F R) R.ink (L p)) :
    Calls Tryd.prog 39 #[.slice s.a m s.cap, .slice t.a m t.cap] w fun e w' => e = .returned (.bool true) ∧ Below w.heap.size w w' := by
  have hc1 := h1.le; have hm1 := h1.max; have hc2 := h2.le; have hm2 := h2.max
  rcases Nat.eq_zero_or_pos m with h0 | h0
  · subst h0
    clear h1 g1 h2 g2
    go_enter Tryd.func39, Tryd.ntmps39
    go_wp2_with (fail)
    go_loopw [5] (fun i wr => i = .int .i64 0 ∧ wr = w) (fun _ _ => 0)
    case atStart => exact ⟨rfl, rfl⟩
    case round =>
      obtain ⟨rfl, rfl⟩ := hrel
      go_wp2_with (fail)
      go_ret
      exact ⟨rfl, Below.refl _ _⟩
  · obtain ⟨b1, o1, e1, -⟩ := h1.row h0 (by omega)
    obtain ⟨b2, o2, e2, -⟩ := h2.row h0 (by omega)
    obtain ⟨sa, sc⟩ := s
    obtain ⟨ta, tc⟩ := t
    dsimp only at e1 e2 hc1 hm1 hc2 hm2
    subst e1 e2
    have H1 := Lib.hid h1; have G1 := Lib.hid g1; have H2 := Lib.hid h2; have G2 := Lib.hid g2
    clear h1 g1 h2 g2
    go_enter Tryd.func39, Tryd.ntmps39
    go_wp2_with (fail)
    go_loopw [5] (fun i wr => ∃ k : Nat, i = .int .i64 (k : Int) ∧ k ≤ m ∧ Ext2 w wr) (fun i _ => m - (intOf i).toNat)
    case atStart => exact ⟨0, rfl, Nat.zero_le _, Below.refl _ _⟩
    case round =>
      obtain ⟨k, rfl, hk, hEr⟩ := hrel
      have HEr := Lib.hid hEr
      by_cases hlt : k < m
      · go_light
        obtain ⟨a0, a1, a2⟩ := fr_cellsF (RowS.below H1.out hEr) hlt
        obtain ⟨c0, c1, c2⟩ := fr_cellsF (RowS.below H2.out hEr) hlt
        have r0 : (0 : Int) ≤ (k : Int) := by omega
        have r1 : (k : Int) < (m : Int) := by omega
        have w3' : IntKind.i64.wrap ((k : Int) + 1) = (k : Int) + 1 := IntWalk.i64_in _ (by omega)
        obtain ⟨S, hS⟩ : ∃ S, S = strOfNums (pixL R.ink (L k) (pixN F R)) := ⟨_, rfl⟩
        have hv1 : ∀ x : Cls (Ext2 wr), (convert 57 9 (.slice (some ⟨pb k, 0, none⟩) (pixN F R) (pixN F R))).run Tryd.prog x.val = .ok (.string S) x.val := fun x => by
          rw [hS]
          have hp := G1.out k hlt
          obtain ⟨c, q1, q2, q3⟩ := hp
          exact conv_pix ⟨c, Ext2.blk (ext_trans hEr x.2) q1, q2, q3⟩
        have hv2 : ∀ x : Cls (Ext2 wr), (convert 57 9 (.slice (some ⟨pb' k, 0, none⟩) (pixN F R) (pixN F R))).run Tryd.prog x.val = .ok (.string S) x.val := fun x => by
          rw [hS]
          have hp := G2.out k hlt
          obtain ⟨c, q1, q2, q3⟩ := hp
          exact conv_pix ⟨c, Ext2.blk (ext_trans hEr x.2) q1, q2, q3⟩
        clear hS hEr
        go_wp2_with (fail)
        refine region_st [⟨[], [0, 1, 2, 3, 4, 5, 6, 7, 8, 9, 10, 11, 12, 13, 14, 15, 16, 17, 18, 19, 20, 21, 22, 23, 24, 25, 26, 27, 28, 29, 30, 31, 32, 33, 34, 35, 36, 37, 38], []⟩] (by kernel_rfl) (by kernel_rfl) (by intro c a d v w h; cases d <;> exact h) ?_
        refine wpSt_cons ?_
        simp only [picks, List.drop_succ_cons, List.drop_zero]
        repeat ((with_reducible refine wpQ0_step (fun K hK => ?_)); go_simp; ((with_reducible refine hK _ ?_); clear hK K))
        refine wpQ0_nil ?_
        repeat ((with_reducible refine wpQ2_step (fun K hK => ?_)); go_simp; first | ((with_reducible refine hK _ ?_); clear hK K) | (refine ite_undef (fun h => (by have h_ : (none : Option Bool) = some _ := h; cases h_)) ?_; (with_reducible refine hK _ ?_); clear hK K) | (apply Exists.intro; refine ⟨fun x => ?_, hK _ ?_⟩; (fail); clear hK K))
        (with_reducible refine wpQ2_nil ?_)
        intro w2 hw2
        refine wpTl_nil ?_
        refine wpSt_nil ?_
        have hE2 := ext_trans HEr.out hw2
        clear a0 a1 a2 c0 c1 c2 hv1 hv2 hw2
        go_wp2_with (fail)
        go_roundw
        case rel => exact ⟨k + 1, by go_num, hlt, hE2⟩
        case measure => simp [intOf]; omega
      · obtain rfl : k = m := by omega
        have r1 : ¬ (k : Int) < (k : Int) := by omega
        clear hlt hEr
        go_wp2_with (fail)
        go_ret
        exact ⟨rfl, HEr.out⟩
end Go.Proofs.YtahgbecfaihfpaaDoor
