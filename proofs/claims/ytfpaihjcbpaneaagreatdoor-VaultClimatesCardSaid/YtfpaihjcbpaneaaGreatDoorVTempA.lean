/-
  Temp: the temperature of a can at an hour.
  Beginnings of slices: l[:n] of moves and of errors.
-/
import Derived.Test.YtfpaihjcbpaneaaGreatDoorVPlayC
import Derived.Test.YtfpaihjcbpaneaaGreatDoorVMove
namespace Go.Proofs.YtfpaihjcbpaneaaGreatDoor.D
def tempA (S : Site) (L : List Mv) (c h : Int) : Span := if tempE S L c h = 0 then ownT S (playV S L).1 c.toNat h.toNat else ⟨0, 0⟩
end Go.Proofs.YtfpaihjcbpaneaaGreatDoor.D
namespace Go.Proofs.YtfpaihjcbpaneaaGreatDoor
open Go.RowKit D
set_option linter.unusedVariables false
set_option linter.unusedSimpArgs false
attribute [local go_sem high] run_minI run_maxI
attribute [local go_sem] upon2 cls_cell cls_frozen forall_const exists_eq_left'
attribute [local go_sem] FirstUpon
theorem tempEnd {w W : World} {S : Site} {L : List Mv} {c h : Int} {n8 : Nat} {T : Array Value} {t : Span} {e : Int} (he : tempE S L c h = e) (ht : tempA S L c h = t) (hB : Below w.heap.size w W) (l8 : w.heap.size ≤ n8) (x8 : ∃ a b, W.heap[n8]? = some (.cells #[a, b] 25 (0, 0))) (t8 : T.getD 8 undef = .pointer (some ⟨n8, 0, none⟩)) (t9 : T.getD 9 undef = .int .i64 e) :
    bodyPost Tryz.prog Tryz.f18 (fun e' w' => e' = .returned (.tuple #[.agg #[.int .i64 (tempA S L c h).lo, .int .i64 (tempA S L c h).hi], .int .i64 (tempE S L c h)]) ∧ Below w.heap.size w w') .ret { tmps := T, defers := [] } ((W.setCell ⟨n8, 0, none⟩ (.int .i64 t.lo)).setCell ⟨n8, 1, none⟩ (.int .i64 t.hi)) := by
  obtain ⟨a, b, x8⟩ := x8
  have y8 := Eq.trans (blk_set (blk_set x8 0 (.int .i64 t.lo)) 1 (.int .i64 t.hi)) rfl
  have c8 := cell_blk y8
  have u8 : T[8]?.getD undef = .pointer (some ⟨n8, 0, none⟩) := by rw [← t8, Array.getD_eq_getD_getElem?]
  have u9 : T[9]?.getD undef = .int .i64 e := by rw [← t9, Array.getD_eq_getD_getElem?]
  refine bodyPost_ret (v := .tuple #[.agg #[.int .i64 t.lo, .int .i64 t.hi], .int .i64 e]) ?_ rfl ⟨by rw [he, ht], below_set (below_set hB l8) l8⟩
  simp [results, Tryz.results18, go_sem, c8, t8, t9, u8, u9]
set_option maxRecDepth 100000 in
set_option maxHeartbeats 8000000 in
theorem tempA_any {S : Site} {s : SSl} {L : List Mv} {sl : Sl} {c h : Int} {w : World} (hS : SiteAt w S s) (hL : MovesS w sl L) (hm : MaxAt w) :
    Calls Tryz.prog 18 #[.agg #[.slice s.r.a S.rooms.length s.r.cap, .slice s.c.a S.cans.length s.c.cap, .int .i64 S.rlo, .int .i64 S.rhi, .slice s.p.a S.steps.length s.p.cap], .slice sl.a L.length sl.cap, .int .i64 c, .int .i64 h] w fun e' w' => e' = .returned (.tuple #[.agg #[.int .i64 (tempA S L c h).lo, .int .i64 (tempA S L c h).hi], .int .i64 (tempE S L c h)]) ∧ Below w.heap.size w w' := by
  have HS := Lib.hid hS; have HL := Lib.hid hL; have HM := Lib.hid hm
  have hcl := hS.cn.le; have hcm := hS.cn.max
  clear hS hL hm
  go_enter Tryz.func18, Tryz.ntmps18
  go_wp2_with (fail)
  refine calls_name ?_
  intro w1 hw1
  obtain ⟨n4, hn4⟩ : ∃ n, n = w.heap.size := ⟨_, rfl⟩
  obtain ⟨n8, hn8⟩ : ∃ n, n = n4 + 1 := ⟨_, rfl⟩
  have hE1 : Ext2 w w1 := by rw [hw1]; exact ext_trans (below_alloc' _ _) (below_alloc' _ _)
  have X4 : Hid (w1.heap[n4]? = some (Obj.cells #[.slice s.r.a S.rooms.length s.r.cap, .slice s.c.a S.cans.length s.c.cap, .int .i64 S.rlo, .int .i64 S.rhi, .slice s.p.a S.steps.length s.p.cap] 28)) := Lib.hid (by rw [hw1, hn4]; exact blk_alloc (blk_new _ _) _)
  have X8 : Hid (w1.heap[n8]? = some (Obj.cells #[.int .i64 0, .int .i64 0] 25)) := Lib.hid (by rw [hw1, hn8, hn4]; exact blk_new' _ _ (by simp))
  rw [← hn4, ← hn8]
  have l8 : w.heap.size ≤ n8 := by omega
  refine (play_any (HS.out.below hE1) (HL.out.below hE1) (HM.out.below hE1)).mono ?_
  have HE1 := Lib.hid hE1
  clear hw1 hE1 hn4 hn8
  rintro e w2 (⟨hne, rfl, hb⟩ | ⟨h0, b, k, v, rfl, hV, hO⟩)
  · obtain ⟨x, hx⟩ : ∃ x, x = movedE S L := ⟨_, rfl⟩
    rw [← hx] at hne ⊢
    have hd : (x != 0) = true := by simp [hne]
    have HB := Lib.hid (ext_trans HE1.out hb); have HX := Lib.hid hx; have HNE := Lib.hid hne
    have Y8 := Lib.hid (Ext2.blk hb X8.out)
    have x8 := Y8.out
    have q8c := cell_blk x8
    have q8f := frz_blk x8
    clear hb hx hne x8
    go_wp2_with (fail)
    have e1 : tempE S L c h = x := by unfold tempE playE; rw [if_pos (by rw [if_pos (by rw [← HX.out]; exact HNE.out)]; rw [← HX.out]; exact HNE.out), if_pos (by rw [← HX.out]; exact HNE.out), HX.out]
    exact tempEnd (t := ⟨0, 0⟩) e1 (by unfold tempA; rw [if_neg (by rw [e1]; exact HNE.out)]) HB.out l8 ⟨_, _, Y8.out⟩ rfl rfl
  · have hd : ((0 : Int) != 0) = false := rfl
    have HV := Lib.hid hV; have H0 := Lib.hid h0
    have HB := Lib.hid (below_ext HE1.out (hV.bel.mono (Nat.le_refl _)))
    have Y4 := Lib.hid (below_blk hV.bel X4.out (blk_lt X4.out)); have Y8 := Lib.hid (below_blk hV.bel X8.out (blk_lt X8.out))
    clear h0 hV hO
    have w4' : IntKind.i64.wrap ((S.cans.length : Int) - 1) = (S.cans.length : Int) - 1 := IntWalk.i64_in _ (by omega)
    have x4 := Y4.out; have x8 := Y8.out
    have q4c := cell_blk x4
    have q4f := frz_blk x4
    have q8c := cell_blk x8
    have q8f := frz_blk x8
    clear x4 x8
    have HPE : Hid (playE S L c = if inB c 0 ((S.cans.length : Int) - 1) = false then 4 else 0) := Lib.hid (by unfold playE; rw [if_neg (by rw [H0.out]; decide)])
    rcases (Bool.eq_false_or_eq_true (outB c 0 ((S.cans.length : Int) - 1))).symm with ho1 | ho1
    case inr =>
      have HO := Lib.hid ho1
      go_wp2_with (go_at_call 33; (with_reducible refine (out_any _ _ _ _).mono ?_); rintro e w' ⟨rfl, rfl⟩)
      have e0 : playE S L c = 4 := by rw [HPE.out, if_pos (by have := HO.out; rw [outB_in] at this; simpa using this)]
      have e1 : tempE S L c h = 4 := by unfold tempE; rw [if_pos (by rw [e0]; decide), e0]
      exact tempEnd (t := ⟨0, 0⟩) e1 (by unfold tempA; rw [if_neg (by rw [e1]; decide)]) HB.out l8 ⟨_, _, Y8.out⟩ rfl rfl
    have HIC : Hid (inB c 0 ((S.cans.length : Int) - 1) = true) := Lib.hid (by have := ho1; rw [outB_in] at this; simpa using this)
    rcases (Bool.eq_false_or_eq_true (outB h 0 2400)).symm with ho2 | ho2
    case inr =>
      have HO := Lib.hid ho2
      go_wp2_with (go_at_call 33; (with_reducible refine (out_any _ _ _ _).mono ?_); rintro e w' ⟨rfl, rfl⟩)
      have e0 : playE S L c = 0 := by rw [HPE.out, if_neg (by rw [HIC.out]; decide)]
      have e1 : tempE S L c h = 7 := by unfold tempE; rw [if_neg (by rw [e0]; decide), if_pos (by have := HO.out; rw [outB_in] at this; simpa using this)]
      exact tempEnd (t := ⟨0, 0⟩) e1 (by unfold tempA; rw [if_neg (by rw [e1]; decide)]) HB.out l8 ⟨_, _, Y8.out⟩ rfl rfl
    have HIH : Hid (inB h 0 2400 = true) := Lib.hid (by have := ho2; rw [outB_in] at this; simpa using this)
    have g1 := inB_iff.1 HIC.out; have g2 := inB_iff.1 HIH.out
    obtain ⟨cn, hcn⟩ : ∃ n : Nat, n = c.toNat := ⟨_, rfl⟩
    obtain ⟨hn, hhn⟩ : ∃ n : Nat, n = h.toNat := ⟨_, rfl⟩
    have ec : c = (cn : Int) := by omega
    have eh : h = (hn : Int) := by omega
    have hck := (movedE_ok H0.out).1
    have hpl := played (movedE_ok H0.out).2.2 (Nat.le_refl _)
    have hml : (playV S L).1.length ≤ 60 := Nat.le_trans hpl.le (movedE_ok H0.out).2.1
    have hT := vtemp_any HV.out.at_ hck hpl.kept.valid hpl.kept.sort (c := cn) (h := hn) (by omega) hml (by omega)
    rw [← ec, ← eh] at hT
    have HT := Lib.hid hT
    have HCN := Lib.hid hcn; have HHN := Lib.hid hhn
    clear g1 g2 hcn hhn ec eh hck hpl hml hT q4c q4f q8c q8f
    have x4 := Y4.out
    have q4c := cell_blk x4
    have q4f := frz_blk x4
    clear x4
    go_wp2_with (go_at_call 33; (with_reducible refine (out_any _ _ _ _).mono ?_); rintro e w' ⟨rfl, rfl⟩)
    refine HT.out.mono ?_
    rintro e w3 ⟨rfl, hb3⟩
    have Z8 := Lib.hid (Ext2.blk hb3 Y8.out)
    have HB3 := Lib.hid (below_ext HB.out hb3)
    have x8 := Z8.out
    have q8c := cell_blk x8
    have q8f := frz_blk x8
    clear hb3 x8
    go_wp2_with (fail)
    have e0 : playE S L c = 0 := by rw [HPE.out, if_neg (by rw [HIC.out]; decide)]
    have e1 : tempE S L c h = 0 := by unfold tempE; rw [if_neg (by rw [e0]; decide), if_neg (by rw [HIH.out]; decide)]
    exact tempEnd (t := ownT S (playV S L).1 cn hn) e1 (by unfold tempA; rw [if_pos e1, HCN.out, HHN.out]) HB3.out l8 ⟨_, _, Z8.out⟩ rfl rfl
end Go.Proofs.YtfpaihjcbpaneaaGreatDoor
namespace Go.Proofs.YtfpaihjcbpaneaaGreatDoor
open Go.RowKit D
set_option linter.unusedVariables false
def takeA (a : Option Addr) (cap sz : Nat) : Option Addr := if cap = 0 then a else a.map (·.add (0 * sz))
theorem addr_addA (b o k : Nat) : (⟨b, o, none⟩ : Addr).add k = ⟨b, o + k, none⟩ := by
  unfold Addr.add; split
  · rename_i h; rw [h]; rfl
  · rfl
theorem row_take {w : World} {s : Sl} {sz n m : Nat} {c : Nat → Nat → Value} (h : RowS w s sz n c) (hm : m ≤ n) : RowS w ⟨takeA s.a s.cap sz, s.cap⟩ sz m c := by
  have h1 := h.le; have h2 := h.max
  refine ⟨by simp only; omega, h2, fun i j hi hj => ?_⟩
  obtain ⟨b, off, ha, hc⟩ := h.cell i j (by omega) hj
  refine ⟨b, off, ?_, hc⟩
  unfold takeA
  rw [if_neg (by omega), ha, Option.map_some, addr_addA, Nat.zero_mul, Nat.add_zero]
theorem rowS_congr {w : World} {s : Sl} {sz n : Nat} {c c' : Nat → Nat → Value} (h : RowS w s sz n c) (hc : ∀ i j, i < n → j < sz → c i j = c' i j) : RowS w s sz n c' :=
  ⟨h.le, h.max, fun i j hi hj => by
    obtain ⟨b, off, ha, h1⟩ := h.cell i j hi hj
    exact ⟨b, off, ha, by rw [h1, hc i j hi hj]⟩⟩
theorem run_moves_to (a : Option Addr) (len cap m : Nat) (hm : m ≤ cap) (w : World) : (Instr.slice 29 (.slice a len cap) none (some (.int .i64 (m : Int))) none).run Tryz.prog w = .ok (.slice (takeA a cap 3) m cap) w := by
  rw [run_slice_h w 29 a len cap (by kernel_rfl) .i64 (m : Int) (by omega) (by omega)]
  have h : (sizeOf (Tryz.prog.elem 29)).run Tryz.prog w = .ok 3 w := by kernel_rfl
  rw [h]; rfl
theorem run_errs_to (a : Option Addr) (len cap m : Nat) (hm : m ≤ cap) (w : World) : (Instr.slice 38 (.slice a len cap) none (some (.int .i64 (m : Int))) none).run Tryz.prog w = .ok (.slice (takeA a cap 1) m cap) w := by
  rw [run_slice_h w 38 a len cap (by kernel_rfl) .i64 (m : Int) (by omega) (by omega)]
  have h : (sizeOf (Tryz.prog.elem 38)).run Tryz.prog w = .ok 1 w := by kernel_rfl
  rw [h]; rfl
theorem moves_take {w : World} {s : Sl} {l : List Mv} {k : Nat} (h : MovesS w s l) (hk : k ≤ l.length) : MovesS w ⟨takeA s.a s.cap 3, s.cap⟩ (l.take k) := by
  have h1 := row_take h hk
  have e : (l.take k).length = k := by rw [List.length_take]; omega
  unfold MovesS
  rw [e]
  exact rowS_congr h1 fun i j hi _ => by
    have : mvD (l.take k) i = mvD l i := by unfold mvD; simp [List.getD_eq_getElem?_getD, hi]
    match j with
    | 0 | 1 | 2 | _ + 3 => simp only [mvC, this]
theorem ints_take {w : World} {s : Sl} {l : List Int} {k : Nat} (h : IntsS w s l) (hk : k ≤ l.length) : IntsS w ⟨takeA s.a s.cap 1, s.cap⟩ (l.take k) := by
  have h1 := row_take h hk
  have e : (l.take k).length = k := by rw [List.length_take]; omega
  unfold IntsS
  rw [e]
  exact rowS_congr h1 fun i j hi _ => by
    have : intD (l.take k) i = intD l i := by unfold intD; simp [List.getD_eq_getElem?_getD, hi]
    simp only [intC, this]
end Go.Proofs.YtfpaihjcbpaneaaGreatDoor
