/-
  ref.Path.
-/
import Derived.Test.YtfpaihjcbpaneaaGreatDoorVRefF
namespace Go.Proofs.YtfpaihjcbpaneaaGreatDoor.D
theorem ways_ne {n fr td : Nat} (h2 : td < n) : 0 < (waysV n td 5 [[fr]]).length := by
  rw [show (5 : Nat) = 4 + 1 from rfl, waysV_succ, List.length_append]
  by_cases h : fr = td
  · have : outK td [[fr]] = [[fr]] := by unfold outK endsB natD; simp [h]
    rw [this]; simp only [List.length_cons, List.length_nil]; omega
  · rw [show (4 : Nat) = 3 + 1 from rfl, waysV_succ, List.length_append]
    have hmem : [fr, td] ∈ nxtK n td [[fr]] := by
      unfold nxtK
      refine List.mem_flatMap.2 ⟨[fr], ?_, ?_⟩
      · refine List.mem_filter.2 ⟨by simp, ?_⟩
        unfold endsB natD; simp [h]
      · unfold exts
        refine List.mem_map.2 ⟨td, List.mem_filter.2 ⟨by simpa using h2, ?_⟩, rfl⟩
        simp; exact fun hh => h hh.symm
    have h3 : [fr, td] ∈ outK td (nxtK n td [[fr]]) := List.mem_filter.2 ⟨hmem, by unfold endsB natD; simp⟩
    have := List.length_pos_of_mem h3
    omega
def bstR (S : Site) (base : Int) (t : Span) (R : List (List Nat)) (k : Nat) : Int × List Sty := ((R.take k).map (wayV S base t)).foldl better (-1, [])
theorem bstR_succ {S : Site} {base : Int} {t : Span} {R : List (List Nat)} {k : Nat} (hk : k < R.length) : bstR S base t R (k + 1) = better (bstR S base t R k) (wayV S base t (lsD R k)) := by
  unfold bstR; rw [take_lsD hk, List.map_append, List.foldl_append]; rfl
end Go.Proofs.YtfpaihjcbpaneaaGreatDoor.D
namespace Go.Proofs.YtfpaihjcbpaneaaGreatDoor
open Go.RowKit D
set_option linter.unusedVariables false
set_option linter.unusedSimpArgs false
attribute [local go_sem high] run_minI run_maxI
attribute [local go_sem] upon2 cls_cell cls_frozen forall_const exists_eq_left'
attribute [local go_sem] FirstUpon
theorem own_one {w : World} {b : Nat} {v : Value} {e : TypeId} {c : Nat → Nat → Value} (h : w.heap[b]? = some (.cells #[v] e (0, 0))) (hc : c 0 0 = v) : OwnR w 0 e 1 (.slice (some ⟨b, 0, none⟩) 1 1) 1 c :=
  ⟨cellsOf_len _ _ _, .inr ⟨b, 1, #[v], rfl, Nat.zero_le _, h, Nat.le_refl _, by unfold maxLen; omega, rfl, by simp [cellsOf, hc]⟩⟩
theorem better_some {st : Int × List Sty} {l : List Sty} {h : Int} : better st (some (l, h)) = if st.1 < 0 ∨ h < st.1 then (h, l) else st := rfl
set_option maxRecDepth 100000 in
set_option maxHeartbeats 8000000 in
theorem pathR_any {S : Site} {s : SSl} {base : Int} {t : Span} {fr to_ : Int} {w : World} (hS : SiteAt w S s) :
    Calls Tryz.prog 21 #[.agg #[.slice s.r.a S.rooms.length s.r.cap, .slice s.c.a S.cans.length s.c.cap, .int .i64 S.rlo, .int .i64 S.rhi, .slice s.p.a S.steps.length s.p.cap], .int .i64 base, .agg #[.int .i64 t.lo, .int .i64 t.hi], .int .i64 fr, .int .i64 to_] w (PathOut w S base t fr to_) := by
  have HS := Lib.hid hS
  have hrl := hS.rm.le; have hrm := hS.rm.max
  have w5' : IntKind.i64.wrap ((S.rooms.length : Int) - 1) = (S.rooms.length : Int) - 1 := IntWalk.i64_in _ (by omega)
  have HNO : Hid (∀ W e, pathX S base t fr to_ = e → e ≠ 0 → Below w.heap.size w W → PathOut w S base t fr to_ (.returned (.tuple #[.slice none 0 0, .int .i64 0, .int .i64 e])) W) := Lib.hid fun W e hx h0 hB => by
    have e1 : pathL S base t fr to_ = [] := if_neg (by rw [hx]; exact h0)
    have e2 : pathH S base t fr to_ = 0 := if_neg (by rw [hx]; exact h0)
    exact ⟨⟨none, 0⟩, by rw [e1, e2, hx]; rfl, by rw [e1]; exact ⟨Nat.le_refl _, by decide, fun i j hi _ => absurd hi (Nat.not_lt_zero i)⟩, hB⟩
  have hEX : ∀ e, pathE S base t fr to_ = e → e ≠ 0 → pathX S base t fr to_ = e := fun e h h0 => by unfold pathX; rw [if_pos (by rw [h]; exact h0), h]
  have HEX := Lib.hid hEX
  obtain ⟨v1, hv1⟩ : ∃ v, v = (checkV S).2.2 := ⟨_, rfl⟩
  obtain ⟨v2, hv2⟩ : ∃ v, v = inB base 1 3 := ⟨_, rfl⟩
  obtain ⟨v3, hv3⟩ : ∃ v, v = spanE t := ⟨_, rfl⟩
  obtain ⟨v4, hv4⟩ : ∃ v, v = inB fr 0 ((S.rooms.length : Int) - 1) := ⟨_, rfl⟩
  obtain ⟨v5, hv5⟩ : ∃ v, v = inB to_ 0 ((S.rooms.length : Int) - 1) := ⟨_, rfl⟩
  have HPE : Hid (pathE S base t fr to_ = if v1 ≠ 0 then v1 else if v2 = false then 2 else if v3 ≠ 0 then v3 else if (v4 && v5) = false then 4 else 0) := Lib.hid (by rw [hv1, hv2, hv3, hv4, hv5]; rfl)
  have H1 : Hid (∀ W, Ext2 w W → Calls Tryz.prog 52 #[.agg #[.slice s.r.a S.rooms.length s.r.cap, .slice s.c.a S.cans.length s.c.cap, .int .i64 S.rlo, .int .i64 S.rhi, .slice s.p.a S.steps.length s.p.cap]] W fun e w' => e = .returned (.int .i64 v1) ∧ Below W.heap.size W w') := Lib.hid fun W hW => by rw [hv1]; exact validR_any (HS.out.below hW)
  have H2 : Hid (∀ W, Calls Tryz.prog 37 #[.int .i64 base, .int .i64 1, .int .i64 3] W fun e w' => e = .returned (.bool v2) ∧ W = w') := Lib.hid fun W => by rw [hv2]; exact in_any _ _ _ W
  have H3 : Hid (∀ W, Calls Tryz.prog 53 #[.agg #[.int .i64 t.lo, .int .i64 t.hi]] W fun e w' => e = .returned (.int .i64 v3) ∧ Below W.heap.size W w') := Lib.hid fun W => by rw [hv3]; exact spannedR_any t W
  have H4 : Hid (∀ W, Calls Tryz.prog 37 #[.int .i64 fr, .int .i64 0, .int .i64 ((S.rooms.length : Int) - 1)] W fun e w' => e = .returned (.bool v4) ∧ W = w') := Lib.hid fun W => by rw [hv4]; exact in_any _ _ _ W
  have H5 : Hid (∀ W, Calls Tryz.prog 37 #[.int .i64 to_, .int .i64 0, .int .i64 ((S.rooms.length : Int) - 1)] W fun e w' => e = .returned (.bool v5) ∧ W = w') := Lib.hid fun W => by rw [hv5]; exact in_any _ _ _ W
  clear hS hEX hv1 hv2 hv3 hv4 hv5
  go_enter Tryz.func21, Tryz.ntmps21
  go_wp2_with (fail)
  refine calls_name ?_
  intro w1 hw1
  obtain ⟨n5, hn5⟩ : ∃ n, n = w.heap.size := ⟨_, rfl⟩
  obtain ⟨n7, hn7⟩ : ∃ n, n = n5 + 1 := ⟨_, rfl⟩
  have hE1 : Ext2 w w1 := by rw [hw1]; exact ext_trans (below_alloc' _ _) (below_alloc' _ _)
  have X5 : Hid (w1.heap[n5]? = some (Obj.cells #[.slice s.r.a S.rooms.length s.r.cap, .slice s.c.a S.cans.length s.c.cap, .int .i64 S.rlo, .int .i64 S.rhi, .slice s.p.a S.steps.length s.p.cap] 28)) := Lib.hid (by rw [hw1, hn5]; exact blk_alloc (blk_new _ _) _)
  have X7 : Hid (w1.heap[n7]? = some (Obj.cells #[.int .i64 t.lo, .int .i64 t.hi] 25)) := Lib.hid (by rw [hw1, hn7, hn5]; exact blk_new' _ _ (by simp))
  rw [← hn5, ← hn7]
  clear hw1 hn5 hn7
  (with_reducible refine (H1.out _ hE1).mono ?_)
  rintro e w2 ⟨rfl, hb2⟩
  have HE2 := Lib.hid (ext_trans hE1 hb2)
  have x5 := Ext2.blk hb2 X5.out; have x7 := Ext2.blk hb2 X7.out
  have X52 := Lib.hid x5; have X72 := Lib.hid x7
  have q5c := cell_blk x5
  have q5f := frz_blk x5
  have q7c := cell_blk x7
  have q7f := frz_blk x7
  clear hE1 hb2 x5 x7
  by_cases h1 : v1 = 0
  case neg =>
    have hd : (v1 == 0) = false := beq_eq_false_iff_ne.2 h1
    have hd2 : (v1 != 0) = true := by simp [h1]
    have HN := Lib.hid h1
    clear h1
    go_wp2_with (fail)
    refine bodyPost_ret (v := .tuple #[.slice none 0 0, .int .i64 0, .int .i64 v1]) ?_ rfl ?_
    · simp [results, Tryz.results21, go_sem]
    exact HNO.out _ _ (HEX.out _ (by rw [HPE.out, if_pos HN.out]) HN.out) HN.out HE2.out
  subst h1
  have hd : ((0 : Int) == 0) = true := rfl
  have hd2 : ((0 : Int) != 0) = false := rfl
  go_wp2_with (fail)
  (with_reducible refine (H2.out _).mono ?_)
  rintro e w' ⟨rfl, rfl⟩
  cases v2
  case false =>
    go_wp2_with (fail)
    refine bodyPost_ret (v := .tuple #[.slice none 0 0, .int .i64 0, .int .i64 2]) ?_ rfl ?_
    · simp [results, Tryz.results21, go_sem]
    exact HNO.out _ _ (HEX.out _ (by rw [HPE.out]; simp) (by decide)) (by decide) HE2.out
  go_wp2_with (fail)
  (with_reducible refine (H3.out _).mono ?_)
  rintro e w3 ⟨rfl, hb3⟩
  have HE3 := Lib.hid (ext_trans HE2.out hb3)
  have x5 := Ext2.blk hb3 X52.out
  have X53 := Lib.hid x5; have X73 := Lib.hid (Ext2.blk hb3 X72.out)
  clear q5c q5f q7c q7f hb3
  have q5c := cell_blk x5
  have q5f := frz_blk x5
  clear x5
  by_cases h3 : v3 = 0
  case neg =>
    have hd3 : (v3 == 0) = false := beq_eq_false_iff_ne.2 h3
    have hd4 : (v3 != 0) = true := by simp [h3]
    have HN := Lib.hid h3
    clear h3
    go_wp2_with (fail)
    refine bodyPost_ret (v := .tuple #[.slice none 0 0, .int .i64 0, .int .i64 v3]) ?_ rfl ?_
    · simp [results, Tryz.results21, go_sem]
    exact HNO.out _ _ (HEX.out _ (by rw [HPE.out, if_neg (by simp), if_neg (by simp), if_pos HN.out]) HN.out) HN.out HE3.out
  subst h3
  go_wp2_with (fail)
  (with_reducible refine (H4.out _).mono ?_)
  rintro e w' ⟨rfl, rfl⟩
  cases v4
  case false =>
    go_wp2_with (fail)
    refine bodyPost_ret (v := .tuple #[.slice none 0 0, .int .i64 0, .int .i64 4]) ?_ rfl ?_
    · simp [results, Tryz.results21, go_sem]
    exact HNO.out _ _ (HEX.out _ (by rw [HPE.out]; simp) (by decide)) (by decide) HE3.out
  go_wp2_with (fail)
  (with_reducible refine (H5.out _).mono ?_)
  rintro e w' ⟨rfl, rfl⟩
  cases v5
  case false =>
    go_wp2_with (fail)
    refine bodyPost_ret (v := .tuple #[.slice none 0 0, .int .i64 0, .int .i64 4]) ?_ rfl ?_
    · simp [results, Tryz.results21, go_sem]
    exact HNO.out _ _ (HEX.out _ (by rw [HPE.out]; simp) (by decide)) (by decide) HE3.out
  have hpe : pathE S base t fr to_ = 0 := by rw [HPE.out]; simp
  have HP0 := Lib.hid hpe
  obtain ⟨hck, -, hsp, hfr, hto⟩ := pathE_ok hpe
  have hti := spanE_in hsp
  obtain ⟨fn, hfn⟩ : ∃ n : Nat, fr = (n : Int) := ⟨fr.toNat, by omega⟩
  obtain ⟨tn, htn⟩ : ∃ n : Nat, to_ = (n : Int) := ⟨to_.toNat, by omega⟩
  subst hfn
  subst htn
  have hfl : fn < S.rooms.length := by omega
  have htl : tn < S.rooms.length := by omega
  have HCK := Lib.hid hck; have HTI := Lib.hid hti
  have HWY := Lib.hid (ways_any (w0 := w3) (s := s) (td := tn) (HS.out.below HE3.out) hck 4 (by omega))
  clear hpe hck hsp hfr hto hti
  go_wp2_with (fail)
  refine calls_name ?_
  intro w4 hw4
  obtain ⟨ba, hba⟩ : ∃ n, n = w3.heap.size := ⟨_, rfl⟩
  obtain ⟨bb, hbb⟩ : ∃ n, n = ba + 1 := ⟨_, rfl⟩
  have hE4 : Ext2 w3 w4 := by rw [hw4]; exact ext_trans (below_alloc' _ _) (below_alloc' _ _)
  have na : w4.heap[ba]? = some (.cells #[.int .i64 (fn : Int)] 3 (0, 0)) := by rw [hw4, hba]; exact blk_alloc (blk_new _ _) _
  have nb : w4.heap[bb]? = some (.cells #[.slice (some ⟨ba, 0, none⟩) 1 1] 43 (0, 0)) := by rw [hw4, hbb, hba]; exact blk_new' _ _ (by simp)
  rw [← hba, ← hbb]
  have hLs : LsAt w4 (fun _ => ⟨some ⟨ba, 0, none⟩, 1⟩) [[fn]] := by
    intro i hi
    obtain rfl : i = 0 := by have hi : i < 1 := hi; omega
    exact own_one na rfl
  have hrow : RowS w4 ⟨some ⟨bb, 0, none⟩, 1⟩ 1 ([[fn]] : List (List Nat)).length (lsC (fun _ => ⟨some ⟨ba, 0, none⟩, 1⟩) [[fn]]) := by
    obtain ⟨⟨qa, qc⟩, hq, hr⟩ := (own_one (c := lsC (fun _ => ⟨some ⟨ba, 0, none⟩, 1⟩) [[fn]]) nb rfl).sl
    injection hq with e1 _ e3
    subst e1; subst e3
    exact hr
  have hcall := HWY.out w4 [[fn]] (fun _ => ⟨some ⟨ba, 0, none⟩, 1⟩) ⟨some ⟨bb, 0, none⟩, 1⟩ hE4 hrow hLs (by simp) (fun l hl => by
    obtain rfl : l = [fn] := by simpa using hl
    refine ⟨by simp, by simp, fun i hi => ?_⟩
    obtain rfl : i = 0 := by have hi : i < 1 := hi; omega
    exact hfl) (by simp)
  have HCALL := Lib.hid hcall
  have HE4 := Lib.hid (ext_trans HE3.out hE4)
  have X54 := Lib.hid (Ext2.blk hE4 X53.out); have X74 := Lib.hid (Ext2.blk hE4 X73.out)
  clear hw4 hba hbb hE4 na nb hLs hrow hcall q5c q5f
  refine HCALL.out.mono ?_
  rintro e w6 ⟨v, q, rfl, hO, hLs, hb6⟩
  have hRne := ways_ne (fr := fn) htl
  have hRr := waysV_rooms (n := S.rooms.length) (to_ := tn) 5 1 [[fn]] (fun l hl => by
    obtain rfl : l = [fn] := by simpa using hl
    refine ⟨by simp, by simp, fun i hi => ?_⟩
    obtain rfl : i = 0 := by have hi : i < 1 := hi; omega
    exact hfl)
  have hRl := waysV_len (to_ := tn) HCK.out.len.1.2 5 [[fn]]
  have hbs : bestR S base t fn tn = bstR S base t (waysV S.rooms.length tn 5 [[fn]]) (waysV S.rooms.length tn 5 [[fn]]).length := by unfold bestR bstR; rw [List.take_length]
  obtain ⟨R, hR⟩ : ∃ R, R = waysV S.rooms.length tn 5 [[fn]] := ⟨_, rfl⟩
  rw [← hR] at hRne hRr hRl hbs
  rw [show (4 + 1 : Nat) = 5 from rfl, ← hR] at hO hLs
  have HBS := Lib.hid hbs; have HRR := Lib.hid hRr
  obtain ⟨gv, cv, rfl, -, hcv1, hcv2, hrow, -⟩ := own_some hO hRne
  have HROW := Lib.hid hrow; have HLS := Lib.hid hLs
  have hRl2 : R.length ≤ 400000 := by simpa using Nat.le_trans hRl (by simp)
  have HE6 := Lib.hid (ext_trans HE4.out hb6)
  have X56 := Lib.hid (Ext2.blk hb6 X54.out); have X76 := Lib.hid (Ext2.blk hb6 X74.out)
  have HWAY : Hid (∀ W, Ext2 w6 W → ∀ k, k < R.length → ∀ (g cp : Nat), (q k).a = some ⟨g, 0, none⟩ → (q k).cap = cp → Calls Tryz.prog 55 #[.agg #[.slice s.r.a S.rooms.length s.r.cap, .slice s.c.a S.cans.length s.c.cap, .int .i64 S.rlo, .int .i64 S.rhi, .slice s.p.a S.steps.length s.p.cap], .int .i64 base, .agg #[.int .i64 t.lo, .int .i64 t.hi], .slice (some ⟨g, 0, none⟩) (lsD R k).length cp] W (WayOut W S base t (lsD R k))) := Lib.hid fun W hW k hk g cp hg hcp => by
    obtain ⟨a1, a2, a3⟩ := HRR.out _ (lsD_mem hk)
    obtain ⟨⟨xa, xc⟩, hx, hr⟩ := ((HLS.out k hk).below hW).sl
    injection hx with e1 _ e3
    rw [hg] at e1; rw [hcp] at e3
    subst e1; subst e3
    exact wayR_any (s := s) (sl := ⟨some ⟨g, 0, none⟩, cp⟩) (HS.out.below (ext_trans HE6.out hW)) hr HCK.out HTI.out a3
  clear hO hLs hrow hRl hRr hbs hR hb6
  go_wp2_with (fail)
  go_loopw [15, 16, 17] (fun v f16 z wr => ∃ (k : Nat) (st : Int × List Sty), z = .int .i64 (k : Int) ∧ k ≤ R.length ∧ f16 = .int .i64 st.1 ∧ st = bstR S base t R k ∧ (-1 ≤ st.1 ∧ st.1 ≤ 2500) ∧ Ext2 w6 wr ∧ OwnR wr w6.heap.size 93 2 v st.2.length (syC st.2)) (fun _ _ z _ => R.length - (intOf z).toNat)
  case atStart => exact ⟨0, (-1, []), rfl, by omega, rfl, rfl, by omega, Below.refl _ _, own_nil _ _ _ _ _⟩
  case round =>
    obtain ⟨k, ⟨least, bst⟩, rfl, hk, rfl, hst, hbd, hE, hO⟩ := hrel
    dsimp only at hbd hO ⊢
    have HO := Lib.hid hO; have HST := Lib.hid hst; have HE := Lib.hid hE
    clear hO hst
    by_cases hlt : k < R.length
    · have hstep := bstR_succ (S := S) (base := base) (t := t) hlt
      rw [← HST.out] at hstep
      have HSTEP := Lib.hid hstep
      obtain ⟨hl1, -, -⟩ := HRR.out _ (lsD_mem hlt)
      obtain ⟨g, hg, hcp, hcm, -⟩ := own_head ((HLS.out k hlt).below hE) (show 0 < (lsD R k).length by omega)
      have c0 := ((HROW.out.below hE).one hlt)
      rw [Nat.zero_add] at c0
      unfold lsC at c0
      rw [hg] at c0
      obtain ⟨cp, hcpd⟩ : ∃ c, c = (q k).cap := ⟨_, rfl⟩
      have hway := fun W hW => HWAY.out W (ext_trans hE hW) k hlt g cp hg hcpd.symm
      rw [← hcpd] at c0
      obtain ⟨l, hl⟩ : ∃ l, l = lsD R k := ⟨_, rfl⟩
      rw [← hl] at c0 hway hstep
      have HWX := Lib.hid hway
      have HST2 := Lib.hid hstep
      have i1 : (k : Int) < (R.length : Int) := by omega
      have i0 : (0 : Int) ≤ (k : Int) := by omega
      have i1' : decide ((k : Int) < (R.length : Int)) = true := decide_eq_true i1
      have i0' : decide ((0 : Int) ≤ (k : Int)) = true := decide_eq_true i0
      have wk1 : IntKind.i64.wrap ((k : Int) + 1) = (k : Int) + 1 := IntWalk.i64_in _ (by omega)
      have x5 := Ext2.blk hE X56.out; have x7 := Ext2.blk hE X76.out
      have q5c := cell_blk x5
      have q5f := frz_blk x5
      have q7c := cell_blk x7
      have q7f := frz_blk x7
      clear hstep hg hcp hcm hcpd hway hl x5 x7 hl1 HSTEP hE
      go_wp2_with (fail)
      refine region_treeU (Ext2 wr) (.flt [0, 1, 2, 3, 4, 5, 6] (.one 7 (.flt [8, 9, 10, 11, 12, 13, 14] .leaf))) (fun W h => h) (by kernel_rfl) (by kernel_rfl) (by intro c a d v w h; cases d <;> exact h) ?_
      intro u0 hu0
      refine wpU_flt ?_
      simp only [picks, List.drop_succ_cons, List.drop_zero]
      repeat ((with_reducible refine wpQS_step (fun K hK => ?_)); go_simp; ((with_reducible refine hK _ ?_); clear hK K))
      (with_reducible refine wpQS_nil ?_)
      refine wpU_one ?_
      simp only [picks, List.drop_succ_cons, List.drop_zero]
      go_wp2_with (fail)
      refine (HWX.out _ hu0).mono ?_
      rintro e u1 ⟨vv, hv, bv, rfl, hcase, hb1⟩
      have HU1 := Lib.hid (ext_trans hu0 hb1)
      have hsz := hu0.size
      go_wp2_with (fail)
      refine ⟨HU1.out, ?_⟩
      refine wpU_flt ?_
      simp only [picks, List.drop_succ_cons, List.drop_zero]
      repeat ((with_reducible refine wpQS_step (fun K hK => ?_)); go_simp; ((with_reducible refine hK _ ?_); clear hK K))
      (with_reducible refine wpQS_nil ?_)
      refine wpU_leaf ?_
      have HE7 := Lib.hid (ext_trans HE.out HU1.out)
      have HO7 := Lib.hid (HO.out.below HU1.out)
      have hsz6 := HE.out.size
      clear q5c q5f q7c q7f c0 hu0 hb1
      rcases hcase with ⟨hn, rfl⟩ | ⟨st2, hs2, rfl, hh0, hh1, hln, hO2⟩
      · have HN := Lib.hid hn
        clear hn
        go_wp2_with (fail)
        go_roundw
        case rel => exact ⟨k + 1, (least, bst), by go_num, by omega, rfl, by rw [HST2.out, HN.out]; rfl, hbd, HE7.out, HO7.out⟩
        case measure => simp [intOf]; omega
      · have HS2 := Lib.hid hs2; have HO2 := Lib.hid (hO2.base (show w6.heap.size ≤ u0.heap.size by omega))
        clear hs2 hO2
        by_cases h0 : least < 0
        · have H0 := Lib.hid h0
          go_wp2_with (fail)
          go_roundw
          case rel => exact ⟨k + 1, (hv, st2), by go_num, by omega, rfl, by rw [HST2.out, HS2.out, better_some, if_pos (.inl H0.out)], by dsimp only; omega, HE7.out, HO2.out⟩
          case measure => simp [intOf]; omega
        · by_cases h9 : hv < least
          · have H9 := Lib.hid h9
            go_wp2_with (fail)
            go_roundw
            case rel => exact ⟨k + 1, (hv, st2), by go_num, by omega, rfl, by rw [HST2.out, HS2.out, better_some, if_pos (.inr H9.out)], by dsimp only; omega, HE7.out, HO2.out⟩
            case measure => simp [intOf]; omega
          · have H9 := Lib.hid h9; have H0 := Lib.hid h0
            go_wp2_with (fail)
            go_roundw
            case rel => exact ⟨k + 1, (least, bst), by go_num, by omega, rfl, by rw [HST2.out, HS2.out, better_some, if_neg (by have := H9.out; have := H0.out; dsimp only; omega)], hbd, HE7.out, HO7.out⟩
            case measure => simp [intOf]; omega
    · obtain rfl : k = R.length := by omega
      have r1 : ¬ (R.length : Int) < (R.length : Int) := by omega
      have HBP : Hid (bestP S base t (fn : Int).toNat (tn : Int).toNat = (least, bst)) := Lib.hid (by rw [Int.toNat_natCast, Int.toNat_natCast, ← best_same, HBS.out, ← HST.out])
      have HEW := Lib.hid (ext_trans HE6.out HE.out)
      clear hE
      by_cases h0 : least < 0
      · have HX : Hid (pathX S base t (fn : Int) (tn : Int) = 9) := Lib.hid (by unfold pathX; rw [if_neg (by rw [HP0.out]; simp), HBP.out, if_pos h0])
        go_wp2_with (fail)
        refine bodyPost_ret (v := .tuple #[.slice none 0 0, .int .i64 0, .int .i64 9]) ?_ rfl ?_
        · simp [results, Tryz.results21, go_sem]
        exact HNO.out _ _ HX.out (by decide) HEW.out
      · have HX : Hid (pathX S base t (fn : Int) (tn : Int) = 0) := Lib.hid (by unfold pathX; rw [if_neg (by rw [HP0.out]; simp), HBP.out, if_neg h0])
        obtain ⟨⟨ka, kc⟩, rfl, hr⟩ := HO.out.sl
        have HR9 := Lib.hid hr
        clear hr
        go_wp2_with (fail)
        refine bodyPost_ret (v := .tuple #[.slice ka bst.length kc, .int .i64 least, .int .i64 0]) ?_ rfl ?_
        · simp [results, Tryz.results21, go_sem]
        have e1 : pathL S base t (fn : Int) (tn : Int) = bst := by unfold pathL; rw [if_pos HX.out, HBP.out]
        have e2 : pathH S base t (fn : Int) (tn : Int) = least := by unfold pathH; rw [if_pos HX.out, HBP.out]
        exact ⟨⟨ka, kc⟩, by rw [e1, e2, HX.out], by rw [e1]; exact HR9.out, HEW.out⟩
end Go.Proofs.YtfpaihjcbpaneaaGreatDoor
