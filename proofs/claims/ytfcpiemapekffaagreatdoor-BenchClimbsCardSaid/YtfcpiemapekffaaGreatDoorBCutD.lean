/-
  slices.Backward over cuts, as an iterator; bench.Before.
-/
import Derived.Test.YtfcpiemapekffaaGreatDoorBCut
import Derived.Test.YtfcpiemapekffaaGreatDoorDIt
import Derived.Recover
import Derived.RecoverIn
import Derived.Defers
namespace Go.Proofs.YtfcpiemapekffaaGreatDoor
open Go.RowKit D
set_option linter.unusedVariables false
set_option linter.unusedSimpArgs false
attribute [local go_sem high] run_minI run_maxI
attribute [local go_sem] upon2 cls_cell cls_frozen forall_const exists_eq_left'
attribute [local go_sem] FirstUpon
theorem leaveM_take {fn : Func} {R : Ending → World → Prop} {w1 : World} {d : Nat} {u : FrameMode} {tmps : Array Value} {ds : List Deferred} (hu : u ≠ .run) (hd : w1.heap[d]? = some (.deferred (some []))) (hr : LeavesInM Fence.wide 0 Tryz.prog fn tmps R ds u (w1.putObj d (.deferred none))) :
    LeavesInM Fence.wide 0 Tryz.prog fn tmps R ({ target := .collected d, args := #[] } :: ds) u w1 :=
  ⟨hu, .inl ⟨_, _, rfl, run_takeDeferred hd, hr⟩⟩
theorem leaves_nil {fn : Func} {tmps : Array Value} {R : Ending → World → Prop} {w : World} {v : Value} (h : (results fn tmps).run Tryz.prog w = .ok v w) (hr : R (.returned v) w) : LeavesInM Fence.wide 0 Tryz.prog fn tmps R [] .returning w := ⟨v, h, hr⟩
theorem backC_any (a : Option Addr) (n cap : Nat) (w : World) : Calls Tryz.prog 77 #[.slice a n cap] w fun e w' => e = .returned (.func (.func 105) #[] #[.pointer (some ⟨w.heap.size, 0, none⟩)]) ∧ w' = w.alloc (.cells #[.slice a n cap] 84 (0, 0)) := by
  go_enter Tryz.func77, Tryz.ntmps77
  go_wp2
  go_ret
  exact ⟨rfl, rfl⟩
structure BackAt (bb : Nat) (s : Sl) (l : List Cut) (W : World) : Prop where
  box : W.heap[bb]? = some (.cells #[.slice s.a l.length s.cap] 84 (0, 0))
  row : CutsS W s l
set_option maxRecDepth 100000 in
set_option maxHeartbeats 2000000 in
theorem backC_in (Fe : Fence) (hFe : Fe = Fence.wide) (hro : Fe.round = none) {bb B : Nat} {s : Sl} {lc : List Cut} (hn : lc.length ≤ 1000000)
    (T : Nat → Nat → TypeId → Prop) (l : Nat) (I X : Nat → Nat → World → Prop) (W : World) (hp0 : BackAt bb s lc W) (hpk : ∀ C W1 W2, BackAt bb s lc W1 → Bw B (T C) W1 W2 → BackAt bb s lc W2) (h0 : ∀ W1, Ext2 W W1 → I W1.heap.size 0 W1)
    (hY : ∀ C k W1, k < lc.length → W.heap.size ≤ C → C ≤ W1.heap.size → I C k W1 → YieldAt Fe 0 Tryz.prog l #[.int .i64 ((lc.length - 1 - k : Nat) : Int), .agg #[.int .i64 (ctD lc (lc.length - 1 - k)).from_, .int .i64 (ctD lc (lc.length - 1 - k)).until_]] W1 fun e W' => (e = .returned (.bool true) ∧ Bw B (T C) W1 W' ∧ I C (k + 1) W') ∨ (e = .returned (.bool false) ∧ KeepsFrom W.heap.size W1 W' ∧ X C k W')) :
    CallsIn Fe 1 Tryz.prog 105 (#[.func (.yield l) #[] #[]] ++ #[.pointer (some ⟨bb, 0, none⟩)]) W fun e W' => (∃ v, e = .returned v) ∧ ∃ C, W.heap.size ≤ C ∧ (I C lc.length W' ∨ ∃ k, k < lc.length ∧ X C k W') := by
  have HY := Lib.hid (hY W.heap.size); have HK := Lib.hid hpk; have H0 := Lib.hid (h0 W (Below.refl _ _)); have HP0 := Lib.hid hp0
  clear hY hpk h0
  have c1 := hp0.box
  obtain ⟨n, hnn⟩ : ∃ n, n = lc.length := ⟨_, rfl⟩
  rw [← hnn] at HY c1 hn ⊢
  have HN := Lib.hid hnn
  clear hnn
  have qic := cell_blk c1
  have qif := frz_blk c1
  have w1 : IntKind.i64.wrap ((n : Int) - 1) = (n : Int) - 1 := IntWalk.i64_in _ (by omega)
  refine callsIn_of_wp Tryz.func105 rfl (by rw [hFe]; trivial) ?_ hro
  clear hFe hp0
  simp only [Tryz.ntmps105, List.size_toArray, List.length_cons, List.length_nil, Nat.reduceAdd, Nat.reduceSub, Array.replicate_succ, Array.replicate_zero, List.push_toArray, List.append_toArray, List.nil_append, List.cons_append]
  gi_wp2
  clear qic qif c1
  gi_loopw [3] (fun v wr => ∃ m : Nat, v = .int .i64 ((m : Int) - 1) ∧ m ≤ n ∧ I W.heap.size (n - m) wr ∧ BackAt bb s lc wr ∧ W.heap.size ≤ wr.heap.size) (fun v _ => (intOf v + 1).toNat)
  case atStart => exact ⟨n, rfl, Nat.le_refl _, by rw [Nat.sub_self]; exact H0.out, HP0.out, Nat.le_refl _⟩
  case round =>
    obtain ⟨m, rfl, hm, hi, hat, hsz⟩ := hrel
    rcases Nat.eq_zero_or_pos m with h | h
    · subst h
      have HI := Lib.hid hi; clear hi hat
      gi_wp2
      go_end0
      exact ⟨⟨_, rfl⟩, W.heap.size, Nat.le_refl _, .inl HI.out⟩
    · obtain ⟨m, rfl⟩ : ∃ m', m = m' + 1 := ⟨m - 1, by omega⟩
      have hk : n - (m + 1) < n := by omega
      obtain ⟨fn, tmps, assign, body, hy, hR⟩ := HY.out (n - (m + 1)) wr hk (Nat.le_refl _) hsz hi
      rw [show n - 1 - (n - (m + 1)) = m by omega] at hy
      have HR := Lib.hid hR; clear hR hi
      have HAT := Lib.hid hat
      obtain ⟨c1, hrow⟩ := hat
      obtain ⟨fb, fo, hfa, f0, f1⟩ := cut_cells hrow (i := m) (by rw [← HN.out]; omega)
      obtain ⟨sa, sc⟩ := s
      dsimp only at hfa
      subst hfa
      have hc1 := hrow.le
      have hc2 := hrow.max
      rw [← HN.out] at hc1 c1
      dsimp only at hc1 hc2
      obtain ⟨c, hc⟩ : ∃ c, c = ctD lc m := ⟨_, rfl⟩
      rw [← hc] at f0 f1 hy
      have e1 : ((m + 1 : Nat) : Int) - 1 = (m : Int) := by omega
      have j0 : (0 : Int) ≤ (m : Int) := by omega
      have j1 : (m : Int) < (n : Int) := by omega
      have w2 : IntKind.i64.wrap ((m : Int) - 1) = (m : Int) - 1 := IntWalk.i64_in _ (by omega)
      rw [e1]
      clear hrow hc
      have q1c := cell_blk c1
      have q1f := frz_blk c1
      gi_wp2
      refine HR.out.mono ?_
      rintro e W3 (⟨rfl, hB3, hI3⟩ | ⟨rfl, hK3, hX⟩)
      · have HI3 := Lib.hid hI3; have HB3 := Lib.hid hB3
        clear hI3 hy hB3 q1c q1f f0 f1 c1
        gi_wp2
        go_roundw
        case rel =>
          refine ⟨m, by go_num, by omega, ?_, HK.out _ _ _ HAT.out HB3.out, Nat.le_trans hsz HB3.out.bel.size⟩
          have h2 := HI3.out
          rw [show n - (m + 1) + 1 = n - m by omega] at h2
          exact h2
        case measure => simp [intOf] <;> omega
      · have HX := Lib.hid hX
        clear hX hK3 hy
        gi_wp2
        refine bodyPost_ret (results_none rfl _ _ _) rfl ?_
        exact ⟨⟨_, rfl⟩, W.heap.size, Nat.le_refl _, .inr ⟨n - (m + 1), hk, HX.out⟩⟩
theorem backC_iter {bb B : Nat} {s : Sl} {lc : List Cut} (hn : lc.length ≤ 1000000) : IterB Tryz.prog 105 #[.pointer (some ⟨bb, 0, none⟩)] lc.length (fun k => #[.int .i64 ((lc.length - 1 - k : Nat) : Int), .agg #[.int .i64 (ctD lc (lc.length - 1 - k)).from_, .int .i64 (ctD lc (lc.length - 1 - k)).until_]]) B (BackAt bb s lc) :=
  fun T l I X W hp0 hpk _ h0 _ _ hY => callsIn_wide.2 (callsIn_wide.1 (backC_in Fence.wide rfl rfl hn T l I X W hp0 hpk h0 hY))
theorem bef_drop {l : List Cut} {k : Nat} (hk : k < l.length) (x : Int) : bef (l.drop k) x = befS (ctD l k) (bef (l.drop (k + 1)) x) := by
  have e : l.drop k = ctD l k :: l.drop (k + 1) := by
    rw [List.drop_eq_getElem_cons hk]
    unfold ctD; rw [List.getD_eq_getElem?_getD, List.getElem?_eq_getElem hk]; rfl
  rw [e, bef]
theorem bef_in {l : List Cut} (hl : CutsIn l) {x : Int} (hx : 0 ≤ x ∧ x ≤ 200000) : ∀ k, k ≤ l.length → 0 ≤ bef (l.drop (l.length - k)) x ∧ bef (l.drop (l.length - k)) x ≤ 200000 + 200001 * k
  | 0, _ => by rw [Nat.sub_zero, List.drop_length]; simp only [bef]; omega
  | k + 1, h => by
    have ih := bef_in hl hx k (by omega)
    rw [bef_drop (by omega), show l.length - (k + 1) + 1 = l.length - k by omega]
    have := hl (l.length - (k + 1)) (by omega)
    unfold befS long; split <;> omega
attribute [local go_sem] Oper.semAt_some
set_option maxRecDepth 100000 in
set_option maxHeartbeats 8000000 in
theorem before_any {l : List Cut} {s : Sl} {f x : Int} {w : World} (h : CutsS w s l) : Calls Tryz.prog 35 #[.int .i64 f, .slice s.a l.length s.cap, .int .i64 x] w fun e w' => e = .returned (.tuple #[.int .i64 (beforeV f l x).1, .int .i64 (beforeV f l x).2]) ∧ Ext2 w w' := by
  have HS := Lib.hid h
  have HMA := Lib.hid fun (W : World) (hW : Ext2 w W) => made_any (f := f) (h.below hW)
  have hle := h.le; have hmx := h.max
  have hok : (madeV f l).2 = 0 → ((madeV f l).1 ≤ 200000) ∧ CutsIn l ∧ l.length ≤ 30 ∧ 0 ≤ (madeV f l).1 := fun h0 => by
    unfold madeV at h0 ⊢
    split at h0
    · cases h0
    · rename_i h1
      have h2 := inB_iff.1 (by simpa using h1 : inB f 1 200000 = true)
      split at h0
      · cases h0
      · rename_i h3
        rw [if_neg h1, if_neg h3]
        have hk := madeK_ok h0
        have : ∀ {l : List Cut} {f g : Int}, CutsOk f l g → 0 ≤ f → 0 ≤ g ∧ g ≤ f := fun {l f g} h => by
          induction h with
          | nil f => intro h; omega
          | cons h0 h1 h2 h ih => intro h3; have := ih (by unfold long; omega); unfold long at this; omega
        have h5 := this hk (by omega)
        exact ⟨by omega, hk.inn h2.2, by omega, h5.1⟩
  obtain ⟨m1, hm1⟩ : ∃ m, m = (madeV f l).1 := ⟨_, rfl⟩
  obtain ⟨m2, hm2⟩ : ∃ m, m = (madeV f l).2 := ⟨_, rfl⟩
  have hA : beforeV f l x = if m2 ≠ 0 then (0, m2) else if inB x 0 (m1 - 1) = false then (0, 7) else (bef l x, 0) := by rw [hm2, hm1]; rfl
  rw [← hm1, ← hm2] at HMA
  rw [← hm2, ← hm1] at hok
  have HA := Lib.hid hA
  obtain ⟨⟨sa, sc⟩, hsq⟩ : ∃ s', s' = s := ⟨_, rfl⟩
  subst hsq
  dsimp only at hle hmx
  clear h hm1 hm2 hA
  refine calls_of_wp_marks Tryz.func35 rfl ?_
  simp only [Tryz.ntmps35, List.size_toArray, List.length_cons, List.length_nil, Nat.reduceAdd, Nat.reduceSub, Array.replicate_succ, Array.replicate_zero, List.push_toArray, List.append_toArray, List.nil_append, List.cons_append]
  go_upto_region 1 with (fail)
  refine wp_name ?_
  intro w3 hw3
  obtain ⟨n3, hn3⟩ : ∃ n, n = w.heap.size := ⟨_, rfl⟩
  have x3 : w3.heap[n3]? = some (.cells #[.int .i64 x] 3 (0, 0)) := by rw [hw3, hn3]; exact blk_new _ _
  have hE3 : Ext2 w w3 := by rw [hw3]; exact below_alloc' _ _
  have hlw : w.heap.size ≤ n3 := by omega
  rw [← hn3]
  have HE3 := Lib.hid hE3; have X3 := Lib.hid x3
  clear hw3 hn3 hE3 x3
  go_wp2_with (fail)
  (with_reducible refine (HMA.out w3 HE3.out).mono ?_)
  rintro e w4 ⟨rfl, hE4⟩
  have x4 := hE4.blk X3.out
  have HE4 := Lib.hid (ext_trans HE3.out hE4); have X4 := Lib.hid x4
  clear hE4
  have q4c := cell_blk x4
  have q4f := frz_blk x4
  clear x4
  by_cases he : m2 = 0
  · obtain ⟨hf, hin, hl30, hf0⟩ := hok he
    subst he
    have HIN := Lib.hid hin
    have w1' : IntKind.i64.wrap (m1 - 1) = m1 - 1 := IntWalk.i64_in _ (by omega)
    have HO : Hid (∀ W, Calls Tryz.prog 59 #[.int .i64 x, .int .i64 0, .int .i64 (m1 - 1)] W fun e w' => e = .returned (.bool (!inB x 0 (m1 - 1))) ∧ W = w') := Lib.hid fun W => by rw [← outB_in]; exact out_any _ _ _ W
    clear hin hok
    cases hv : inB x 0 (m1 - 1) with
    | false =>
      have hF : beforeV f l x = (0, 7) := by rw [HA.out, hv]; rfl
      have HF := Lib.hid hF
      have H1 := HO.out; rw [hv, Bool.not_false] at H1
      clear hF HO
      go_wp2_with (fail)
      (with_reducible refine (H1 _).mono ?_)
      rintro e w' ⟨rfl, rfl⟩
      go_wp2_with (fail)
      exact leaves_nil (v := .tuple #[.int .i64 0, .int .i64 7]) (by simp [results, Tryz.results35, go_sem]) ⟨by rw [HF.out], HE4.out⟩
    | true =>
      have H1 := HO.out; rw [hv, Bool.not_true] at H1
      have hx := inB_iff.1 hv
      have HF : Hid (beforeV f l x = (bef l x, 0)) := Lib.hid (by rw [HA.out, hv]; rfl)
      clear HO hv
      go_wp2_with (fail)
      (with_reducible refine (H1 _).mono ?_)
      rintro e w' ⟨rfl, rfl⟩
      go_wp2_with (fail)
      refine (backC_any _ _ _ _).mono ?_
      rintro e w5 ⟨rfl, hw5⟩
      obtain ⟨n5, hn5⟩ : ∃ n, n = w4.heap.size := ⟨_, rfl⟩
      have x5 : w5.heap[n5]? = some (.cells #[.slice sa l.length sc] 84 (0, 0)) := by rw [hw5, hn5]; exact blk_new _ _
      have hE5' : Ext2 w4 w5 := by rw [hw5]; exact below_alloc' _ _
      have X35 := Lib.hid (hE5'.blk X4.out)
      have hs5 : w5.heap.size = n5 + 1 := by rw [hw5, hn5]; simp
      have lt3 : n3 < n5 := by rw [hn5]; exact blk_lt X4.out
      have hE5 := ext_trans HE4.out hE5'
      have HE5 := Lib.hid hE5
      have hlw5 := hE5.size
      rw [← hn5]
      have hm : BackAt n5 ⟨sa, sc⟩ l w5 := ⟨x5, HS.out.below hE5⟩
      have HMM := Lib.hid hm
      have hsb : ∀ b off, sa = some ⟨b, off, none⟩ → 0 < l.length → 0 < 2 → b < n3 := fun b off ha hn hz => Nat.lt_of_lt_of_le (HS.out.block ha hn hz) hlw
      have HSB := Lib.hid hsb
      clear hw5 hn5 x5 hE5' hE5 hm q4c q4f hsb
      go_wp2_with (fail)
      refine wp_aname ?_
      intro a0 ha0
      refine sb_out (gf := 105) (lb := #[.pointer (some ⟨n5, 0, none⟩)]) (by rw [ha0]; rfl) (enters_of Tryz.func105 (by kernel_rfl) rfl) (backC_iter (bb := n5) (B := w.heap.size) (s := ⟨sa, sc⟩) (lc := l) (by omega)) (ts := fun _ g _ => g = n3)
        (fun C W1 W2 h1 h2 => ⟨h2.blk h1.box (by omega), RowS.kept h1.row (fun b off ha hn hz => HS.out.block ha hn hz) h2.bel⟩) (fun C g t hg _ => by omega) (fun _ => rfl)
        (fun C k W => Below w.heap.size w W ∧ W.heap[n3]? = some (.cells #[.int .i64 (bef (l.drop (l.length - k)) x)] 3 (0, 0)))
        (fun C k a' W => ∃ b9, W.heap[b9]? = some (Obj.cells #[.int .i64 (ctD l (l.length - 1 - k)).from_, .int .i64 (ctD l (l.length - 1 - k)).until_] 89) ∧ C ≤ b9 ∧ (Below w.heap.size w W ∧ W.heap[n3]? = some (.cells #[.int .i64 (bef (l.drop (l.length - k)) x)] 3 (0, 0))) ∧ a' = { tmps := ((a0.tmps.setIfInBounds 29 (.int .i64 ((l.length - 1 - k : Nat) : Int))).setIfInBounds 30 (.agg #[.int .i64 (ctD l (l.length - 1 - k)).from_, .int .i64 (ctD l (l.length - 1 - k)).until_])).setIfInBounds 11 (.pointer (some ⟨b9, 0, none⟩)), defers := [] })
        (fun cd C k W => False) ?hI ?hJ ?hX ?hBB ?hp0 ?h0 ?assign ?body ?done ?stop
      case hI => exact fun C k W W' hs hd => ⟨hs.1.trans (hd.bel.mono (by omega)), (hd.bel.block _ (by omega)).trans hs.2⟩
      case hJ =>
        rintro C k a' W W' ⟨b9, h1, h2, h3, h4⟩ hd
        exact ⟨b9, hd.keep _ _ _ _ h2 h1, h2, ⟨h3.1.trans (hd.bel.mono (by omega)), (hd.bel.block _ (by omega)).trans h3.2⟩, h4⟩
      case hX => exact fun _ _ _ _ _ h _ => h.elim
      case hBB => omega
      case hp0 => exact fun W hW => ⟨hW.blk HMM.out.box, HMM.out.row.below hW⟩
      case h0 => exact fun W hW => ⟨below_ext HE5.out hW, by rw [hW.blk X35.out, Nat.sub_zero, List.drop_length]; rfl⟩
      case assign =>
        rintro l9 C k W hk hCl hCW hi
        subst ha0
        gi_wp2
        have hsz := hi.1.size
        exact ⟨Bw.ext (below_alloc' _ _) hsz, W.heap.size, blk_new _ _, hCW, ⟨below_ext hi.1 (below_alloc' _ _), blk_alloc hi.2 _⟩, by simp only [List.setIfInBounds_toArray, List.set_cons_succ, List.set_cons_zero]⟩
      case body =>
        rintro l9 C k a' W hl9 hlC hr hk hCl hCW ⟨b9, x9, h9, ⟨hB, xb⟩, rfl⟩
        subst ha0
        simp only [List.setIfInBounds_toArray, List.set_cons_succ, List.set_cons_zero]
        have hbi := bef_in HIN.out (x := x) (by omega) k (by omega)
        have hbd := bef_drop (l := l) (k := l.length - (k + 1)) (by omega) x
        rw [show l.length - (k + 1) + 1 = l.length - k by omega] at hbd
        have hci := HIN.out (l.length - (k + 1)) (by omega)
        rw [show l.length - 1 - k = l.length - (k + 1) by omega] at x9 ⊢
        obtain ⟨c, hc⟩ : ∃ c, c = ctD l (l.length - (k + 1)) := ⟨_, rfl⟩
        obtain ⟨F, hF⟩ : ∃ F, F = bef (l.drop (l.length - k)) x := ⟨_, rfl⟩
        rw [← hc] at x9 hbd hci
        rw [← hF] at xb hbd hbi
        rw [← hc]
        have hk30 : (200001 : Int) * k ≤ 6000030 := by omega
        have HBD := Lib.hid hbd; have HB := Lib.hid hB; have XB := Lib.hid xb
        clear hc hF hbd
        have q9c := cell_blk x9
        have q9f := frz_blk x9
        have qbc := cell_blk xb
        have qbf := frz_blk xb
        by_cases hge : c.from_ ≤ F
        · have e2 : befS c F = F + long c := by unfold befS; rw [if_pos hge]
          have hlg : long c = c.until_ - c.from_ + 1 := rfl
          have HL : Hid (∀ W, Calls Tryz.prog 74 #[.agg #[.int .i64 c.from_, .int .i64 c.until_]] W fun e w' => e = .returned (.int .i64 (long c)) ∧ Below W.heap.size W w') := Lib.hid fun W => long_any c W (by omega) (by omega)
          have HBD2 := Lib.hid (HBD.out.trans e2)
          obtain ⟨L, hL⟩ : ∃ L, L = long c := ⟨_, rfl⟩
          rw [← hL] at HL hlg HBD2
          have w1' : IntKind.i64.wrap (F + L) = F + L := IntWalk.i64_in _ (by omega)
          clear e2 hL hlg
          gi_wp2
          refine round_region_ev [] [0, 1, 2, 3] [] [4] (by kernel_rfl) (by rintro ⟨a_, w_, h_⟩; exact h_) (by kernel_rfl) (by kernel_rfl) (by intro c a d v w h; cases d <;> exact h) ?_
          simp only [picks, List.drop_succ_cons, List.drop_zero]
          repeat (refine wpQ0_step (fun K hK => ?_); go_simp; (refine hK _ ?_; clear hK K))
          refine wpQ0_nil ?_
          repeat ((with_reducible refine wpQ2_step (fun K hK => ?_)); go_simp; first | ((with_reducible refine hK _ ?_); clear hK K) | (apply Exists.intro; refine ⟨fun x => ?_, hK _ ?_⟩; ((with_reducible exact HL.out x.1)); clear hK K))
          refine wpQ2_nil ?_
          refine Events.none_ fun W2 hE2 => ?_
          simp only [picks, List.drop_succ_cons, List.drop_zero]
          have xb2 := Ext2.blk hE2 xb
          have HE2 := Lib.hid hE2
          clear qbc qbf q9c q9f x9 xb hE2
          have qbc := cell_blk xb2
          have qbf := frz_blk xb2
          go_wp2_with (fail)
          gi_wp2
          have hlW := HB.out.size
          have hBB : Bw w.heap.size (fun g _ => g = n3) W (W2.setCell ⟨n3, 0, none⟩ (.int .i64 (F + L))) := (Bw.ext HE2.out hlW).trans (Bw.set xb2 rfl hlw _)
          refine ⟨hBB, HB.out.trans hBB.bel, ?_⟩
          rw [HBD2.out]
          exact blk_set xb2 _ _
        · have e2 : befS c F = F := by unfold befS; rw [if_neg hge]
          have HBD2 := Lib.hid (HBD.out.trans e2)
          clear e2
          gi_wp2
          refine ⟨Bw.refl _ _ _, HB.out, ?_⟩
          rw [HBD2.out]
          exact XB.out
      case done =>
        rintro d C W hd hC ⟨hB, xb⟩ hD
        subst ha0
        rw [Nat.sub_self, List.drop_zero] at xb
        obtain ⟨F, hFF⟩ : ∃ F, F = bef l x := ⟨_, rfl⟩
        rw [← hFF] at xb
        have HF2 : Hid (beforeV f l x = (F, 0)) := Lib.hid (by rw [HF.out, hFF])
        clear hFF
        have qbc := cell_blk xb
        have qbf := frz_blk xb
        go_wp2_with (fail)
        refine leaveM_take (by simp) hD ?_
        exact leaves_nil (v := .tuple #[.int .i64 F, .int .i64 0]) (by simp [results, Tryz.results35, go_sem]) ⟨by rw [HF2.out], below_put hB (by omega)⟩
      case stop => exact fun _ _ _ _ _ _ _ _ h _ => h.elim
  · have hF : beforeV f l x = (0, m2) := by rw [HA.out, if_pos he]
    have HF := Lib.hid hF
    have hne : (m2 != 0) = true := by simpa using he
    clear hF hok
    go_wp2_with (fail)
    exact leaves_nil (v := .tuple #[.int .i64 0, .int .i64 m2]) (by simp [results, Tryz.results35, go_sem]) ⟨by rw [HF.out], HE4.out⟩
end Go.Proofs.YtfcpiemapekffaaGreatDoor
