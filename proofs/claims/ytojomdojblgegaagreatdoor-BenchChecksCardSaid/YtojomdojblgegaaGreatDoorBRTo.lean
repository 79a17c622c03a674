/-
  ref.Pieces, Torn.
-/
import Derived.Test.YtojomdojblgegaaGreatDoorBRA
import Derived.Test.YtojomdojblgegaaGreatDoorBRS
import Derived.Test.YtojomdojblgegaaGreatDoorBCoP
import Derived.Test.YtojomdojblgegaaGreatDoorBTrn
namespace Go.Proofs.YtojomdojblgegaaGreatDoor
open Go.RowKit D
set_option linter.unusedVariables false
set_option linter.unusedSimpArgs false
attribute [local go_sem high] run_minI run_maxI
attribute [local go_sem] upon2 cls_cell cls_frozen forall_const exists_eq_left'
attribute [local go_sem] FirstUpon atBlk_cell
theorem frames_nat {T : Task} (h : TaskOk T) : T.reel.frames = (T.reel.frames.toNat : Int) ∧ T.reel.frames.toNat ≤ 200000 := by
  have := h.reel.frames; omega
set_option maxRecDepth 100000 in
set_option maxHeartbeats 8000000 in
theorem piecesFR_any {T : Task} {t : TSl} {w : World} (hT : TaskAt w T t) : Calls Tryz.prog 29 #[.agg #[.string T.reel.name, .int .i64 T.reel.gauge, .int .i64 T.reel.base, .int .i64 T.reel.frames, .int .i64 T.reel.ylo, .int .i64 T.reel.yhi, .int .i64 T.reel.keep, .slice t.r.m.a T.reel.marks.length t.r.m.cap, .slice t.r.s.a T.reel.syms.length t.r.s.cap, .slice t.r.l.a T.reel.lens.length t.r.l.cap, .int .i64 T.whole.lo, .int .i64 T.whole.hi, .slice t.n.a T.notes.length t.n.cap]] w (PieOut w T) := by
  obtain ⟨E, hE⟩ : ∃ E, E = (checkV T).2.2 := ⟨_, rfl⟩
  have HV := Lib.hid fun (W : World) (hW : Ext2 w W) => validR_any (hT.below hW)
  have HT := Lib.hid hT
  rw [← hE] at HV
  have HEE := Lib.hid hE
  clear hT hE
  go_enter Tryz.func29, Tryz.ntmps29
  go_upto_region 1 with (fail)
  refine wp_name ?_
  intro w3 hw3
  obtain ⟨n3, hn3⟩ : ∃ n, n = w.heap.size := ⟨_, rfl⟩
  have x3 : w3.heap[n3]? = some (Obj.cells #[.string T.reel.name, .int .i64 T.reel.gauge, .int .i64 T.reel.base, .int .i64 T.reel.frames, .int .i64 T.reel.ylo, .int .i64 T.reel.yhi, .int .i64 T.reel.keep, .slice t.r.m.a T.reel.marks.length t.r.m.cap, .slice t.r.s.a T.reel.syms.length t.r.s.cap, .slice t.r.l.a T.reel.lens.length t.r.l.cap, .int .i64 T.whole.lo, .int .i64 T.whole.hi, .slice t.n.a T.notes.length t.n.cap] 38) := by rw [hw3, hn3]; exact blk_new _ _
  have hE3 : Ext2 w w3 := by rw [hw3]; exact below_alloc' _ _
  rw [← hn3]
  have HE3 := Lib.hid hE3; have X3 := Lib.hid x3
  clear hw3 hn3 hE3
  have q3c := cell_blk x3
  have q3f := frz_blk x3
  clear x3
  go_wp2_with (fail)
  (with_reducible refine (HV.out _ HE3.out).mono ?_)
  rintro e w4 ⟨rfl, hE4⟩
  have HE4 := Lib.hid (ext_trans HE3.out hE4)
  have x3 := Ext2.blk hE4 X3.out
  clear q3c q3f hE4 HV
  have q3c := cell_blk x3
  have q3f := frz_blk x3
  clear x3
  by_cases h0 : E = 0
  · subst h0
    have hok := task_ok HEE.out.symm
    obtain ⟨hf1, hf2⟩ := frames_nat hok
    have HSD := Lib.hid fun (W : World) (hW : Ext2 w W) => standingR_any (HT.out.below hW).nt (by have := hok.nn; omega)
    have HPC := Lib.hid fun (ns : Sl) (W : World) (hN : NotesS W ns (standV T.notes)) => piecesR_any (t := t) hf1 hf2 hN
    obtain ⟨N, hN⟩ : ∃ N, N = standV T.notes := ⟨_, rfl⟩
    obtain ⟨P, hP⟩ : ∃ P, P = pieceK N T.reel.frames.toNat := ⟨_, rfl⟩
    rw [← hN] at HSD HPC
    rw [← hP] at HPC
    have HP : Hid (P = pieceK (standV T.notes) T.reel.frames.toNat) := Lib.hid (by rw [hP, hN])
    obtain ⟨nl, hnl⟩ : ∃ n, n = N.length := ⟨_, rfl⟩
    obtain ⟨pl, hpl⟩ : ∃ n, n = P.length := ⟨_, rfl⟩
    rw [← hnl] at HSD HPC
    rw [← hpl] at HPC
    have HPL := Lib.hid hpl
    clear hok hf1 hf2 hN hP hnl hpl
    go_upto_region 4 with (fail)
    refine region_treeV (Ext2 w4) ((.flt [0, 1, 2] (.one 3 (.one 4 (.flt [5, 6] .leaf))))) (fun W h => h) (by kernel_rfl) (by kernel_rfl) (by intro c a d v w h; cases d <;> exact h) ?_
    intro u0 hu0
    have HU := Lib.hid hu0
    clear hu0
    refine wpV_flt ?_
    simp only [picks, List.drop_succ_cons, List.drop_zero]
    repeat ((with_reducible refine wpQS_step (fun K hK => ?_)); go_simp; ((with_reducible refine hK _ ?_); clear hK K))
    (with_reducible refine wpQS_nil ?_)
    refine wpV_one ?_
    simp only [picks, List.drop_succ_cons, List.drop_zero]
    go_wp2_with (fail)
    (with_reducible refine (HSD.out _ (ext_trans HE4.out HU.out)).mono ?_)
    rintro e u1 ⟨⟨⟨s1a, s1c⟩, rfl, hS1⟩, hE6⟩
    have HU1 := Lib.hid (ext_trans HU.out hE6); have HS1 := Lib.hid hS1
    clear hS1 hE6 q3c q3f
    go_wp2_with (fail)
    refine ⟨HU1.out, wpV_one ?_⟩
    simp only [picks, List.drop_succ_cons, List.drop_zero]
    go_wp2_with (fail)
    (with_reducible refine (HPC.out ⟨s1a, s1c⟩ _ HS1.out).mono ?_)
    rintro e u2 ⟨⟨⟨s2a, s2c⟩, rfl, hS2⟩, hE7⟩
    have HU2 := Lib.hid (ext_trans HU1.out hE7); have HS2 := Lib.hid hS2
    clear hS2 hE7
    go_wp2_with (fail)
    refine ⟨HU2.out, ?_⟩
    refine wpV_flt ?_
    simp only [picks, List.drop_succ_cons, List.drop_zero]
    repeat ((with_reducible refine wpQS_step (fun K hK => ?_)); go_simp; ((with_reducible refine hK _ ?_); clear hK K))
    (with_reducible refine wpQS_nil ?_)
    refine wpV_leaf ?_
    go_wp2_with (fail)
    go_ret2
    exact ⟨ext_trans HE4.out HU2.out, .inr ⟨HEE.out.symm, ⟨s2a, s2c⟩, by rw [← HP.out, ← HPL.out]; rfl, by rw [← HP.out]; exact HS2.out⟩⟩
  · have hb : (E != 0) = true := by simpa using h0
    have HNE := Lib.hid h0
    clear h0
    go_wp2_with (fail)
    go_ret2
    exact ⟨HE4.out, .inl ⟨by rw [← HEE.out]; exact HNE.out, by rw [← HEE.out]; rfl⟩⟩
theorem spD_set {P : List Span} {q i : Nat} {x : Span} (hq : q < P.length) : spD (P.set q x) i = if i = q then x else spD P i := by
  unfold spD
  rw [List.getD_eq_getElem?_getD, List.getD_eq_getElem?_getD, List.getElem?_set]
  by_cases h : q = i
  · subst h; simp [hq]
  · rw [if_neg h, if_neg (fun h' => h h'.symm)]
theorem spC_hi {P : List Span} {q i j : Nat} {k : Int} (hq : q < P.length) (hj : j < 2) : (if i = q ∧ j = 1 then Value.int .i64 k else spC P i j) = spC (P.set q { spD P q with hi := k }) i j := by
  unfold spC
  rw [spD_set hq]
  by_cases h : i = q
  · subst h
    rw [if_pos rfl]
    rcases j with _ | _ | j
    · simp
    · simp
    · omega
  · rw [if_neg h, if_neg (fun hh => h hh.1)]
theorem torn_len (N : List Note) : ∀ k, (tornK N k).length ≤ k
  | 0 => by simp [tornK]
  | k + 1 => by
    have := torn_len N k
    rw [tornK]
    split
    · omega
    · split
      · rw [List.length_set]; omega
      · rw [List.length_append, List.length_singleton]; omega
set_option maxRecDepth 100000 in
set_option maxHeartbeats 8000000 in
theorem tornR_any {T : Task} {t : TSl} {w : World} (hT : TaskAt w T t) : Calls Tryz.prog 32 #[.agg #[.string T.reel.name, .int .i64 T.reel.gauge, .int .i64 T.reel.base, .int .i64 T.reel.frames, .int .i64 T.reel.ylo, .int .i64 T.reel.yhi, .int .i64 T.reel.keep, .slice t.r.m.a T.reel.marks.length t.r.m.cap, .slice t.r.s.a T.reel.syms.length t.r.s.cap, .slice t.r.l.a T.reel.lens.length t.r.l.cap, .int .i64 T.whole.lo, .int .i64 T.whole.hi, .slice t.n.a T.notes.length t.n.cap]] w (TornOut w T) := by
  obtain ⟨E, hE⟩ : ∃ E, E = (checkV T).2.2 := ⟨_, rfl⟩
  have HV := Lib.hid fun (W : World) (hW : Ext2 w W) => validR_any (hT.below hW)
  have HT := Lib.hid hT
  rw [← hE] at HV
  have HEE := Lib.hid hE
  clear hT hE
  go_enter Tryz.func32, Tryz.ntmps32
  go_upto_region 1 with (fail)
  refine wp_name ?_
  intro w3 hw3
  obtain ⟨n3, hn3⟩ : ∃ n, n = w.heap.size := ⟨_, rfl⟩
  have x3 : w3.heap[n3]? = some (Obj.cells #[.string T.reel.name, .int .i64 T.reel.gauge, .int .i64 T.reel.base, .int .i64 T.reel.frames, .int .i64 T.reel.ylo, .int .i64 T.reel.yhi, .int .i64 T.reel.keep, .slice t.r.m.a T.reel.marks.length t.r.m.cap, .slice t.r.s.a T.reel.syms.length t.r.s.cap, .slice t.r.l.a T.reel.lens.length t.r.l.cap, .int .i64 T.whole.lo, .int .i64 T.whole.hi, .slice t.n.a T.notes.length t.n.cap] 38) := by rw [hw3, hn3]; exact blk_new _ _
  have hE3 : Ext2 w w3 := by rw [hw3]; exact below_alloc' _ _
  have HN3 : Hid (w.heap.size = n3) := Lib.hid hn3.symm
  have hz3 : n3 + 1 ≤ w3.heap.size := blk_lt x3
  rw [← hn3]
  have HE3 := Lib.hid hE3; have X3 := Lib.hid x3; have HZ3 := Lib.hid hz3
  clear hw3 hn3 hE3 hz3
  have q3c := cell_blk x3
  have q3f := frz_blk x3
  clear x3
  go_wp2_with (fail)
  (with_reducible refine (HV.out _ HE3.out).mono ?_)
  rintro e w4 ⟨rfl, hE4⟩
  have HE4 := Lib.hid (ext_trans HE3.out hE4)
  have x3 := Ext2.blk hE4 X3.out
  have X4 := Lib.hid x3
  clear q3c q3f hE4 HV
  have q3c := cell_blk x3
  have q3f := frz_blk x3
  clear x3
  by_cases h0 : E = 0
  case neg =>
    have hb : (E != 0) = true := by simpa using h0
    have HNE := Lib.hid h0
    clear h0
    go_wp2_with (fail)
    go_ret2
    exact ⟨HE4.out, .inl ⟨by rw [← HEE.out]; exact HNE.out, by rw [← HEE.out]; rfl⟩⟩
  subst h0
  have hok := task_ok HEE.out.symm
  obtain ⟨hf1, hf2⟩ := frames_nat hok
  have HSD := Lib.hid fun (W : World) (hW : Ext2 w W) => standingR_any (HT.out.below hW).nt (by have := hok.nn; omega)
  obtain ⟨F, hF⟩ : ∃ F, F = T.reel.frames.toNat := ⟨_, rfl⟩
  rw [← hF] at hf1 hf2
  obtain ⟨N, hN⟩ : ∃ N, N = standV T.notes := ⟨_, rfl⟩
  rw [← hN] at HSD
  have HFI := Lib.hid hf1; have HFB := Lib.hid hf2
  have HOUT : Hid (tornK (standV T.notes) T.reel.frames.toNat = tornK N F) := Lib.hid (by rw [hN, hF])
  obtain ⟨nl, hnl⟩ : ∃ n, n = N.length := ⟨_, rfl⟩
  have HNL := Lib.hid hnl
  rw [← hnl] at HSD
  clear hok hf1 hf2 hN hnl hF
  go_wp2_with (fail)
  (with_reducible refine (HSD.out _ HE4.out).mono ?_)
  rintro e w5 ⟨⟨⟨na, nc⟩, rfl, hS1⟩, hE5⟩
  have hAB := fun (W : World) (hW : Ext2 w5 W) (f : Int) => aboutR_any (kind := 2) (f := f) (RowS.below hS1 hW)
  rw [← HNL.out] at hAB
  dsimp only at hAB
  have HAB := Lib.hid hAB
  have HE5 := Lib.hid (ext_trans HE4.out hE5)
  have X5 := Lib.hid (Ext2.blk hE5 X4.out)
  have HZ5 : Hid (n3 < w5.heap.size) := Lib.hid (blk_lt X5.out)
  clear hS1 hE5 hAB HSD q3c q3f X4 HE4
  go_wp2_with (fail)
  go_loopw [6, 7] (fun v i wr => ∃ k : Nat, i = .int .i64 k ∧ k ≤ F ∧ Ext2 w5 wr ∧ wr.heap[n3]? = some (Obj.cells #[.string T.reel.name, .int .i64 T.reel.gauge, .int .i64 T.reel.base, .int .i64 T.reel.frames, .int .i64 T.reel.ylo, .int .i64 T.reel.yhi, .int .i64 T.reel.keep, .slice t.r.m.a T.reel.marks.length t.r.m.cap, .slice t.r.s.a T.reel.syms.length t.r.s.cap, .slice t.r.l.a T.reel.lens.length t.r.l.cap, .int .i64 T.whole.lo, .int .i64 T.whole.hi, .slice t.n.a T.notes.length t.n.cap] 38) ∧ OwnR wr w5.heap.size 31 2 v (tornK N k).length (spC (tornK N k))) (fun _ i _ => F - (intOf i).toNat)
  case atStart => exact ⟨0, rfl, by omega, Below.refl _ _, X5.out, own_nil _ _ _ _ _⟩
  case round =>
    obtain ⟨k, rfl, hk, hE, hx, hO⟩ := hrel
    obtain ⟨⟨oa, oc⟩, hv, hR⟩ := OwnR.sl hO
    dsimp only at hv
    subst hv
    have hle := hR.le; have hmx := hR.max
    have HPL : Hid ((tornK N k).length ≤ 200000) := Lib.hid (by have := torn_len N k; have := HFB.out; omega)
    have ht1 := tornK_false (l := N) (f := k); have ht2 := tornK_new (l := N) (f := k); have ht3 := tornK_set (l := N) (f := k)
    obtain ⟨P, hP⟩ : ∃ P, P = tornK N k := ⟨_, rfl⟩
    rw [← hP] at hR hO hle HPL ht1 ht2 ht3 ⊢
    obtain ⟨n, hn⟩ : ∃ n, n = P.length := ⟨_, rfl⟩
    rw [← hn] at hO hle HPL ht2 ht3 ⊢
    dsimp only at hle hmx
    have HE := Lib.hid hE; have HX := Lib.hid hx; have HO := Lib.hid hO; have HNP := Lib.hid hn; have HPP := Lib.hid hP; have HR := Lib.hid hR
    have HT1 := Lib.hid ht1; have HT2 := Lib.hid ht2; have HT3 := Lib.hid ht3
    have q3c := cell_blk hx
    have q3f := frz_blk hx
    clear hE hx hO hn hP hR ht1 ht2 ht3
    by_cases hlt : k < F
    · go_light
      have h1 : (k : Int) < T.reel.frames := by rw [HFI.out]; omega
      have hfb := HFB.out
      have w1' : IntKind.i64.wrap ((k : Int) + 1) = (k : Int) + 1 := IntWalk.i64_in _ (by omega)
      have w0' : IntKind.i64.wrap ((k : Int) - 1) = (k : Int) - 1 := IntWalk.i64_in _ (by omega)
      have HA2 := Lib.hid fun W hW => HAB.out W hW (k : Int)
      obtain ⟨l2, hl2⟩ : ∃ b, b = about N 2 (k : Int) := ⟨_, rfl⟩
      rw [← hl2] at HA2 HT1 HT2 HT3
      clear hl2
      go_wp2_with (fail)
      (with_reducible refine (HA2.out _ HE.out).mono ?_)
      rintro e w6 ⟨rfl, hE6⟩
      have HE6 := Lib.hid (ext_trans HE.out hE6)
      have X6 := Lib.hid (Ext2.blk hE6 HX.out)
      have HO6 := Lib.hid (HO.out.below hE6)
      have HR6 := Lib.hid (HR.out.below hE6)
      clear hE6 q3c q3f HA2
      cases l2 with
      | false =>
        have HK : Hid (tornK N (k + 1) = P) := Lib.hid (HT1.out rfl)
        clear HT1 HT2 HT3
        go_wp2_with (fail)
        go_roundw
        case rel => exact ⟨k + 1, by go_num, by omega, HE6.out, X6.out, by rw [HK.out, ← HNP.out]; exact HO6.out⟩
        case measure => simp [intOf]; omega
      | true =>
        rcases Nat.eq_zero_or_pos n with h0 | h0
        · subst h0
          have HK : Hid (tornK N (k + 1) = P ++ [⟨(k : Int), (k : Int)⟩]) := Lib.hid (HT2.out rfl (fun h => absurd h.1 (by omega)))
          have e0 : IntKind.i64.wrap ((0 : Int) - 1) = -1 := by decide
          clear HT1 HT2 HT3
          go_wp2_with (at_builtin; go_loud (refine app_one_at [.int .i64 (k : Int), .int .i64 (k : Int)] elSpan rfl _ _ rfl w5.heap.size rfl (HO6.out.below (below_alloc' _ _)) w6.heap.size 1 rfl (blk_new _ _) (by simp [Value.oneCell']) (by have := HPL.out; omega) (by have := HE6.out.size; simp; omega) ?_; intro v' w7 hO7 hg7 _; (have HE7 := Lib.hid (ext_grown (ext_trans HE6.out (below_alloc' _ _)) hg7 (own_block HO6.out))); (have X7 := Lib.hid (app_blk HO6.out hg7 X6.out (by decide))); (have HO7 : Hid (OwnR w7 w5.heap.size 31 2 v' (0 + 1) (spC (P ++ [⟨(k : Int), (k : Int)⟩]))) := Lib.hid (by have hl : P.length = 0 := HNP.out.symm; have h7 := own_sp (w := w7) (base := w5.heap.size) (e := 31) (v := v') (L := P) (x := ⟨(k : Int), (k : Int)⟩) (by rw [hl]; exact hO7); rwa [List.length_append, List.length_singleton, hl] at h7)); clear hO7 hg7))
          go_roundw
          case rel => exact ⟨k + 1, by go_num, by omega, HE7.out, X7.out, by rw [HK.out, List.length_append, List.length_singleton, show P.length = 0 from HNP.out.symm]; exact HO7.out⟩
          case measure => simp [intOf]; omega
        · obtain ⟨q, rfl⟩ : ∃ q, n = q + 1 := ⟨n - 1, by omega⟩
          obtain ⟨g, off, hga, c0, c1⟩ := sp_cells HR6.out (i := q) (by rw [← HNP.out]; omega)
          dsimp only at hga
          subst hga
          obtain ⟨g', cap', hv', hG3, -, -, hRC, hfz⟩ := own_some HO6.out (by omega)
          obtain ⟨rfl, rfl⟩ : g = g' ∧ off = 0 := by
            have : (⟨g, off, none⟩ : Addr) = ⟨g', 0, none⟩ := by injection hv' with h1 _ _; exact Option.some.inj h1
            cases this; exact ⟨rfl, rfl⟩
          have HG3 := Lib.hid hG3
          have f1 := hfz (q * 2 + 1)
          rw [Nat.zero_add] at c0 c1
          have ht2 := HT2.out; have ht3 := HT3.out
          rw [show q + 1 - 1 = q by omega] at ht2 ht3
          obtain ⟨ph, hph⟩ : ∃ b, b = (spD P q).hi := ⟨_, rfl⟩
          rw [← hph] at c1 ht2 ht3
          have w2' : IntKind.i64.wrap (((q + 1 : Nat) : Int) - 1) = (q : Int) := by rw [IntWalk.i64_in _ (by have := HPL.out; omega)]; omega
          have w3' : IntKind.i64.wrap ((q : Int) + 1 - 1) = (q : Int) := by rw [IntWalk.i64_in _ (by have := HPL.out; omega)]; omega
          have e0 : (0 : Int) ≤ (q : Int) := by omega
          have e1 : (q : Int) < (q : Int) + 1 := by omega
          by_cases hpk : ph = (k : Int) - 1
          · have HK : Hid (tornK N (k + 1) = P.set q { spD P q with hi := (k : Int) }) := Lib.hid (ht3 rfl ⟨by omega, hpk⟩)
            have b1 : (ph == (k : Int) - 1) = true := by simpa using hpk
            clear ht2 ht3 hpk hph hv' hRC hfz c0 hG3 HT1 HT2 HT3
            go_wp2_with (fail)
            go_roundw
            case rel => exact ⟨k + 1, by go_num, by omega, below_set HE6.out HG3.out, blk_set_ne X6.out (by have := HG3.out; have := HE5.out.size; have := HZ5.out; omega), by rw [HK.out, List.length_set, show P.length = q + 1 from HNP.out.symm]; have h7 := OwnR.set (j := 1) (i := q) HO6.out (by omega) (by omega) (.int .i64 (k : Int)); exact OwnR.congr h7 fun i j hi hj => spC_hi (by rw [← HNP.out]; omega) hj⟩
            case measure => simp [intOf]; omega
          · have HK : Hid (tornK N (k + 1) = P ++ [⟨(k : Int), (k : Int)⟩]) := Lib.hid (ht2 rfl (fun h => hpk h.2))
            have b1 : (ph == (k : Int) - 1) = false := by simpa using hpk
            clear ht2 ht3 hpk hph hv' hRC hfz c0 hG3 HT1 HT2 HT3
            go_wp2_with (at_builtin; go_loud (refine app_one_at [.int .i64 (k : Int), .int .i64 (k : Int)] elSpan rfl _ _ rfl w5.heap.size rfl (HO6.out.below (below_alloc' _ _)) w6.heap.size 1 rfl (blk_new _ _) (by simp [Value.oneCell']) (by have := HPL.out; omega) (by have := HE6.out.size; simp; omega) ?_; intro v' w7 hO7 hg7 _; (have HE7 := Lib.hid (ext_grown (ext_trans HE6.out (below_alloc' _ _)) hg7 (own_block HO6.out))); (have X7 := Lib.hid (app_blk HO6.out hg7 X6.out (by decide))); (have HO7 : Hid (OwnR w7 w5.heap.size 31 2 v' ((q + 1) + 1) (spC (P ++ [⟨(k : Int), (k : Int)⟩]))) := Lib.hid (by have hl : P.length = (q + 1) := HNP.out.symm; have h7 := own_sp (w := w7) (base := w5.heap.size) (e := 31) (v := v') (L := P) (x := ⟨(k : Int), (k : Int)⟩) (by rw [hl]; exact hO7); rwa [List.length_append, List.length_singleton, hl] at h7)); clear hO7 hg7))
            go_roundw
            case rel => exact ⟨k + 1, by go_num, by omega, HE7.out, X7.out, by rw [HK.out, List.length_append, List.length_singleton, show P.length = (q + 1) from HNP.out.symm]; exact HO7.out⟩
            case measure => simp [intOf]; omega
    · obtain rfl : F = k := by omega
      have h1 : ¬ (F : Int) < T.reel.frames := by rw [HFI.out]; omega
      go_wp2_with (fail)
      go_ret2
      exact ⟨below_ext HE5.out HE.out, .inr ⟨HEE.out.symm, ⟨oa, oc⟩, by rw [HOUT.out, ← HPP.out, ← HNP.out]; rfl, by rw [HOUT.out, ← HPP.out]; exact HR.out⟩⟩
end Go.Proofs.YtojomdojblgegaaGreatDoor
