/-
  The reference: in, cuts, After, Before.
  The reference: After, Before.
-/
import Derived.Test.YtfcpiemapekffaaGreatDoorBCut
namespace Go.Proofs.YtfcpiemapekffaaGreatDoor
open Go.RowKit D
set_option linter.unusedVariables false
set_option linter.unusedSimpArgs false
attribute [local go_sem high] run_minI run_maxI
attribute [local go_sem] upon2 cls_cell cls_frozen forall_const exists_eq_left'
attribute [local go_sem] FirstUpon
theorem inR_any (n lo hi : Int) (w : World) : Calls Tryz.prog 62 #[.int .i64 n, .int .i64 lo, .int .i64 hi] w fun e w' => e = .returned (.bool (inB n lo hi)) ∧ w = w' := by
  by_cases h1 : lo ≤ n
  · go_enter Tryz.func62, Tryz.ntmps62
    go_wp2
    go_ret
    exact ⟨ret_bool (by simp [inB]; omega), rfl⟩
  · go_enter Tryz.func62, Tryz.ntmps62
    go_wp2
    go_ret
    exact ⟨ret_bool (by simp [inB]; omega), rfl⟩
theorem inR_hid {n lo hi : Int} {v : Bool} (h : v = inB n lo hi) : Hid (∀ W, Calls Tryz.prog 62 #[.int .i64 n, .int .i64 lo, .int .i64 hi] W fun e w' => e = .returned (.bool v) ∧ W = w') := Lib.hid fun W => by rw [h]; exact inR_any _ _ _ W
theorem inR_b {n lo hi : Int} {v : Bool} (h : v = inB n lo hi) : Hid (∀ W, Calls Tryz.prog 62 #[.int .i64 n, .int .i64 lo, .int .i64 hi] W fun e w' => e = .returned (.bool v) ∧ Below W.heap.size W w') := Lib.hid fun W => by rw [h]; exact (inR_any _ _ _ W).mono fun e w' ⟨a, b⟩ => ⟨a, by rw [← b]; exact Below.refl _ _⟩
theorem drop_ct {l : List Cut} {k : Nat} (hk : k < l.length) : l.drop k = ctD l k :: l.drop (k + 1) := by
  rw [List.drop_eq_getElem_cons hk]
  unfold ctD; rw [List.getD_eq_getElem?_getD, List.getElem?_eq_getElem hk]; rfl
set_option maxRecDepth 100000 in
set_option maxHeartbeats 2000000 in
theorem cutsR_any {l : List Cut} {s : Sl} {f : Int} {w : World} (h : CutsS w s l) : Calls Tryz.prog 76 #[.int .i64 f, .slice s.a l.length s.cap] w fun e w' => e = .returned (.tuple #[.int .i64 (madeV f l).1, .int .i64 (madeV f l).2]) ∧ Ext2 w w' := by
  have HS := Lib.hid h
  have hle := h.le; have hmx := h.max
  obtain ⟨sa, sc⟩ := s
  dsimp only at hle hmx
  clear h
  obtain ⟨m, hm⟩ : ∃ m, m = l.length := ⟨_, rfl⟩
  have HM := Lib.hid hm
  rw [← hm] at hle ⊢
  clear hm
  cases hf : inB f 1 200000 with
  | false =>
    have hv : madeV f l = (0, 7) := by unfold madeV; rw [if_pos hf]
    have H1 := inR_hid hf.symm
    rw [hv]
    clear hf hv
    go_enter Tryz.func76, Tryz.ntmps76
    go_wp2_with (fail)
    (with_reducible refine (H1.out _).mono ?_)
    rintro e w' ⟨rfl, rfl⟩
    go_wp2_with (fail)
    go_ret2
    exact ⟨rfl, Below.refl _ _⟩
  | true =>
  have H1 := inR_hid hf.symm
  by_cases hl : 30 < m
  · have hv : madeV f l = (0, 3) := by unfold madeV; rw [if_neg (by rw [hf]; simp), if_pos (by rw [← HM.out]; exact hl)]
    rw [hv]
    have hl' : (30 : Int) < (m : Int) := by omega
    clear hf hv
    go_enter Tryz.func76, Tryz.ntmps76
    go_wp2_with (fail)
    (with_reducible refine (H1.out _).mono ?_)
    rintro e w' ⟨rfl, rfl⟩
    go_wp2_with (fail)
    go_ret2
    exact ⟨rfl, Below.refl _ _⟩
  have hg : madeV f l = madeK f l := by unfold madeV; rw [if_neg (by rw [hf]; simp), if_neg (by rw [← HM.out]; exact hl)]
  rw [hg]
  have hl' : ¬ (30 : Int) < (m : Int) := by omega
  have hf2 := inB_iff.1 hf
  clear hf hg
  go_enter Tryz.func76, Tryz.ntmps76
  go_wp2_with (fail)
  (with_reducible refine (H1.out _).mono ?_)
  rintro e w' ⟨rfl, rfl⟩
  go_wp2_with (fail)
  go_loopw [0, 6] (fun v p wr => ∃ (k : Nat) (F : Int), v = .int .i64 F ∧ p = .int .i64 (k : Int) ∧ k ≤ m ∧ Ext2 w wr ∧ madeK f l = madeK F (l.drop k) ∧ 0 ≤ F ∧ F ≤ 200000) (fun _ p _ => m - (intOf p).toNat)
  case atStart => exact ⟨0, f, rfl, rfl, by omega, Below.refl _ _, rfl, by omega, by omega⟩
  case round =>
    clear H1
    obtain ⟨k, F, rfl, rfl, hk, hE, hD, hF0, hF1⟩ := hrel
    by_cases hlt : k < m
    · go_light
      obtain ⟨b, off, ha, c0, c1⟩ := cut_cells (HS.out.below hE) (i := k) (by have := HM.out; omega)
      dsimp only at ha
      subst ha
      have hD2 : madeK F (l.drop k) = if (inB (ctD l k).from_ 0 (F - 1) && inB (ctD l k).until_ 0 (F - 1)) = false then (0, 7) else if (ctD l k).until_ < (ctD l k).from_ then (0, 2) else madeK (F - long (ctD l k)) (l.drop (k + 1)) := by
        rw [drop_ct (by rw [← HM.out]; exact hlt), madeK]
      rw [hD2] at hD
      obtain ⟨c, hc⟩ : ∃ c, c = ctD l k := ⟨_, rfl⟩
      rw [← hc] at hD c0 c1
      have HD := Lib.hid hD; have HE := Lib.hid hE
      have h0 : (0 : Int) ≤ (k : Int) := by omega
      have h1 : (k : Int) < (m : Int) := by omega
      have w1' : IntKind.i64.wrap (F - 1) = F - 1 := IntWalk.i64_in _ (by omega)
      have w2' : IntKind.i64.wrap ((k : Int) + 1) = (k : Int) + 1 := IntWalk.i64_in _ (by omega)
      clear hD hD2 hc hE
      obtain ⟨v1, hv1⟩ : ∃ v, v = inB c.from_ 0 (F - 1) := ⟨_, rfl⟩
      obtain ⟨v2, hv2⟩ : ∃ v, v = inB c.until_ 0 (F - 1) := ⟨_, rfl⟩
      have H1 := inR_hid hv1; have H2 := inR_hid hv2
      have HV1 := Lib.hid hv1; have HV2 := Lib.hid hv2
      clear hv1 hv2
      cases v1 with
      | false =>
        have HF : Hid (madeK f l = (0, 7)) := Lib.hid (by rw [HD.out, ← HV1.out]; rfl)
        go_wp2_with (fail)
        (with_reducible refine (H1.out _).mono ?_)
        rintro e w' ⟨rfl, rfl⟩
        go_wp2_with (fail)
        go_ret2
        exact ⟨by rw [HF.out]; rfl, HE.out⟩
      | true =>
      cases v2 with
      | false =>
        have HF : Hid (madeK f l = (0, 7)) := Lib.hid (by rw [HD.out, ← HV1.out, ← HV2.out]; rfl)
        go_wp2_with (fail)
        (with_reducible refine (H1.out _).mono ?_)
        rintro e w' ⟨rfl, rfl⟩
        go_wp2_with (fail)
        (with_reducible refine (H2.out _).mono ?_)
        rintro e w' ⟨rfl, rfl⟩
        go_wp2_with (fail)
        go_ret2
        exact ⟨by rw [HF.out]; rfl, HE.out⟩
      | true =>
      have i1 := inB_iff.1 HV1.out.symm; have i2 := inB_iff.1 HV2.out.symm
      have d0 : decide ((0 : Int) ≤ (k : Int)) = true := decide_eq_true h0
      have d1 : decide ((k : Int) < (m : Int)) = true := decide_eq_true h1
      go_wp2_with (fail)
      (with_reducible refine (H1.out _).mono ?_)
      rintro e w' ⟨rfl, rfl⟩
      go_wp2_with (fail)
      (with_reducible refine (H2.out _).mono ?_)
      rintro e w' ⟨rfl, rfl⟩
      go_wp2_with (fail)
      by_cases hlt2 : c.until_ < c.from_
      · have HF : Hid (madeK f l = (0, 2)) := Lib.hid (by rw [HD.out, ← HV1.out, ← HV2.out, if_neg (by simp), if_pos hlt2])
        have d2 : decide (c.until_ < c.from_) = true := decide_eq_true hlt2
        clear hlt2
        refine region_ev [] [0, 1, 2, 3, 4, 5, 6, 7, 8, 9, 10] [] [] (by kernel_rfl) (by kernel_rfl) (by intro c a d v w h; cases d <;> exact h) ?_
        simp only [picks, List.drop_succ_cons, List.drop_zero]
        repeat (refine wpQ0_step (fun K hK => ?_); go_simp; (refine hK _ ?_; clear hK K))
        refine wpQ0_nil ?_
        repeat ((with_reducible refine wpQ2_step (fun K hK => ?_)); go_simp; first | ((with_reducible refine hK _ ?_); clear hK K) | (apply Exists.intro; refine ⟨fun x => ?_, hK _ ?_⟩; (fail); clear hK K))
        refine wpQ2_nil ?_
        refine Events.none_ fun w3 hg3 => ?_
        simp only [picks, List.drop_succ_cons, List.drop_zero]
        have HE3 := Lib.hid (ext_trans HE.out hg3)
        clear hg3 c0 c1
        go_wp2_with (fail)
        go_ret2
        exact ⟨by rw [HF.out]; rfl, HE3.out⟩
      · have HF : Hid (madeK f l = madeK (F - long c) (l.drop (k + 1))) := Lib.hid (by rw [HD.out, ← HV1.out, ← HV2.out, if_neg (by simp), if_neg hlt2])
        have d2 : decide (c.until_ < c.from_) = false := decide_eq_false hlt2
        obtain ⟨F2, hF2⟩ : ∃ F2, F2 = F - (c.until_ - c.from_ + 1) := ⟨_, rfl⟩
        have hb2 : 0 ≤ F2 ∧ F2 ≤ 200000 := by omega
        have u1 : IntKind.i64.wrap (c.until_ - c.from_) = c.until_ - c.from_ := IntWalk.i64_in _ (by omega)
        have u2 : IntKind.i64.wrap (c.until_ - c.from_ + 1) = c.until_ - c.from_ + 1 := IntWalk.i64_in _ (by omega)
        have u3 : IntKind.i64.wrap (F - (c.until_ - c.from_ + 1)) = F2 := by rw [← hF2]; exact IntWalk.i64_in _ (by omega)
        have HF2 := Lib.hid hF2
        clear hlt2 hF2 i1 i2
        refine region_ev [] [0, 1, 2, 3, 4, 5, 6, 7, 8, 9, 10] [] [] (by kernel_rfl) (by kernel_rfl) (by intro c a d v w h; cases d <;> exact h) ?_
        simp only [picks, List.drop_succ_cons, List.drop_zero]
        repeat (refine wpQ0_step (fun K hK => ?_); go_simp; (refine hK _ ?_; clear hK K))
        refine wpQ0_nil ?_
        repeat ((with_reducible refine wpQ2_step (fun K hK => ?_)); go_simp; first | ((with_reducible refine hK _ ?_); clear hK K) | (apply Exists.intro; refine ⟨fun x => ?_, hK _ ?_⟩; (fail); clear hK K))
        refine wpQ2_nil ?_
        refine Events.none_ fun w3 hg3 => ?_
        simp only [picks, List.drop_succ_cons, List.drop_zero]
        have HE3 := Lib.hid (ext_trans HE.out hg3)
        have c0 := ext_cell' hg3 c0; have c1 := ext_cell' hg3 c1
        clear hg3
        go_wp2_with (fail)
        refine region_ev [] [0, 1, 2, 3, 4, 5, 6, 7, 8, 9, 10, 11, 12, 13, 14] [] [] (by kernel_rfl) (by kernel_rfl) (by intro c a d v w h; cases d <;> exact h) ?_
        simp only [picks, List.drop_succ_cons, List.drop_zero]
        repeat (refine wpQ0_step (fun K hK => ?_); go_simp; (refine hK _ ?_; clear hK K))
        refine wpQ0_nil ?_
        repeat ((with_reducible refine wpQ2_step (fun K hK => ?_)); go_simp; first | ((with_reducible refine hK _ ?_); clear hK K) | (apply Exists.intro; refine ⟨fun x => ?_, hK _ ?_⟩; (fail); clear hK K))
        refine wpQ2_nil ?_
        refine Events.none_ fun w4 hg4 => ?_
        simp only [picks, List.drop_succ_cons, List.drop_zero]
        have HE4 := Lib.hid (ext_trans HE3.out hg4)
        clear hg4 c0 c1
        go_wp2_with (fail)
        go_roundw
        case rel => exact ⟨k + 1, F2, rfl, by go_num, by omega, HE4.out, by rw [HF.out, HF2.out]; rfl, hb2.1, hb2.2⟩
        case measure => simp [intOf]; omega
    · obtain rfl : k = m := by omega
      have hD2 : madeK f l = (F, 0) := by rw [hD, List.drop_of_length_le (by rw [HM.out]; omega)]; rfl
      have HDD := Lib.hid hD2
      clear hD hD2
      go_wp2_with (fail)
      go_ret2
      exact ⟨by rw [HDD.out]; rfl, hE⟩
end Go.Proofs.YtfcpiemapekffaaGreatDoor
namespace Go.Proofs.YtfcpiemapekffaaGreatDoor
open Go.RowKit D
set_option linter.unusedVariables false
set_option linter.unusedSimpArgs false
attribute [local go_sem high] run_minI run_maxI
attribute [local go_sem] upon2 cls_cell cls_frozen forall_const exists_eq_left'
attribute [local go_sem] FirstUpon
theorem cuts_low : ∀ {l : List Cut} {f g : Int}, CutsOk f l g → 0 ≤ f → 0 ≤ g
  | [], _, _, .nil _, h => h
  | c :: l, f, g, .cons h0 h1 h2 h, hf => cuts_low h (by unfold long; omega)
set_option maxRecDepth 100000 in
set_option maxHeartbeats 2000000 in
theorem afterR_any {l : List Cut} {s : Sl} {f x : Int} {w : World} (h : CutsS w s l) : Calls Tryz.prog 34 #[.int .i64 f, .slice s.a l.length s.cap, .int .i64 x] w fun e w' => e = .returned (.tuple #[.int .i64 (afterV f l x).1, .int .i64 (afterV f l x).2]) ∧ Ext2 w w' := by
  have HS := Lib.hid h
  have hle := h.le; have hmx := h.max
  have HMA := Lib.hid (cutsR_any (f := f) h)
  obtain ⟨sa, sc⟩ := s
  dsimp only at hle hmx HMA
  obtain ⟨V, hV⟩ : ∃ V, V = afterV f l x := ⟨_, rfl⟩
  have hVe := hV
  unfold afterV at hVe
  have hok := fun h : (madeV f l).2 = 0 => madeV_ok h
  obtain ⟨⟨m1, m2⟩, hm⟩ : ∃ p, p = madeV f l := ⟨_, rfl⟩
  rw [← hm] at hVe hok HMA
  rw [← hV]
  have HV := Lib.hid hVe
  obtain ⟨m, hml⟩ : ∃ m, m = l.length := ⟨_, rfl⟩
  have HM := Lib.hid hml
  rw [← hml] at hle HMA ⊢
  dsimp only at HMA hok
  clear h hV hVe hm hml
  go_enter Tryz.func34, Tryz.ntmps34
  go_wp2_with (fail)
  (with_reducible refine HMA.out.mono ?_)
  rintro e w3 ⟨rfl, hE3⟩
  have HE3 := Lib.hid hE3
  clear hE3 HMA
  by_cases he : m2 = 0
  case neg =>
    have hb : (m2 == 0) = false := by simpa using he
    have hb2 : (m2 != 0) = true := by simpa using he
    have HVV : Hid (V = (0, m2)) := Lib.hid (by rw [HV.out]; rw [if_pos he])
    clear he hok
    go_wp2_with (fail)
    go_ret2
    exact ⟨by rw [HVV.out]; rfl, HE3.out⟩
  obtain ⟨hf, hl30, -, hco⟩ := hok he
  have hci := hco.inn hf.2
  subst he
  have w1' : IntKind.i64.wrap (f - 1) = f - 1 := IntWalk.i64_in _ (by omega)
  obtain ⟨v1, hv1⟩ : ∃ v, v = inB x 0 (f - 1) := ⟨_, rfl⟩
  have H1 := inR_hid hv1
  have HV1 := Lib.hid hv1; have HCI := Lib.hid hci
  clear hco hci hv1 hok
  cases v1 with
  | false =>
    have HVV : Hid (V = (0, 7)) := Lib.hid (by rw [HV.out]; rw [if_neg (by simp), if_pos HV1.out.symm])
    go_wp2_with (fail)
    (with_reducible refine (H1.out _).mono ?_)
    rintro e w' ⟨rfl, rfl⟩
    go_wp2_with (fail)
    go_ret2
    exact ⟨by rw [HVV.out]; rfl, HE3.out⟩
  | true =>
  have hx := inB_iff.1 HV1.out.symm
  have HVV : Hid (V = match aft l x with | none => (0, 4) | some a => (a, 0)) := Lib.hid (by rw [HV.out]; rw [if_neg (by simp), if_neg (by rw [← HV1.out]; simp)]; cases aft l x <;> rfl)
  go_wp2_with (fail)
  (with_reducible refine (H1.out _).mono ?_)
  rintro e w' ⟨rfl, rfl⟩
  clear H1
  go_wp2_with (fail)
  go_loopw [2, 10] (fun v p wr => ∃ (k : Nat) (F : Int), v = .int .i64 F ∧ p = .int .i64 (k : Int) ∧ k ≤ m ∧ Ext2 w3 wr ∧ aft l x = aft (l.drop k) F ∧ 0 ≤ F ∧ F ≤ 200000) (fun _ p _ => m - (intOf p).toNat)
  case atStart => exact ⟨0, x, rfl, rfl, by omega, Below.refl _ _, rfl, by omega, by omega⟩
  case round =>
    obtain ⟨k, F, rfl, rfl, hk, hE, hD, hF0, hF1⟩ := hrel
    have HE := Lib.hid hE; have HD := Lib.hid hD
    clear hE hD
    by_cases hlt : k < m
    · go_light
      obtain ⟨b, off, ha, c0, c1⟩ := cut_cells ((HS.out.below HE3.out).below HE.out) (i := k) (by have := HM.out; omega)
      have hc := HCI.out k (by rw [← HM.out]; exact hlt)
      have had := aft_drop (l := l) (k := k) (by rw [← HM.out]; exact hlt) F
      have hgi := goneF_in hc ⟨hF0, hF1⟩
      dsimp only at ha
      subst ha
      obtain ⟨c, hcd⟩ : ∃ c, c = ctD l k := ⟨_, rfl⟩
      rw [← hcd] at c0 c1 hc had hgi
      have HAD := Lib.hid had
      have h0 : (0 : Int) ≤ (k : Int) := by omega
      have h1 : (k : Int) < (m : Int) := by omega
      have d0 : decide ((0 : Int) ≤ (k : Int)) = true := decide_eq_true h0
      have d1 : decide ((k : Int) < (m : Int)) = true := decide_eq_true h1
      have w2' : IntKind.i64.wrap ((k : Int) + 1) = (k : Int) + 1 := IntWalk.i64_in _ (by omega)
      have C0 := Lib.hid c0; have C1 := Lib.hid c1
      clear had hcd
      obtain ⟨v2, hv2⟩ : ∃ v, v = inB F c.from_ c.until_ := ⟨_, rfl⟩
      have H2 := inR_b hv2
      have HV2 := Lib.hid hv2
      clear hv2
      go_wp2_with (fail)
      refine region_ev [] [0, 1, 2, 3, 4, 5, 6, 7, 8, 9, 10, 11] [] [] (by kernel_rfl) (by kernel_rfl) (by intro c a d v w h; cases d <;> exact h) ?_
      simp only [picks, List.drop_succ_cons, List.drop_zero]
      repeat (refine wpQ0_step (fun K hK => ?_); go_simp; (refine hK _ ?_; clear hK K))
      refine wpQ0_nil ?_
      repeat ((with_reducible refine wpQ2_step (fun K hK => ?_)); go_simp; first | ((with_reducible refine hK _ ?_); clear hK K) | (apply Exists.intro; refine ⟨fun x => ?_, hK _ ?_⟩; ((with_reducible exact H2.out x.1)); clear hK K))
      refine wpQ2_nil ?_
      refine Events.none_ fun w4 hg4 => ?_
      simp only [picks, List.drop_succ_cons, List.drop_zero]
      have HE4 := Lib.hid (ext_trans HE.out hg4)
      have c0 := ext_cell' hg4 C0.out; have c1 := ext_cell' hg4 C1.out
      clear hg4 C0 C1 H2
      cases v2 with
      | true =>
        have hin := inB_iff.1 HV2.out.symm
        have HN : Hid (aft l x = none) := Lib.hid (by rw [HD.out, HAD.out, if_pos]; unfold goneB; rw [if_neg (by omega)]; exact decide_eq_true hin.1)
        clear hin
        go_wp2_with (fail)
        go_ret2
        exact ⟨by rw [HVV.out, HN.out]; rfl, ext_trans HE3.out HE4.out⟩
      | false =>
      have hnin : ¬ (c.from_ ≤ F ∧ F ≤ c.until_) := fun h => by have := inB_iff.2 h; rw [← HV2.out] at this; cases this
      by_cases hgt : c.until_ < F
      · have HN : Hid (aft l x = aft (l.drop (k + 1)) (F - long c)) := Lib.hid (by rw [HD.out, HAD.out, if_neg (by unfold goneB; rw [if_pos hgt]; simp)]; unfold goneF; rw [if_pos hgt])
        have hgf : goneF c F = F - (c.until_ - c.from_ + 1) := by unfold goneF long; rw [if_pos hgt]
        rw [hgf] at hgi
        have b1 : decide (c.until_ < F) = true := decide_eq_true hgt
        have u1 : IntKind.i64.wrap (c.until_ - c.from_) = c.until_ - c.from_ := IntWalk.i64_in _ (by omega)
        have u2 : IntKind.i64.wrap (c.until_ - c.from_ + 1) = c.until_ - c.from_ + 1 := IntWalk.i64_in _ (by omega)
        obtain ⟨F2, hF2⟩ : ∃ F2, F2 = F - (c.until_ - c.from_ + 1) := ⟨_, rfl⟩
        have u3 : IntKind.i64.wrap (F - (c.until_ - c.from_ + 1)) = F2 := by rw [← hF2]; exact IntWalk.i64_in _ (by omega)
        rw [← hF2] at hgi
        have HF2 := Lib.hid hF2
        have C0 := Lib.hid c0; have C1 := Lib.hid c1
        clear hnin hgf hF2
        go_wp2_with (fail)
        refine region_ev [] [0, 1, 2, 3, 4, 5, 6, 7, 8, 9, 10, 11, 12, 13, 14] [] [] (by kernel_rfl) (by kernel_rfl) (by intro c a d v w h; cases d <;> exact h) ?_
        simp only [picks, List.drop_succ_cons, List.drop_zero]
        repeat (refine wpQ0_step (fun K hK => ?_); go_simp; (refine hK _ ?_; clear hK K))
        refine wpQ0_nil ?_
        repeat ((with_reducible refine wpQ2_step (fun K hK => ?_)); go_simp; first | ((with_reducible refine hK _ ?_); clear hK K) | (apply Exists.intro; refine ⟨fun x => ?_, hK _ ?_⟩; (fail); clear hK K))
        refine wpQ2_nil ?_
        refine Events.none_ fun w5 hg5 => ?_
        simp only [picks, List.drop_succ_cons, List.drop_zero]
        have HE5 := Lib.hid (ext_trans HE4.out hg5)
        clear hg5 c0 c1
        go_wp2_with (fail)
        go_roundw
        case rel => exact ⟨k + 1, F2, rfl, by go_num, by omega, HE5.out, by rw [HN.out, HF2.out]; rfl, hgi.1, hgi.2⟩
        case measure => simp [intOf]; omega
      · have HN : Hid (aft l x = aft (l.drop (k + 1)) F) := Lib.hid (by
          rw [HD.out, HAD.out, if_neg (by unfold goneB; rw [if_neg hgt]; simp; omega)]; unfold goneF; rw [if_neg hgt])
        have b1 : decide (c.until_ < F) = false := decide_eq_false hgt
        clear hnin
        go_wp2_with (fail)
        go_roundw
        case rel => exact ⟨k + 1, F, rfl, by go_num, by omega, HE4.out, HN.out, hF0, hF1⟩
        case measure => simp [intOf]; omega
    · obtain rfl : k = m := by omega
      have HN : Hid (aft l x = some F) := Lib.hid (by rw [HD.out, List.drop_of_length_le (by rw [HM.out]; omega)]; rfl)
      go_wp2_with (fail)
      go_ret2
      exact ⟨by rw [HVV.out, HN.out]; rfl, ext_trans HE3.out HE.out⟩
set_option maxRecDepth 100000 in
set_option maxHeartbeats 2000000 in
theorem beforeR_any {l : List Cut} {s : Sl} {f x : Int} {w : World} (h : CutsS w s l) : Calls Tryz.prog 36 #[.int .i64 f, .slice s.a l.length s.cap, .int .i64 x] w fun e w' => e = .returned (.tuple #[.int .i64 (beforeV f l x).1, .int .i64 (beforeV f l x).2]) ∧ Ext2 w w' := by
  have HS := Lib.hid h
  have hle := h.le; have hmx := h.max
  have HMA := Lib.hid (cutsR_any (f := f) h)
  obtain ⟨sa, sc⟩ := s
  dsimp only at hle hmx HMA
  obtain ⟨V, hV⟩ : ∃ V, V = beforeV f l x := ⟨_, rfl⟩
  have hVe := hV
  unfold beforeV at hVe
  have hok := fun h : (madeV f l).2 = 0 => madeV_ok h
  obtain ⟨⟨m1, m2⟩, hm⟩ : ∃ p, p = madeV f l := ⟨_, rfl⟩
  rw [← hm] at hVe hok HMA
  rw [← hV]
  have HV := Lib.hid hVe
  obtain ⟨m, hml⟩ : ∃ m, m = l.length := ⟨_, rfl⟩
  have HM := Lib.hid hml
  rw [← hml] at hle HMA ⊢
  dsimp only at HMA hok
  clear h hV hVe hm hml
  go_enter Tryz.func36, Tryz.ntmps36
  go_wp2_with (fail)
  (with_reducible refine HMA.out.mono ?_)
  rintro e w3 ⟨rfl, hE3⟩
  have HE3 := Lib.hid hE3
  clear hE3 HMA
  by_cases he : m2 = 0
  case neg =>
    have hb : (m2 == 0) = false := by simpa using he
    have hb2 : (m2 != 0) = true := by simpa using he
    have HVV : Hid (V = (0, m2)) := Lib.hid (by rw [HV.out]; rw [if_pos he])
    clear he hok
    go_wp2_with (fail)
    go_ret2
    exact ⟨by rw [HVV.out]; rfl, HE3.out⟩
  obtain ⟨hf, hl30, -, hco⟩ := hok he
  have hci := hco.inn hf.2
  have hm30 : m ≤ 30 := by rw [HM.out]; exact hl30
  have hml2 := cuts_left hco; have hml1 := cuts_low hco (by omega)
  subst he
  have w1' : IntKind.i64.wrap (m1 - 1) = m1 - 1 := IntWalk.i64_in _ (by have := cuts_left hco; have := cuts_low hco (by omega); omega)
  obtain ⟨v1, hv1⟩ : ∃ v, v = inB x 0 (m1 - 1) := ⟨_, rfl⟩
  have H1 := inR_hid hv1
  have HV1 := Lib.hid hv1; have HCI := Lib.hid hci
  clear hco hci hv1 hok
  cases v1 with
  | false =>
    have HVV : Hid (V = (0, 7)) := Lib.hid (by rw [HV.out]; rw [if_neg (by simp), if_pos HV1.out.symm])
    go_wp2_with (fail)
    (with_reducible refine (H1.out _).mono ?_)
    rintro e w' ⟨rfl, rfl⟩
    go_wp2_with (fail)
    go_ret2
    exact ⟨by rw [HVV.out]; rfl, HE3.out⟩
  | true =>
  have hx := inB_iff.1 HV1.out.symm
  have HVV : Hid (V = (bef l x, 0)) := Lib.hid (by rw [HV.out]; rw [if_neg (by simp), if_neg (by rw [← HV1.out]; simp)])
  go_wp2_with (fail)
  (with_reducible refine (H1.out _).mono ?_)
  rintro e w' ⟨rfl, rfl⟩
  clear H1
  have u0 : IntKind.i64.wrap ((m : Int) - 1) = (m : Int) - 1 := IntWalk.i64_in _ (by omega)
  go_wp2_with (fail)
  go_loopw [2, 10] (fun v p wr => ∃ (k : Nat) (F : Int), v = .int .i64 F ∧ p = .int .i64 ((k : Int) - 1) ∧ k ≤ m ∧ Ext2 w3 wr ∧ F = bef (l.drop k) x ∧ 0 ≤ F ∧ F ≤ 200001 * (m - k + 1)) (fun _ p _ => (intOf p + 1).toNat)
  case atStart => exact ⟨m, x, rfl, rfl, by omega, Below.refl _ _, by rw [HM.out, List.drop_length]; rfl, by omega, by omega⟩
  case round =>
    obtain ⟨k, F, rfl, rfl, hk, hE, hD, hF0, hF1⟩ := hrel
    have HE := Lib.hid hE; have HD := Lib.hid hD
    clear hE hD
    by_cases hlt : 0 < k
    · go_light
      obtain ⟨q, rfl⟩ : ∃ q, k = q + 1 := ⟨k - 1, by omega⟩
      obtain ⟨b, off, ha, c0, c1⟩ := cut_cells ((HS.out.below HE3.out).below HE.out) (i := q) (by have := HM.out; omega)
      have hc := HCI.out q (by rw [← HM.out]; omega)
      have hbd : bef (l.drop q) x = befS (ctD l q) (bef (l.drop (q + 1)) x) := by rw [drop_ct (by rw [← HM.out]; omega)]; rfl
      rw [← HD.out] at hbd
      dsimp only at ha
      subst ha
      obtain ⟨c, hcd⟩ : ∃ c, c = ctD l q := ⟨_, rfl⟩
      rw [← hcd] at c0 c1 hc hbd
      have HBD := Lib.hid hbd
      replace HE := HE
      have e0 : (((q + 1 : Nat) : Int) - 1) = (q : Int) := by omega
      rw [e0]
      have h0 : (0 : Int) ≤ (q : Int) := by omega
      have h1 : (q : Int) < (m : Int) := by omega
      have d0 : decide ((0 : Int) ≤ (q : Int)) = true := decide_eq_true h0
      have d1 : decide ((q : Int) < (m : Int)) = true := decide_eq_true h1
      have w2' : IntKind.i64.wrap ((q : Int) - 1) = (q : Int) - 1 := IntWalk.i64_in _ (by omega)
      have C0 := Lib.hid c0; have C1 := Lib.hid c1
      clear hbd hcd e0
      by_cases hge : c.from_ ≤ F
      · have HN : Hid (bef (l.drop q) x = F + (c.until_ - c.from_ + 1)) := Lib.hid (by rw [HBD.out]; unfold befS; rw [if_pos hge]; rfl)
        have b1 : decide (c.from_ ≤ F) = true := decide_eq_true hge
        have u1 : IntKind.i64.wrap (c.until_ - c.from_) = c.until_ - c.from_ := IntWalk.i64_in _ (by omega)
        have u2 : IntKind.i64.wrap (c.until_ - c.from_ + 1) = c.until_ - c.from_ + 1 := IntWalk.i64_in _ (by omega)
        obtain ⟨F2, hF2⟩ : ∃ F2, F2 = F + (c.until_ - c.from_ + 1) := ⟨_, rfl⟩
        have hb2 : 0 ≤ F2 ∧ F2 ≤ 200001 * (m - q + 1) := by omega
        have u3 : IntKind.i64.wrap (F + (c.until_ - c.from_ + 1)) = F2 := by rw [← hF2]; exact IntWalk.i64_in _ (by omega)
        have HF2 := Lib.hid hF2
        clear hF2
        go_wp2_with (fail)
        refine region_ev [] [0, 1, 2, 3, 4, 5, 6, 7, 8, 9, 10, 11, 12, 13, 14] [] [] (by kernel_rfl) (by kernel_rfl) (by intro c a d v w h; cases d <;> exact h) ?_
        simp only [picks, List.drop_succ_cons, List.drop_zero]
        repeat (refine wpQ0_step (fun K hK => ?_); go_simp; (refine hK _ ?_; clear hK K))
        refine wpQ0_nil ?_
        repeat ((with_reducible refine wpQ2_step (fun K hK => ?_)); go_simp; first | ((with_reducible refine hK _ ?_); clear hK K) | (apply Exists.intro; refine ⟨fun x => ?_, hK _ ?_⟩; (fail); clear hK K))
        refine wpQ2_nil ?_
        refine Events.none_ fun w5 hg5 => ?_
        simp only [picks, List.drop_succ_cons, List.drop_zero]
        have HE5 := Lib.hid (ext_trans HE.out hg5)
        clear hg5 c0 c1
        go_wp2_with (fail)
        go_roundw
        case rel => exact ⟨q, F2, rfl, rfl, by omega, HE5.out, by rw [HN.out, HF2.out], hb2.1, hb2.2⟩
        case measure => (simp [intOf] <;> omega)
      · have HN : Hid (bef (l.drop q) x = F) := Lib.hid (by rw [HBD.out]; unfold befS; rw [if_neg hge])
        have b1 : decide (c.from_ ≤ F) = false := decide_eq_false hge
        clear c1
        go_wp2_with (fail)
        go_roundw
        case rel => exact ⟨q, F, rfl, rfl, by omega, HE.out, HN.out.symm, hF0, by omega⟩
        case measure => (simp [intOf] <;> omega)
    · obtain rfl : k = 0 := by omega
      have HN : Hid (bef l x = F) := Lib.hid (by rw [HD.out]; rfl)
      go_wp2_with (fail)
      go_ret2
      exact ⟨by rw [HVV.out, HN.out]; rfl, ext_trans HE3.out HE.out⟩
end Go.Proofs.YtfcpiemapekffaaGreatDoor
