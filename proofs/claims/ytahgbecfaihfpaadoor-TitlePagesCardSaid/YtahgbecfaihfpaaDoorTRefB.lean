/-
  ref.bests.
-/
import Derived.Test.YtahgbecfaihfpaaDoorTRefL
import Derived.Test.YtahgbecfaihfpaaDoorTPlBest
namespace Go.Proofs.YtahgbecfaihfpaaDoor
open Go.RowKit D
set_option linter.unusedVariables false
set_option linter.unusedSimpArgs false
attribute [local go_sem high] run_minI run_maxI
attribute [local go_sem] upon2 cls_cell cls_frozen forall_const exists_eq_left'
attribute [local go_sem] FirstUpon
theorem ite_undef {c : Prop} [Decidable c] {A B : Prop} (hc : ¬ c) (h : B) : if c then A else B := by rw [if_neg hc]; exact h
theorem elBest : Elem Tryd.prog 130 133 (.agg #[.int .i64 0, .int .i64 0, .int .i64 0]) 3 24 := ⟨by kernel_rfl, by kernel_rfl, rfl, by omega, by omega⟩
/-- While the best ends are sought. -/
structure BsSt (w W : World) (F : Font) (s : FSl) (R : Rul) (fb rb ob n : Nat) (T : Nat → Rst) : Prop where
  bel : Below w.heap.size w W
  f : W.heap[fb]? = some (Obj.cells #[.int .i64 F.high, .int .i64 F.space, .slice s.g.a F.glyphs.length s.g.cap, .slice s.k.a F.kerns.length s.k.cap] 25 (0, 0))
  r : W.heap[rb]? = some (Obj.cells #[.int .i64 R.measure, .int .i64 R.lines, .int .i64 R.lead, .int .i64 R.short, .int .i64 R.extra, .int .i64 R.ink] 34 (0, 0))
  own : OwnR W ob 133 3 (.slice (some ⟨ob, 0, none⟩) (n + 1) (n + 1)) (n + 1) (rstC T)
  lo : w.heap.size ≤ ob
  nf : fb ≠ ob
  nr : rb ≠ ob
theorem BsSt.ext {w W W' : World} {F : Font} {s : FSl} {R : Rul} {fb rb ob n : Nat} {T : Nat → Rst} (h : BsSt w W F s R fb rb ob n T) (hb : Ext2 W W') : BsSt w W' F s R fb rb ob n T := ⟨below_ext h.bel hb, Ext2.blk hb h.f, Ext2.blk hb h.r, h.own.below hb, h.lo, h.nf, h.nr⟩
theorem BsSt.congr {w W : World} {F : Font} {s : FSl} {R : Rul} {fb rb ob n : Nat} {T T' : Nat → Rst} (h : BsSt w W F s R fb rb ob n T) (he : ∀ j, j ≤ n → T j = T' j) : BsSt w W F s R fb rb ob n T' :=
  ⟨h.bel, h.f, h.r, h.own.congr fun i j hi hj => by unfold rstC; rw [he i (by omega)], h.lo, h.nf, h.nr⟩
theorem BsSt.put {w W : World} {F : Font} {s : FSl} {R : Rul} {fb rb ob n : Nat} {T : Nat → Rst} (h : BsSt w W F s R fb rb ob n T) {i : Nat} (hi : i ≤ n) (c l e : Int) :
    BsSt w (((W.setCell ⟨ob, i * 3, none⟩ (.int .i64 c)).setCell ⟨ob, i * 3 + 1, none⟩ (.int .i64 l)).setCell ⟨ob, i * 3 + 2, none⟩ (.int .i64 e)) F s R fb rb ob n (fun x => if x = i then ⟨c, l, e⟩ else T x) := by
  refine ⟨below_set (below_set (below_set h.bel h.lo) h.lo) h.lo, ?_, ?_, ?_, h.lo, h.nf, h.nr⟩
  · rw [set_oth _ _ h.nf, set_oth _ _ h.nf, set_oth _ _ h.nf]; exact h.f
  · rw [set_oth _ _ h.nr, set_oth _ _ h.nr, set_oth _ _ h.nr]; exact h.r
  · refine OwnR.congr (h.own.set3 (i := i) (by omega) _ _ _) fun i' j' _ hj' => ?_
    by_cases hii : i' = i
    · subst hii
      rcases (by omega : j' = 0 ∨ j' = 1 ∨ j' = 2) with rfl | rfl | rfl <;> simp [rstC]
    · simp only [if_neg hii, rstC]
theorem BsSt.at {w W : World} {F : Font} {s : FSl} {R : Rul} {fb rb ob n : Nat} {T : Nat → Rst} (h : BsSt w W F s R fb rb ob n T) {i : Nat} (hi : i ≤ n) : W.cell? ⟨ob, i * 3, none⟩ = some (.int .i64 (T i).cost) ∧ W.cell? ⟨ob, i * 3 + 1, none⟩ = some (.int .i64 (T i).lines) ∧ W.cell? ⟨ob, i * 3 + 2, none⟩ = some (.int .i64 (T i).end_) ∧ ∀ o, W.frozen? ⟨ob, o, none⟩ = false := by
  obtain ⟨h1, h2, -⟩ := h.own.row
  obtain ⟨a, b, c⟩ := h1.three (i := i) (by omega)
  rw [Nat.zero_add] at a b c
  exact ⟨a, b, c, h2⟩
set_option maxRecDepth 100000 in
set_option maxHeartbeats 8000000 in
theorem bestsR_any {F : Font} {s : FSl} {R : Rul} {P : List ByteArray} {s1 s2 : Sl} {w : World} (hk : FontOk F) (hr : RulOk F R) (ht : TextOk F R P) (h1 : StrsS w s1 P) (h2 : IntsS w s2 (widL F P)) :
    Calls Tryd.prog 70 #[.agg #[.int .i64 F.high, .int .i64 F.space, .slice s.g.a F.glyphs.length s.g.cap, .slice s.k.a F.kerns.length s.k.cap], .agg #[.int .i64 R.measure, .int .i64 R.lines, .int .i64 R.lead, .int .i64 R.short, .int .i64 R.extra, .int .i64 R.ink], .slice s1.a P.length s1.cap, .slice s2.a P.length s2.cap] w fun e w' => (∃ ob, e = .returned (.slice (some ⟨ob, 0, none⟩) (P.length + 1) (P.length + 1)) ∧ RowS w' ⟨some ⟨ob, 0, none⟩, P.length + 1⟩ 3 (P.length + 1) (rstC (restS F R P))) ∧ Below w.heap.size w w' := by
  have hn40 := ht.n40; have hn1 := ht.n1
  have h1c := h1.le; have h1m := h1.max; have h2c := h2.le; have h2m := h2.max
  rw [widL_len] at h2c
  have HK := Lib.hid hk; have HRO := Lib.hid hr; have HTX := Lib.hid ht; have H1 := Lib.hid h1; have H2 := Lib.hid h2
  obtain ⟨n, hn⟩ : ∃ n, n = P.length := ⟨_, rfl⟩
  have wl : IntKind.i64.wrap ((P.length : Int) + 1) = (P.length : Int) + 1 := IntWalk.i64_in _ (by omega)
  have wm : IntKind.i64.wrap ((P.length : Int) - 1) = (P.length : Int) - 1 := IntWalk.i64_in _ (by omega)
  clear hk hr ht h1 h2
  go_enter Tryd.func70, Tryd.ntmps70
  go_wp2_with (at_make; refine wpList_mk elBest rfl _ rfl (P.length + 1) rfl (by omega) ?_)
  refine wp_name ?_
  intro w1 hw1
  obtain ⟨ob, hob⟩ : ∃ x, x = w.heap.size + 1 + 1 := ⟨_, rfl⟩
  have hS1 : BsSt w w1 F s R w.heap.size (w.heap.size + 1) ob P.length (rT F R P 0) := by
    refine ⟨?_, ?_, ?_, ?_, by omega, by omega, by omega⟩
    · rw [hw1]; repeat' (first | exact Below.refl _ _ | assumption | refine below_drewN ?_ _ | refine Below.drew ?_ | refine Below.alloc ?_ (by first | assumption | omega | (simp <;> omega)) _ | refine Below.setCell ?_ (by first | assumption | omega | (simp <;> omega)) _ | refine Ext2.on (by assumption) ?_)
    · rw [hw1]; exact blk_alloc (blk_alloc (blk_new _ _) _) _
    · rw [hw1]; exact blk_alloc (blk_new' _ _ (by simp)) _
    · refine OwnR.congr (own_made (z := #[.int .i64 0, .int .i64 0, .int .i64 0]) rfl (by omega) (by unfold maxLen; omega) (Nat.le_refl _) (by rw [hw1, hob]; exact blk_new' _ _ (by simp))) fun i j _ hj => ?_
      rcases (by omega : j = 0 ∨ j = 1 ∨ j = 2) with rfl | rfl | rfl <;> rfl
  rw [← hob]
  have HS1 := Lib.hid hS1
  clear hw1 hob hS1 wl hn
  go_loopw [10] (fun i wr => ∃ m : Nat, i = .int .i64 ((m : Int) - 1) ∧ m ≤ P.length ∧ BsSt w wr F s R w.heap.size (w.heap.size + 1) ob P.length (rT F R P (P.length - m))) (fun i _ => (intOf i + 1).toNat)
  case atStart => exact ⟨P.length, rfl, Nat.le_refl _, by rw [Nat.sub_self]; exact HS1.out⟩
  case round =>
    obtain ⟨m, rfl, hm, hS⟩ := hrel
    have HS := Lib.hid hS
    clear hS
    by_cases h0 : 0 < m
    · obtain ⟨i, rfl⟩ : ∃ i, m = i + 1 := ⟨m - 1, by omega⟩
      have e : ((i + 1 : Nat) : Int) - 1 = (i : Int) := by omega
      rw [e]
      clear e h0
      obtain ⟨U, hU⟩ : ∃ U, U = rT F R P (P.length - (i + 1)) := ⟨_, rfl⟩
      have hU0 : U i = ⟨0, 0, 0⟩ := by rw [hU]; exact rT_zero F R P _ _ (by omega) (by omega)
      have hUr : ∀ j, i < j → j ≤ P.length → U j = restS F R P j := fun j h1 h2 => by rw [hU]; exact rT_rest F R P (by omega) (by omega)
      have hstep : rT F R P (P.length - i) = fun j => if j = i then innS F R P U i (kmax F R P i) else U j := by
        rw [show P.length - i = (P.length - (i + 1)) + 1 by omega, rT, show P.length - (P.length - (i + 1) + 1) = i by omega, ← hU]
      rw [← hU] at HS
      have HU0 := Lib.hid hU0; have HUR := Lib.hid hUr; have HSTEP := Lib.hid hstep
      have i0 : (i : Int) ≥ 0 := by omega
      have wi : IntKind.i64.wrap ((i : Int) - 1) = (i : Int) - 1 := IntWalk.i64_in _ (by omega)
      clear hU hU0 hUr hstep
      go_wp2_with (fail)
      go_loopw [11] (fun q wr => ∃ k : Nat, q = .int .i64 (k : Int) ∧ i ≤ k ∧ k ≤ P.length ∧ BsSt w wr F s R w.heap.size (w.heap.size + 1) ob P.length (fun j => if j = i then dwnS F R P U i (P.length - k) else U j)) (fun q _ => (intOf q).toNat)
      case atStart =>
        refine ⟨P.length, rfl, by omega, Nat.le_refl _, HS.out.congr fun j hj => ?_⟩
        by_cases hji : j = i
        · rw [if_pos hji, Nat.sub_self, hji, HU0.out]; rfl
        · rw [if_neg hji]
      case round =>
        obtain ⟨k, rfl, hik, hkn, hS⟩ := hrel
        have HSk := Lib.hid hS
        by_cases hlt : i < k
        · have r1 : (k : Int) > (i : Int) := by omega
          have wk : IntKind.i64.wrap ((k : Int) - 1) = (k : Int) - 1 := IntWalk.i64_in _ (by omega)
          have hLN := lineR_any (s := s) (s1 := s1) (s2 := s2) (w := wr) HK.out HRO.out HTX.out (RowS.below H1.out hS.bel) (RowS.below H2.out hS.bel) (a := i) (z := k) hlt hkn
          have hLN : Calls Tryd.prog 58 #[.agg #[.int .i64 F.high, .int .i64 F.space, .slice s.g.a F.glyphs.length s.g.cap, .slice s.k.a F.kerns.length s.k.cap], .agg #[.int .i64 R.measure, .int .i64 R.lines, .int .i64 R.lead, .int .i64 R.short, .int .i64 R.extra, .int .i64 R.ink], .slice s1.a P.length s1.cap, .slice s2.a P.length s2.cap, .int .i64 (i : Int), .int .i64 (k : Int)] wr fun e w' => e = .returned (.agg #[.int .i64 (i : Int), .int .i64 (k : Int), .int .i64 (wideL F P i k), .int .i64 (costL F R P i k)]) ∧ Below wr.heap.size wr w' := hLN
          have hcr := costL_rng HK.out HRO.out HTX.out (a := i) (z := k) hlt hkn
          have hdw : dwnS F R P U i (P.length - (k - 1)) = if R.measure < wideL F P i k then dwnS F R P U i (P.length - k) else if (dwnS F R P U i (P.length - k)).end_ = 0 ∨ lessS (candR F R P U i k) (dwnS F R P U i (P.length - k)) = true then candR F R P U i k else dwnS F R P U i (P.length - k) := by
            rw [show P.length - (k - 1) = (P.length - k) + 1 by omega, dwnS, show P.length - (P.length - k) = k by omega]
          have hrk := rest_rng HK.out HRO.out HTX.out (i := k) hkn
          rw [← HUR.out k hlt hkn] at hrk
          obtain ⟨Wd, hW⟩ : ∃ W, W = wideL F P i k := ⟨_, rfl⟩
          obtain ⟨C, hC⟩ : ∃ C, C = costL F R P i k := ⟨_, rfl⟩
          obtain ⟨q, hq⟩ : ∃ q, q = dwnS F R P U i (P.length - k) := ⟨_, rfl⟩
          obtain ⟨u, hu⟩ : ∃ u, u = U k := ⟨_, rfl⟩
          rw [← hW, ← hC] at hLN
          rw [← hC] at hcr
          rw [← hW, ← hq] at hdw
          rw [← hu] at hrk
          have hcd : candR F R P U i k = ⟨C + u.cost, 1 + u.lines, (k : Int)⟩ := by unfold candR; rw [← hC, ← hu]
          rw [hcd] at hdw
          have HLN := Lib.hid hLN; have HDWx := Lib.hid hdw; have HQ := Lib.hid hq; have HUU := Lib.hid hu
          have xf := hS.f; have xr := hS.r
          clear hLN hdw hW hC hq hu hcd hS
          have qfc := cell_blk xf
          have qff := frz_blk xf
          have qrc := cell_blk xr
          have qrf := frz_blk xr
          go_wp2_with (fail)
          refine HLN.out.mono ?_
          rintro e w3 ⟨rfl, hb3⟩
          have HS3 := Lib.hid (HSk.out.ext hb3)
          clear qfc qff qrc qrf xf xr hb3
          have xr := HS3.out.r
          have lr := blk_lt xr
          have lr2 : ¬ w.heap.size + 1 = w3.heap.size := by omega
          have qrc := cell_blk xr
          have qrf := frz_blk xr
          by_cases hwide : Wd > R.measure
          · have hdw := HDWx.out
            rw [if_pos (show R.measure < Wd from hwide)] at hdw
            have HDW := Lib.hid hdw
            clear hdw
            go_wp2_with (fail)
            go_roundw
            case rel =>
              refine ⟨k - 1, by go_num, by omega, by omega, (HS3.out.ext (by repeat' (first | exact Below.refl _ _ | assumption | refine below_drewN ?_ _ | refine Below.drew ?_ | refine Below.alloc ?_ (by first | assumption | omega | (simp <;> omega)) _ | refine Below.setCell ?_ (by first | assumption | omega | (simp <;> omega)) _ | refine Ext2.on (by assumption) ?_))).congr fun j hj => ?_⟩
              by_cases hji : j = i
              · rw [if_pos hji, if_pos hji, HDW.out, HQ.out]
              · rw [if_neg hji, if_neg hji]
            case measure => simp [intOf]; omega
          · have hdw := HDWx.out
            rw [if_neg (show ¬ R.measure < Wd from hwide)] at hdw
            have HDW := Lib.hid hdw
            clear hdw
            go_wp2_with (fail)
            refine wp_name ?_
            intro w4 hw4
            obtain ⟨lb, hlb⟩ : ∃ x, x = w3.heap.size := ⟨_, rfl⟩
            have hE4 : Ext2 w3 w4 := by rw [hw4]; repeat' (first | exact Below.refl _ _ | assumption | refine below_drewN ?_ _ | refine Below.drew ?_ | refine Below.alloc ?_ (by first | assumption | omega | (simp <;> omega)) _ | refine Below.setCell ?_ (by first | assumption | omega | (simp <;> omega)) _ | refine Ext2.on (by assumption) ?_)
            have xl : w4.heap[lb]? = some (Obj.cells #[.int .i64 (i : Int), .int .i64 (k : Int), .int .i64 Wd, .int .i64 C] 71) := by rw [hw4, hlb]; repeat' (first | (with_reducible assumption) | (with_reducible refine blk_set_ne ?_ ?_) | (with_reducible exact blk_new _ _) | (with_reducible refine blk_new' _ _ (by first | (with_reducible rfl) | (simp; done) | (simp <;> omega))) | (with_reducible refine blk_alloc ?_ _) | (with_reducible refine blk_drew ?_) | (with_reducible refine blk_drewN ?_ _) | (with_reducible refine Ext2.blk (by assumption) ?_) | omega | (simp <;> omega) | exact blk_set (by assumption) _ _)
            have HS4 := Lib.hid (HS3.out.ext hE4)
            rw [← hlb]
            clear hw4 hlb hE4 qrc qrf xr
            have qlc := cell_blk xl
            have qlf := frz_blk xl
            obtain ⟨k0, k1, k2, -⟩ := HS4.out.at (i := k) hkn
            rw [if_neg (show ¬ k = i by omega), ← HUU.out] at k0 k1 k2
            obtain ⟨c1, hc1⟩ : ∃ x, x = C + u.cost := ⟨_, rfl⟩
            obtain ⟨l1, hl1⟩ : ∃ x, x = 1 + u.lines := ⟨_, rfl⟩
            have s1x : IntKind.i64.wrap (C + u.cost) = c1 := by rw [hc1]; exact IntWalk.i64_in _ (by omega)
            have s2x : IntKind.i64.wrap (1 + u.lines) = l1 := by rw [hl1]; exact IntWalk.i64_in _ (by omega)
            rw [← hc1, ← hl1] at HDW
            have j0 : (0 : Int) ≤ (k : Int) := by omega
            have j1 : (k : Int) < (P.length : Int) + 1 := by omega
            have j2 : (0 : Int) ≤ (i : Int) := by omega
            have j3 : (i : Int) < (P.length : Int) + 1 := by omega
            clear hc1 hl1
            refine region_ev [] [0, 1, 2, 3, 4, 5, 6, 7, 8, 9, 10, 11, 12, 13, 14, 15] [(16, 13, some 17)] [] (by kernel_rfl) (by kernel_rfl) (by intro c a d v w h; cases d <;> exact h) ?_
            simp only [picks, List.drop_succ_cons, List.drop_zero]
            repeat (refine wpQ0_step (fun K hK => ?_); go_simp; (refine hK _ ?_; clear hK K))
            refine wpQ0_nil ?_
            repeat ((with_reducible refine wpQ2_step (fun K hK => ?_)); go_simp; first | ((with_reducible refine hK _ ?_); clear hK K) | (apply Exists.intro; refine ⟨fun x => ?_, hK _ ?_⟩; (fail); clear hK K))
            refine wpQ2_nil ?_
            refine Events.fill1 (fun b => .pointer (some ⟨b, 0, none⟩)) (Obj.cells #[.int .i64 0, .int .i64 0, .int .i64 0] 133) (Obj.cells #[.int .i64 c1, .int .i64 l1, .int .i64 (k : Int)] 133) ⟨_, rfl, rfl, rfl, fun W => by kernel_rfl⟩ ⟨_, rfl, rfl, rfl, fun b W hb => ?_⟩ fun b13 w7 hb13 hg7 nb13 => ?_
            · have hbc := cell_blk hb; have hbf := frz_blk hb; go_simp; exact turn_three hb _ _ _
            simp only [picks, List.drop_succ_cons, List.drop_zero]
            have HS7 := Lib.hid (HS4.out.ext hg7)
            obtain ⟨g0, g1, g2, -⟩ := HS7.out.at (i := i) (by omega)
            rw [if_pos rfl, ← HQ.out] at g0 g1 g2
            obtain ⟨qc, ql, qe⟩ := q
            dsimp only at g0 g1 g2
            have nb := nb13
            clear qlc qlf xl k0 k1 k2 hg7 nb13
            have qbc := cell_blk nb
            have qbf := frz_blk nb
            by_cases he : qe = 0
            · subst he
              go_wp2_with (fail)
              refine region_st [⟨[], [0, 1, 2, 3, 4, 5, 6, 7, 8, 9, 10, 11, 12, 13, 14, 15, 16, 17, 18, 19, 20, 21, 22, 23, 24, 25, 26, 27, 28, 29, 30, 31, 32, 33, 34, 35], []⟩] (by kernel_rfl) (by kernel_rfl) (by intro c a d v w h; cases d <;> exact h) ?_
              refine wpSt_cons ?_
              simp only [picks, List.drop_succ_cons, List.drop_zero]
              repeat ((with_reducible refine wpQ0_step (fun K hK => ?_)); go_simp; ((with_reducible refine hK _ ?_); clear hK K))
              refine wpQ0_nil ?_
              repeat ((with_reducible refine wpQ2_step (fun K hK => ?_)); go_simp; first | ((with_reducible refine hK _ ?_); clear hK K) | (refine ite_undef (fun h => (by have h_ : (none : Option Bool) = some _ := h; cases h_)) ?_; (with_reducible refine hK _ ?_); clear hK K) | (apply Exists.intro; refine ⟨fun x => ?_, hK _ ?_⟩; (fail); clear hK K))
              (with_reducible refine wpQ2_nil ?_)
              intro w8 hw8
              refine wpTl_nil ?_
              refine wpSt_nil ?_
              have HS8 := Lib.hid (HS7.out.ext hw8)
              have hput := HS8.out.put (i := i) (by omega) c1 l1 (k : Int)
              obtain ⟨f0, f1, f2, ff⟩ := HS8.out.at (i := i) (by omega)
              have nb8 := Ext2.blk hw8 nb
              have HPUT := Lib.hid hput
              clear qbc qbf g0 g1 g2 hw8 nb hput
              have qbc := cell_blk nb8
              have qbf := frz_blk nb8
              go_wp2_with (fail)
              go_roundw
              case rel =>
                refine ⟨k - 1, by go_num, by omega, by omega, HPUT.out.congr fun j hj => ?_⟩
                by_cases hji : j = i
                · rw [if_pos hji, if_pos hji, HDW.out, if_pos (.inl True.intro)]
                · rw [if_neg hji, if_neg hji, if_neg hji]
              case measure => simp [intOf]; omega
            · have heb : (qe == 0) = false := beq_eq_false_iff_ne.2 he
              by_cases hc : c1 < qc
              · have hcb : decide (c1 < qc) = true := decide_eq_true hc
                have hls : lessS ⟨c1, l1, (k : Int)⟩ ⟨qc, ql, qe⟩ = true := by unfold lessS; rw [decide_eq_true hc]; rfl
                have HLS := Lib.hid hls
                clear hls
                go_wp2_with (fail)
                refine region_st [⟨[], [0, 1, 2, 3, 4, 5, 6, 7, 8, 9, 10, 11, 12, 13, 14, 15, 16, 17, 18, 19, 20, 21, 22, 23, 24, 25, 26, 27, 28, 29, 30, 31, 32, 33, 34, 35], []⟩] (by kernel_rfl) (by kernel_rfl) (by intro c a d v w h; cases d <;> exact h) ?_
                refine wpSt_cons ?_
                simp only [picks, List.drop_succ_cons, List.drop_zero]
                repeat ((with_reducible refine wpQ0_step (fun K hK => ?_)); go_simp; ((with_reducible refine hK _ ?_); clear hK K))
                refine wpQ0_nil ?_
                repeat ((with_reducible refine wpQ2_step (fun K hK => ?_)); go_simp; first | ((with_reducible refine hK _ ?_); clear hK K) | (refine ite_undef (fun h => (by have h_ : (none : Option Bool) = some _ := h; cases h_)) ?_; (with_reducible refine hK _ ?_); clear hK K) | (apply Exists.intro; refine ⟨fun x => ?_, hK _ ?_⟩; (fail); clear hK K))
                (with_reducible refine wpQ2_nil ?_)
                intro w8 hw8
                refine wpTl_nil ?_
                refine wpSt_nil ?_
                have HS8 := Lib.hid (HS7.out.ext hw8)
                have hput := HS8.out.put (i := i) (by omega) c1 l1 (k : Int)
                obtain ⟨f0, f1, f2, ff⟩ := HS8.out.at (i := i) (by omega)
                have nb8 := Ext2.blk hw8 nb
                have HPUT := Lib.hid hput
                clear qbc qbf g0 g1 g2 hw8 nb hput
                have qbc := cell_blk nb8
                have qbf := frz_blk nb8
                go_wp2_with (fail)
                go_roundw
                case rel =>
                  refine ⟨k - 1, by go_num, by omega, by omega, HPUT.out.congr fun j hj => ?_⟩
                  by_cases hji : j = i
                  · rw [if_pos hji, if_pos hji, HDW.out, if_pos (.inr HLS.out)]
                  · rw [if_neg hji, if_neg hji, if_neg hji]
                case measure => simp [intOf]; omega
              · have hcb : decide (c1 < qc) = false := decide_eq_false hc
                by_cases hq : c1 = qc
                · have hqb : (c1 == qc) = true := by simp [hq]
                  by_cases hl : l1 < ql
                  · have hlb : decide (l1 < ql) = true := decide_eq_true hl
                    have hls : lessS ⟨c1, l1, (k : Int)⟩ ⟨qc, ql, qe⟩ = true := by unfold lessS; dsimp only; rw [decide_eq_true hq, decide_eq_true hl]; simp
                    have HLS := Lib.hid hls
                    clear hls hq
                    go_wp2_with (fail)
                    refine region_st [⟨[], [0, 1, 2, 3, 4, 5, 6, 7, 8, 9, 10, 11, 12, 13, 14, 15, 16, 17, 18, 19, 20, 21, 22, 23, 24, 25, 26, 27, 28, 29, 30, 31, 32, 33, 34, 35], []⟩] (by kernel_rfl) (by kernel_rfl) (by intro c a d v w h; cases d <;> exact h) ?_
                    refine wpSt_cons ?_
                    simp only [picks, List.drop_succ_cons, List.drop_zero]
                    repeat ((with_reducible refine wpQ0_step (fun K hK => ?_)); go_simp; ((with_reducible refine hK _ ?_); clear hK K))
                    refine wpQ0_nil ?_
                    repeat ((with_reducible refine wpQ2_step (fun K hK => ?_)); go_simp; first | ((with_reducible refine hK _ ?_); clear hK K) | (refine ite_undef (fun h => (by have h_ : (none : Option Bool) = some _ := h; cases h_)) ?_; (with_reducible refine hK _ ?_); clear hK K) | (apply Exists.intro; refine ⟨fun x => ?_, hK _ ?_⟩; (fail); clear hK K))
                    (with_reducible refine wpQ2_nil ?_)
                    intro w8 hw8
                    refine wpTl_nil ?_
                    refine wpSt_nil ?_
                    have HS8 := Lib.hid (HS7.out.ext hw8)
                    have hput := HS8.out.put (i := i) (by omega) c1 l1 (k : Int)
                    obtain ⟨f0, f1, f2, ff⟩ := HS8.out.at (i := i) (by omega)
                    have nb8 := Ext2.blk hw8 nb
                    have HPUT := Lib.hid hput
                    clear qbc qbf g0 g1 g2 hw8 nb hput
                    have qbc := cell_blk nb8
                    have qbf := frz_blk nb8
                    go_wp2_with (fail)
                    go_roundw
                    case rel =>
                      refine ⟨k - 1, by go_num, by omega, by omega, HPUT.out.congr fun j hj => ?_⟩
                      by_cases hji : j = i
                      · rw [if_pos hji, if_pos hji, HDW.out, if_pos (.inr HLS.out)]
                      · rw [if_neg hji, if_neg hji, if_neg hji]
                    case measure => simp [intOf]; omega
                  · have hlb : decide (l1 < ql) = false := decide_eq_false hl
                    have hls : lessS ⟨c1, l1, (k : Int)⟩ ⟨qc, ql, qe⟩ = false := by unfold lessS; dsimp only; rw [decide_eq_false hc, decide_eq_false hl]; simp
                    have HLS := Lib.hid hls; have HEE := Lib.hid he
                    clear hls hq
                    go_wp2_with (fail)
                    refine region_st [⟨[], [0, 1, 2, 3, 4, 5, 6, 7, 8, 9, 10, 11, 12, 13, 14, 15, 16, 17, 18, 19, 20, 21, 22, 23, 24, 25, 26, 27, 28, 29, 30, 31, 32, 33, 34, 35], []⟩] (by kernel_rfl) (by kernel_rfl) (by intro c a d v w h; cases d <;> exact h) ?_
                    refine wpSt_cons ?_
                    simp only [picks, List.drop_succ_cons, List.drop_zero]
                    repeat ((with_reducible refine wpQ0_step (fun K hK => ?_)); go_simp; ((with_reducible refine hK _ ?_); clear hK K))
                    refine wpQ0_nil ?_
                    repeat ((with_reducible refine wpQ2_step (fun K hK => ?_)); go_simp; first | ((with_reducible refine hK _ ?_); clear hK K) | (refine ite_undef (fun h => (by have h_ : (none : Option Bool) = some _ := h; cases h_)) ?_; (with_reducible refine hK _ ?_); clear hK K) | (apply Exists.intro; refine ⟨fun x => ?_, hK _ ?_⟩; (fail); clear hK K))
                    (with_reducible refine wpQ2_nil ?_)
                    intro w8 hw8
                    refine wpTl_nil ?_
                    refine wpSt_nil ?_
                    have HS8 := Lib.hid (HS7.out.ext hw8)
                    clear qbc qbf g0 g1 g2 hw8 nb
                    go_wp2_with (fail)
                    go_roundw
                    case rel =>
                      refine ⟨k - 1, by go_num, by omega, by omega, HS8.out.congr fun j hj => ?_⟩
                      by_cases hji : j = i
                      · rw [if_pos hji, if_pos hji, HDW.out, if_neg (fun h => h.elim HEE.out (fun h => by rw [HLS.out] at h; cases h)), HQ.out]
                      · rw [if_neg hji, if_neg hji]
                    case measure => simp [intOf]; omega
                · have hqb : (c1 == qc) = false := beq_eq_false_iff_ne.2 hq
                  have hls : lessS ⟨c1, l1, (k : Int)⟩ ⟨qc, ql, qe⟩ = false := by unfold lessS; dsimp only; rw [decide_eq_false hc, decide_eq_false hq]; simp
                  have HLS := Lib.hid hls; have HEE := Lib.hid he
                  clear hls
                  go_wp2_with (fail)
                  refine region_st [⟨[], [0, 1, 2, 3, 4, 5, 6, 7, 8, 9, 10, 11, 12, 13, 14, 15, 16, 17, 18, 19, 20, 21, 22, 23, 24, 25, 26, 27, 28, 29, 30, 31, 32, 33, 34, 35], []⟩] (by kernel_rfl) (by kernel_rfl) (by intro c a d v w h; cases d <;> exact h) ?_
                  refine wpSt_cons ?_
                  simp only [picks, List.drop_succ_cons, List.drop_zero]
                  repeat ((with_reducible refine wpQ0_step (fun K hK => ?_)); go_simp; ((with_reducible refine hK _ ?_); clear hK K))
                  refine wpQ0_nil ?_
                  repeat ((with_reducible refine wpQ2_step (fun K hK => ?_)); go_simp; first | ((with_reducible refine hK _ ?_); clear hK K) | (refine ite_undef (fun h => (by have h_ : (none : Option Bool) = some _ := h; cases h_)) ?_; (with_reducible refine hK _ ?_); clear hK K) | (apply Exists.intro; refine ⟨fun x => ?_, hK _ ?_⟩; (fail); clear hK K))
                  (with_reducible refine wpQ2_nil ?_)
                  intro w8 hw8
                  refine wpTl_nil ?_
                  refine wpSt_nil ?_
                  have HS8 := Lib.hid (HS7.out.ext hw8)
                  clear qbc qbf g0 g1 g2 hw8 nb
                  go_wp2_with (fail)
                  go_roundw
                  case rel =>
                    refine ⟨k - 1, by go_num, by omega, by omega, HS8.out.congr fun j hj => ?_⟩
                    by_cases hji : j = i
                    · rw [if_pos hji, if_pos hji, HDW.out, if_neg (fun h => h.elim HEE.out (fun h => by rw [HLS.out] at h; cases h)), HQ.out]
                    · rw [if_neg hji, if_neg hji]
                  case measure => simp [intOf]; omega
        · obtain rfl : k = i := by omega
          have r1 : ¬ (k : Int) > (k : Int) := by omega
          go_wp2_with (fail)
          go_roundw
          case rel =>
            refine ⟨k, by go_num, by omega, HSk.out.congr fun j hj => ?_⟩
            rw [HSTEP.out]
            dsimp only
            rw [dwn_inn HK.out HTX.out (by omega)]
          case measure => simp [intOf]
    · obtain rfl : m = 0 := by omega
      have r1 : ¬ (((0 : Nat) : Int) - 1 ≥ 0) := by omega
      have hfin : BsSt w wr F s R w.heap.size (w.heap.size + 1) ob P.length (restS F R P) := HS.out
      obtain ⟨hrow, -⟩ := hfin.own.row
      go_wp2_with (fail)
      go_ret
      exact ⟨⟨ob, rfl, hrow.sl (Nat.le_refl _) (by omega)⟩, hfin.bel⟩
end Go.Proofs.YtahgbecfaihfpaaDoor
