/-
  title.set: a word that is set.
  title.Set.
-/
import Derived.Test.YtahgbecfaihfpaaDoorTSpellM
import Derived.Test.YtahgbecfaihfpaaDoorTRuleM
namespace Go.Proofs.YtahgbecfaihfpaaDoor
open Go.RowKit D
set_option linter.unusedVariables false
set_option linter.unusedSimpArgs false
attribute [local go_sem high] run_minI run_maxI
attribute [local go_sem] upon2 cls_cell cls_frozen forall_const exists_eq_left'
attribute [local go_sem] FirstUpon
/-- A word that is set. -/
def WordV (w : World) (F : Font) (t : ByteArray) (l : List Nat) (v : Value) : Prop := ∃ (gs ps : Sl), v = .agg #[.string t, .slice gs.a l.length gs.cap, .slice ps.a l.length ps.cap, .int .i64 (widS F l l.length)] ∧ IntsT w gs (l.map Int.ofNat) ∧ IntsT w ps (placesS F l)
/-- What set does. -/
def WordOut (w : World) (F : Font) (t : ByteArray) (e : Ending) (w' : World) : Prop :=
  (match setS F t.data.toList with
  | none => e = .panicked [{ v := .iface 27 (.int .i64 (200)), recovered := false }]
  | some l => ∃ v, e = .returned v ∧ WordV w' F t l v) ∧ Below w.heap.size w w'
theorem kmF_get {F : Font} (hk : FontOk F) (a b : Int) : (kmF F.kerns F.kerns.length (.agg #[.int .i64 a, .int .i64 b])).getD (.int .i64 0) = .int .i64 (betw F.kerns a b) := by
  rw [kmF_at _ _ _ (fun i hi => (knE_ok (hk.kn i hi)).2.1)]
  unfold betw
  by_cases e : kIx F.kerns a b F.kerns.length < F.kerns.length
  · rw [if_pos e, if_pos e]; rfl
  · rw [if_neg e, if_neg e]; rfl
set_option maxRecDepth 100000 in
set_option maxHeartbeats 2000000 in
theorem set_any {F : Font} {s : FSl} {R : Rul} {b gm km : Nat} {t : ByteArray} {w : World} (hS : SetAt w F s R b gm km) (hk : FontOk F) (h24 : t.size ≤ 24) :
    Calls Tryd.prog 49 #[.pointer (some ⟨b, 0, none⟩), .string t] w (WordOut w F t) := by
  have HS := Lib.hid hS
  have HK := Lib.hid hk
  have HSP : Hid (∀ W, Below w.heap.size w W → Calls Tryd.prog 73 #[.pointer (some ⟨b, 0, none⟩), .string t] W (SpellOut W F t)) := Lib.hid fun W hW => spell_any (hS.below hW) hk h24
  have hlen : t.data.toList.length ≤ 24 := by simpa using h24
  obtain ⟨o, ho⟩ : ∃ o, o = setS F t.data.toList := ⟨_, rfl⟩
  have HO := Lib.hid ho
  have HLEN := Lib.hid hlen
  have hgl := hS.gl.lt; have hkl := hS.kn.lt
  clear hS hk h24 ho hlen
  go_enter Tryd.func49, Tryd.ntmps49
  go_wp2_with (fail)
  (with_reducible refine (HSP.out _ ?_).mono ?_)
  · repeat' (first | exact Below.refl _ _ | assumption | refine below_drewN ?_ _ | refine Below.drew ?_ | refine Below.alloc ?_ (by first | assumption | omega | (simp <;> omega)) _ | refine Below.setCell ?_ (by first | assumption | omega | (simp <;> omega)) _ | refine Ext2.on (by assumption) ?_)
  rintro e w1 ⟨⟨v, rfl, hv⟩, hb1⟩
  rw [← HO.out] at hv ⊢
  have hB1 : Below w.heap.size w w1 := Below.trans (by repeat' (first | exact Below.refl _ _ | assumption | refine below_drewN ?_ _ | refine Below.drew ?_ | refine Below.alloc ?_ (by first | assumption | omega | (simp <;> omega)) _ | refine Below.setCell ?_ (by first | assumption | omega | (simp <;> omega)) _ | refine Ext2.on (by assumption) ?_)) (hb1.mono (by simp))
  have x4 := below_blk hb1 (blk_new w _) (by simp)
  have hz1 : w.heap.size + 1 ≤ w1.heap.size := by simpa using hb1.size
  clear hb1
  cases o with
  | none =>
    have hnone : setS F t.data.toList = none := HO.out.symm
    have HN := Lib.hid hnone
    clear hnone x4
    simp only [Option.isSome_none]
    go_wp2_with (fail)
    (with_reducible refine (must_no _ _).mono ?_)
    rintro e w2 ⟨rfl, rfl⟩
    go_wp2_with (fail)
    refine ⟨rfl, ?_⟩
    unfold WordOut
    rw [HN.out]
    exact ⟨rfl, hB1⟩
  | some l =>
    obtain ⟨lb, loff, lcap, rfl, hli⟩ := hv
    have hsome : setS F t.data.toList = some l := HO.out.symm
    have hll : l.length ≤ 24 := Nat.le_trans (setS_len F _ _ (Nat.le_refl _) l hsome) HLEN.out
    have hm : ∀ x ∈ l, x < F.glyphs.length := setS_mem F _ _ (Nat.le_refl _) l hsome
    have HSM := Lib.hid hsome; have HM := Lib.hid hm; have HLI := Lib.hid hli
    have hlm := hli.1.max; have hlc := hli.1.le
    dsimp only at hlm hlc
    rw [ints_len] at hlc
    clear hsome hm hli
    simp only [Option.isSome_some]
    go_wp2_with (fail)
    (with_reducible refine (must_ok _ _).mono ?_)
    rintro e w2 ⟨rfl, rfl⟩
    go_wp2_with (fail)
    refine wp_name ?_
    intro w3 h3
    obtain ⟨wb, hwb⟩ : ∃ n, n = w1.heap.size := ⟨_, rfl⟩
    rw [← hwb]
    have hE3 : Ext2 w1 w3 := by rw [h3]; repeat' (first | exact Below.refl _ _ | assumption | refine below_drewN ?_ _ | refine Below.drew ?_ | refine Below.alloc ?_ (by first | assumption | omega | (simp <;> omega)) _ | refine Below.setCell ?_ (by first | assumption | omega | (simp <;> omega)) _ | refine Ext2.on (by assumption) ?_)
    have xw : w3.heap[wb]? = some (Obj.cells #[.string t, .slice (some ⟨lb, loff, none⟩) l.length lcap, .slice none 0 0, .int .i64 0] 90) := by rw [h3, hwb]; repeat' (first | (with_reducible assumption) | (with_reducible refine blk_set_ne ?_ ?_) | (with_reducible exact blk_new _ _) | (with_reducible refine blk_new' _ _ (by first | (with_reducible rfl) | (simp; done) | (simp <;> omega))) | (with_reducible refine blk_alloc ?_ _) | (with_reducible refine blk_drew ?_) | (with_reducible refine blk_drewN ?_ _) | (with_reducible refine Ext2.blk (by assumption) ?_) | omega | (simp <;> omega) | exact blk_set (by assumption) _ _)
    have x4 := Ext2.blk hE3 x4
    have hB3 := below_ext hB1 hE3
    have hz3 : wb < w3.heap.size := blk_lt xw
    have hwbz : w.heap.size + 1 ≤ wb := by omega
    have hli3 := HLI.out.below hE3
    have HLB : Hid (∀ W : World, (∀ q, q < wb → W.heap[q]? = w3.heap[q]?) → ∀ i, i < l.length → W.cell? ⟨lb, loff + i, none⟩ = some (Value.int .i64 ((l.getD i 0 : Nat) : Int))) := Lib.hid fun W hW i hi => by
      obtain ⟨b', off', ha', hc'⟩ := HLI.out.1.cell i 0 (by rw [ints_len]; exact hi) (by omega)
      obtain ⟨rfl, rfl⟩ : lb = b' ∧ loff = off' := by simpa using ha'
      have hlt := cell_lt hc'
      dsimp only at hlt
      have h5 : w3.cell? ⟨lb, loff + i, none⟩ = some (Value.int .i64 ((l.getD i 0 : Nat) : Int)) := by
        rw [(bcell (w := w1) (W := w1) hE3).1 _ _ hlt]
        simpa [intC, intD, List.getD_eq_getElem?_getD, hi] using hc'
      rw [← h5]
      simp only [World.cell?, hW lb (by omega)]
    have HW3 := Lib.hid xw; have H4 := Lib.hid x4; have HLI3 := Lib.hid hli3
    have HWB := Lib.hid hwb
    have hlt3 := hli3.2 lb loff rfl
    have hllb : lb < wb := by
      obtain ⟨c, f, hc⟩ := HLI.out.2 lb loff rfl
      have := blk_lt hc; omega
    have HLT := Lib.hid hlt3; have HLL := Lib.hid hllb
    clear h3 hE3 xw x4 hli3 hwb HLI hlt3 hllb
    go_loopw [24, 8] (fun p q wr => ∃ (k : Nat) (av : Value), p = .int .i64 (k : Int) ∧ q = .int .i64 (posS F l (k - 1)) ∧ k ≤ l.length ∧ Below w.heap.size w wr ∧ (∀ q, q < wb → wr.heap[q]? = w3.heap[q]?) ∧ wr.heap[wb]? = some (Obj.cells #[.string t, .slice (some ⟨lb, loff, none⟩) l.length lcap, av, .int .i64 (widS F l k)] 90) ∧ OwnR wr (wb + 1) 3 1 av k (intC (placesS F l))) (fun p _ _ => l.length - (intOf p).toNat)
    case atStart => exact ⟨0, .slice none 0 0, rfl, rfl, by omega, hB3, fun _ _ => rfl, HW3.out, own_nil _ _ _ _ _⟩
    case round =>
      obtain ⟨k, av, rfl, rfl, hk, hB, hW, xw, hO⟩ := hrel
      have HWr := Lib.hid hW; have HOr := Lib.hid hO
      have lw := blk_lt xw
      clear hW hO
      by_cases hlt : k < l.length
      · go_light
        obtain ⟨g, hg⟩ : ∃ g, g = l.getD k 0 := ⟨_, rfl⟩
        have hgn : g < F.glyphs.length := by rw [hg]; exact getD_mem HM.out hlt
        have ck := HLB.out wr HWr.out k hlt
        rw [← hg] at ck
        have hX := posS_rng HK.out HM.out k hlt
        obtain ⟨X, hXe⟩ : ∃ X, X = posS F l k := ⟨_, rfl⟩
        rw [← hXe] at hX
        have HX := Lib.hid hXe
        have r0 : (0 : Int) ≤ (k : Int) := by omega
        have r1 : (k : Int) < (l.length : Int) := by omega
        have HG := Lib.hid hg
        have w3' : IntKind.i64.wrap ((k : Int) + 1) = (k : Int) + 1 := IntWalk.i64_in _ (by omega)
        clear hg hXe
        by_cases h0 : 0 < k
        case' pos =>
          obtain ⟨j, hj⟩ : ∃ j, k = j + 1 := ⟨k - 1, by omega⟩
          have hjl : j < l.length := by omega
          have r2 : (0 : Int) < (k : Int) := by omega
          have wk : IntKind.i64.wrap ((k : Int) - 1) = (j : Int) := Eq.trans (IntWalk.i64_in _ (by omega)) (by omega)
          have r3 : (0 : Int) ≤ (j : Int) := by omega
          have r4 : (j : Int) < (l.length : Int) := by omega
          have cj := HLB.out wr HWr.out j hjl
          obtain ⟨f, hf⟩ : ∃ f, f = l.getD j 0 := ⟨_, rfl⟩
          have hfn : f < F.glyphs.length := by rw [hf]; exact getD_mem HM.out hjl
          rw [← hf] at cj
          have hPr := posS_rng HK.out HM.out j hjl
          obtain ⟨P, hP⟩ : ∃ P, P = posS F l j := ⟨_, rfl⟩
          have hkj : posS F l (k - 1) = P := by rw [hP, hj]; rfl
          have hXP : X = P + (wd F f + kr F f g) := by rw [HX.out, hj, posS, ← hP, ← hf, ← hj, ← HG.out]
          rw [← hP] at hPr
          have hkr := kr_rng HK.out hfn g
          have hwr := wd_rng HK.out hfn
          have hS := HS.out.below hB
          obtain ⟨gb, goff, hga, -, c1, -⟩ := gl_cells hS.font.gls.gl (i := f) hfn
          have hlk : ∀ x : Cls (Ext2 wr), (Instr.lookup 105 (.map (some km)) (.agg #[.int .i64 (f : Int), .int .i64 (g : Int)]) false).run Tryd.prog x.1 = .ok (.int .i64 (kr F f g)) x.1 := fun x => by
            have h := (hS.kn.kept (Below.block x.2 km hS.kn.lt)).lookup keyT_sides Tryd.underlying105 (zeroInt x.1) (k2_mk (f : Int) (g : Int)) false
            rw [h, if_neg Bool.false_ne_true, kmF_get HK.out]
            rfl
          have xs := hS.blk
          have q0 : (0 : Int) ≤ (f : Int) := by omega
          have q1 : (f : Int) < (F.glyphs.length : Int) := by omega
          obtain ⟨dw, hdw⟩ : ∃ d, d = wd F f := ⟨_, rfl⟩
          obtain ⟨dk, hdk⟩ : ∃ d, d = kr F f g := ⟨_, rfl⟩
          have hdw' : (glD F.glyphs f).wide = dw := hdw.symm
          rw [hdw'] at c1
          rw [← hdk] at hlk
          rw [← hdw, ← hdk] at hXP hkr
          rw [← hdw] at hwr
          have s1 : IntKind.i64.wrap (dw + dk) = dw + dk := IntWalk.i64_in _ (by omega)
          have s2 : IntKind.i64.wrap (P + (dw + dk)) = X := by rw [hXP]; exact IntWalk.i64_in _ (by omega)
          rw [hga] at xs
          rw [hkj]
          have HJ := Lib.hid hj
          clear hj hf hP hkj hXP hdw hdk hdw' hPr hkr hwr hS h0 hga hfn
          have qsc := cell_blk xs
          have qsf := frz_blk xs
          go_wp2_with (fail)
          refine region_ev [] [0, 1, 2, 3, 4, 5, 6, 7, 8, 9, 10, 11, 12, 13, 14, 15, 16, 17, 18, 19, 20, 21, 22, 23, 24, 25, 26, 27, 28] [] [] (by kernel_rfl) (by kernel_rfl) (by intro c a d v w h; cases d <;> exact h) ?_
          simp only [picks, List.drop_succ_cons, List.drop_zero]
          repeat (refine wpQ0_step (fun K hK => ?_); go_simp; (refine hK _ ?_; clear hK K))
          refine wpQ0_nil ?_
          repeat ((with_reducible refine wpQ2_step (fun K hK => ?_)); go_simp; first | ((with_reducible refine hK _ ?_); clear hK K) | (apply Exists.intro; refine ⟨fun x => ?_, hK _ ?_⟩; (fail); clear hK K))
          refine wpQ2_nil ?_
          refine Events.none_ fun w5 hg5 => ?_
          simp only [picks, List.drop_succ_cons, List.drop_zero]
          have xw5 := Ext2.blk hg5 xw
          have HO5 := Lib.hid (HOr.out.below hg5)
          have HW5 : Hid (∀ q, q < wb → w5.heap[q]? = w3.heap[q]?) := Lib.hid fun q hq => (Below.block hg5 q (by omega)).trans (HWr.out q hq)
          have hB5 := below_ext hB hg5
          clear qsc qsf xs cj c1 hlk q0 q1 s1 s2 r2 r3 r4 wk hjl HJ xw HOr HWr hB hg5 ck lw
          have qwc := cell_blk xw5
          have qwf := frz_blk xw5
        case' neg =>
          have hk0 : k = 0 := by omega
          have hkX : posS F l (k - 1) = X := by rw [HX.out, hk0]
          have r2 : ¬ (0 : Int) < (k : Int) := by omega
          rw [hkX]
          have xw5 := xw
          have HO5 := HOr
          have HW5 := HWr
          have hB5 := hB
          clear hk0 hkX h0 xw HOr HWr hB lw
          rename World => w5
          have qwc := cell_blk xw5
          have qwf := frz_blk xw5
        all_goals
          have lw5 := blk_lt xw5
          go_wp2_with (at_builtin; refine app_one [.int .i64 X] elInt rfl _ _ rfl (wb + 1) rfl (HO5.out.below (below_alloc' _ _)) w5.heap.size 1 rfl (blk_new _ _) (by simp [Value.oneCell']) (by omega) (by simp; omega) ?_; intro v' w6 hO6 hg6; obtain ⟨⟨a', cp'⟩, rfl, -⟩ := hO6.sl; dsimp only at hO6; have u6 := app_keeps (HO5.out.below (below_alloc' _ _)) hg6 (blk_alloc xw5 _) (by omega); have u6c := cell_blk u6; have u6f := frz_blk u6)
          refine wp_name ?_
          intro w7 h7
          have x7 : w7.heap[wb]? = some (Obj.cells #[.string t, .slice (some ⟨lb, loff, none⟩) l.length lcap, .slice a' (k + 1) cp', .int .i64 (widS F l k)] 90) := by rw [h7]; exact Eq.trans (blk_set u6 _ _) rfl
          have hO7 : OwnR w7 (wb + 1) 3 1 (.slice a' (k + 1) cp') (k + 1) (intC (placesS F l)) := by
            rw [h7]
            refine (hO6.above ((Above.refl _ _).set (.inl (by omega)))).congr fun i j hi hj => ?_
            by_cases hik : i = k
            · rw [hik, upd_at, show j = 0 from by simpa using hj]
              simp [intC, places_at F l hlt, HX.out]
            · rw [upd_lt (by omega)]
          have hB6 : Below w.heap.size w w6 := app_below (hB5.alloc hB5.size _) (HO5.out.below (below_alloc' _ _)) (by omega) (by simp; exact Nat.le_succ_of_le hB5.size) hg6
          have hW7 : ∀ q, q < wb → w7.heap[q]? = w3.heap[q]? := fun q hq => by
            rw [h7, set_oth _ _ (by omega)]
            exact (hg6.block q (by simp; omega) (fun he => by have := own_block HO5.out q he.symm; omega)).trans ((Below.heap_alloc w5 _ q (by omega)).trans (HW5.out q hq))
          have hB7 : Below w.heap.size w w7 := by rw [h7]; exact below_set hB6 (by omega)
          have HO7 := Lib.hid hO7; have HW7 := Lib.hid hW7
          clear h7 hO7 hW7 hB6 hO6 hg6 u6 u6c u6f qwc qwf xw5 HO5 HW5 hB5 lw5
          have hS7 := HS.out.below hB7
          obtain ⟨gb2, goff2, hga2, -, c1, -⟩ := gl_cells hS7.font.gls.gl (i := g) hgn
          have xs := hS7.blk
          rw [hga2] at xs
          have q0 : (0 : Int) ≤ (g : Int) := by omega
          have q1 : (g : Int) < (F.glyphs.length : Int) := by omega
          have hwr := wd_rng HK.out hgn
          obtain ⟨dw2, hdw⟩ : ∃ d, d = wd F g := ⟨_, rfl⟩
          have hdw' : (glD F.glyphs g).wide = dw2 := hdw.symm
          rw [hdw'] at c1
          rw [← hdw] at hwr
          have s1 : IntKind.i64.wrap (X + dw2) = X + dw2 := IntWalk.i64_in _ (by omega)
          obtain ⟨m0, hm0⟩ : ∃ m, m = widS F l k := ⟨_, rfl⟩
          rw [← hm0] at x7
          have hm1 : widS F l (k + 1) = max m0 (X + dw2) := by rw [widS, ← hm0, ← HX.out, ← HG.out, hdw]
          have HM1 := Lib.hid hm1
          have hnb : ¬ wb = b := by have := blk_lt HS.out.blk; omega
          clear hdw hdw' hwr hm0 hm1 hS7 hga2
          have qwc := cell_blk x7
          have qwf := frz_blk x7
          have qsc := cell_blk xs
          have qsf := frz_blk xs
          go_wp2_with (fail)
          refine region_ev [] [0, 1, 2, 3, 4, 5, 6, 7, 8, 9, 10, 11, 12, 13, 14] [] [15] (by kernel_rfl) (by kernel_rfl) (by intro c a d v w h; cases d <;> exact h) ?_
          simp only [picks, List.drop_succ_cons, List.drop_zero]
          repeat (refine wpQ0_step (fun K hK => ?_); go_simp; (refine hK _ ?_; clear hK K))
          refine wpQ0_nil ?_
          repeat ((with_reducible refine wpQ2_step (fun K hK => ?_)); go_simp; first | ((with_reducible refine hK _ ?_); clear hK K) | (apply Exists.intro; refine ⟨fun x => ?_, hK _ ?_⟩; (fail); clear hK K))
          refine wpQ2_nil ?_
          refine Events.none_ fun w8 hg8 => ?_
          simp only [picks, List.drop_succ_cons, List.drop_zero]
          have x8 := Ext2.blk hg8 x7
          have HO8 := Lib.hid (HO7.out.below hg8)
          have HW8 : Hid (∀ q, q < wb → w8.heap[q]? = w3.heap[q]?) := Lib.hid fun q hq => (Below.block hg8 q (Nat.lt_trans hq (blk_lt x7))).trans (HW7.out q hq)
          have hB8 := below_ext hB7 hg8
          clear qwc qwf qsc qsf hg8 HO7 HW7 hB7 x7 xs c1 q0 q1 s1
          have qwc := cell_blk x8
          have qwf := frz_blk x8
          go_wp2_with (fail)
          go_roundw
          case' rel =>
            refine ⟨k + 1, _, by go_num, by rw [HX.out]; rfl, by omega, below_set hB8 (by omega), fun q hq => ?_, ?_, HO8.out.above ((Above.refl _ _).set (.inl (by omega)))⟩
            · rw [set_oth _ _ (by omega)]; exact HW8.out q hq
            · rw [HM1.out]; exact Eq.trans (blk_set x8 _ _) rfl
          case' measure => simp [intOf]; omega
      · obtain rfl : k = l.length := by omega
        have r8 : ¬ (l.length : Int) < (l.length : Int) := by omega
        have x4 := (HWr.out w.heap.size (by omega)).trans H4.out
        obtain ⟨⟨a', cp'⟩, rfl, hro⟩ := HOr.out.sl
        dsimp only at xw
        have hli : IntsT wr ⟨some ⟨lb, loff, none⟩, lcap⟩ (l.map Int.ofNat) := ⟨⟨HLI3.out.1.le, HLI3.out.1.max, fun i j hi hj => by
          rw [ints_len] at hi
          refine ⟨lb, loff, rfl, ?_⟩
          have h1 := HLB.out wr HWr.out i hi
          rw [Nat.mul_one, show j = 0 from by omega]
          simpa [intC, intD, List.getD_eq_getElem?_getD, hi] using h1⟩, fun b' off' ha => by
          obtain ⟨hb1, -⟩ : lb = b' ∧ _ := by simpa using ha
          obtain ⟨c, f, hc⟩ := HLT.out
          rw [← hb1]
          exact ⟨c, f, (HWr.out lb HLL.out).trans hc⟩⟩
        have hpl : IntsT wr ⟨a', cp'⟩ (placesS F l) := by
          have e := places_len F l
          unfold IntsT IntsS
          rw [e]; exact ⟨hro, own_ty HOr.out⟩
        have hne : ¬ w.heap.size = wb := by omega
        have hne2 : ¬ wb = w.heap.size := by omega
        have HB := Lib.hid hB; have HLW := Lib.hid hli; have HPW := Lib.hid hpl
        clear hlt hro hli hpl HOr hB
        have qwc := cell_blk xw
        have qwf := frz_blk xw
        have q4c := cell_blk x4
        have q4f := frz_blk x4
        go_wp2_with (fail)
        have y4 : ((((wr.setCell ⟨w.heap.size, 0, none⟩ (.string t)).setCell ⟨w.heap.size, 1, none⟩ (.slice (some ⟨lb, loff, none⟩) l.length lcap)).setCell ⟨w.heap.size, 2, none⟩ (.slice a' l.length cp')).setCell ⟨w.heap.size, 3, none⟩ (.int .i64 (widS F l l.length))).heap[w.heap.size]? = some (Obj.cells #[.string t, .slice (some ⟨lb, loff, none⟩) l.length lcap, .slice a' l.length cp', .int .i64 (widS F l l.length)] 90) := Eq.trans (blk_set (blk_set (blk_set (blk_set x4 _ _) _ _) _ _) _ _) rfl
        have yc := cell_blk y4
        refine ⟨rfl, .agg #[.string t, .slice (some ⟨lb, loff, none⟩) l.length lcap, .slice a' l.length cp', .int .i64 (widS F l l.length)], ?_, ?_⟩
        · simp [results, Tryd.results49, go_sem, yc]
        · show WordOut w F t _ _
          unfold WordOut
          rw [HSM.out]
          have hty : (3 : TypeId) ≠ 90 := by decide
          have z0 := x4; have z1 := blk_set z0 0 (.string t); have z2 := blk_set z1 1 (.slice (some ⟨lb, loff, none⟩) l.length lcap); have z3 := blk_set z2 2 (.slice a' l.length cp')
          exact ⟨⟨_, rfl, ⟨some ⟨lb, loff, none⟩, lcap⟩, ⟨a', cp'⟩, rfl, (((HLW.out.set z0 hty).set z1 hty).set z2 hty).set z3 hty, (((HPW.out.set z0 hty).set z1 hty).set z2 hty).set z3 hty⟩, below_set (below_set (below_set (below_set HB.out (Nat.le_refl _)) (Nat.le_refl _)) (Nat.le_refl _)) (Nat.le_refl _)⟩
end Go.Proofs.YtahgbecfaihfpaaDoor
namespace Go.Proofs.YtahgbecfaihfpaaDoor
open Go.RowKit D
set_option linter.unusedVariables false
set_option linter.unusedSimpArgs false
attribute [local go_sem high] run_minI run_maxI
attribute [local go_sem] upon2 cls_cell cls_frozen forall_const exists_eq_left'
attribute [local go_sem] FirstUpon
theorem wp_calm {P : Program} {c : Code} {K : Act → World → Prop} {Q : Exit → Act → World → Prop} {a : Act} {w : World} (h : c.wp P (Exit.then K (fun _ _ _ => False)) a w) : c.wp P (Exit.then K Q) a w :=
  Code.wp_mono (fun e a w h => by cases e <;> first | exact h | exact h.elim) h
/-- The error of a word. -/
def D.setE (F : Font) (t : ByteArray) : Int := if (checkF F).2.2 ≠ 0 then (checkF F).2.2 else if lettersS t 24 = false then 6 else if (setS F t.data.toList).isNone then 200 else 0
/-- The glyphs and the width that are returned. -/
def SetVal (w : World) (F : Font) (t : ByteArray) (gv : Value) (wd : Int) : Prop :=
  if setE F t = 0 then ∃ l, setS F t.data.toList = some l ∧ wd = widS F l l.length ∧ ∃ gs : Sl, gv = .slice gs.a l.length gs.cap ∧ IntsT w gs (l.map Int.ofNat)
  else gv = .slice none 0 0 ∧ wd = 0
def SetPost (w : World) (F : Font) (t : ByteArray) (e : Ending) (w' : World) : Prop :=
  (∃ gv wd, e = .returned (.tuple #[gv, .int .i64 wd, .int .i64 (setE F t)]) ∧ SetVal w' F t gv wd) ∧ Below w.heap.size w w'
theorem setPost_no {w w' : World} {F : Font} {t : ByteArray} {x : Int} (h : setE F t = x) (h0 : x ≠ 0) (hb : Below w.heap.size w w') : SetPost w F t (.returned (.tuple #[.slice none 0 0, .int .i64 0, .int .i64 x])) w' :=
  ⟨⟨.slice none 0 0, 0, by rw [h], by unfold SetVal; rw [if_neg (by rw [h]; exact h0)]; exact ⟨rfl, rfl⟩⟩, hb⟩
set_option maxRecDepth 100000 in
set_option maxHeartbeats 2000000 in
theorem setApi_any {F : Font} {s : FSl} {t : ByteArray} {w : World} (hF : FontAt w F s) : Calls Tryd.prog 17 #[.agg #[.int .i64 F.high, .int .i64 F.space, .slice s.g.a F.glyphs.length s.g.cap, .slice s.k.a F.kerns.length s.k.cap], .string t] w (SetPost w F t) := by
  by_cases h0 : (checkF F).2.2 = 0
  · have HLD : Hid (∀ W, Below w.heap.size w W → Calls Tryd.prog 46 #[.agg #[.int .i64 F.high, .int .i64 F.space, .slice s.g.a F.glyphs.length s.g.cap, .slice s.k.a F.kerns.length s.k.cap]] W (SetOut W F s rul0)) := Lib.hid fun W hW => load_ok (hF.below hW) h0
    have HK := Lib.hid (font_ok h0)
    have hse : setE F t = if lettersS t 24 = false then 6 else if (setS F t.data.toList).isNone then 200 else 0 := by unfold setE; rw [if_neg (not_not_intro h0)]
    have HSE := Lib.hid hse
    obtain ⟨v, hv⟩ : ∃ v, v = oddS t := ⟨_, rfl⟩
    have HV := Lib.hid hv
    have HOD : Hid (∀ W, Calls Tryd.prog 48 #[.string t] W fun e w' => e = .returned (.bool v) ∧ Below W.heap.size W w') := Lib.hid fun W => by rw [hv]; exact odd_any t W
    clear hF h0 hse hv
    go_enter_defers Tryd.func17, Tryd.ntmps17
    go_wp2_with (fail)
    (with_reducible refine (HLD.out _ ?_).mono ?_)
    · repeat' (first | exact Below.refl _ _ | assumption | refine below_drewN ?_ _ | refine Below.drew ?_ | refine Below.alloc ?_ (by first | assumption | omega | (simp <;> omega)) _ | refine Below.setCell ?_ (by first | assumption | omega | (simp <;> omega)) _ | refine Ext2.on (by assumption) ?_)
    rintro e w1 ⟨⟨b, gm, km, rfl, hbl, hs⟩, hb1⟩
    have hB1 : Below w.heap.size w w1 := Below.trans (by repeat' (first | exact Below.refl _ _ | assumption | refine below_drewN ?_ _ | refine Below.drew ?_ | refine Below.alloc ?_ (by first | assumption | omega | (simp <;> omega)) _ | refine Below.setCell ?_ (by first | assumption | omega | (simp <;> omega)) _ | refine Ext2.on (by assumption) ?_)) (hb1.mono (by simp; omega))
    have x6 : w1.heap[w.heap.size + 1]? = some (Obj.cells #[.int .i64 0] 27) := below_blk hb1 (by repeat' (first | (with_reducible assumption) | (with_reducible refine blk_set_ne ?_ ?_) | (with_reducible exact blk_new _ _) | (with_reducible refine blk_new' _ _ (by first | (with_reducible rfl) | (simp; done) | (simp <;> omega))) | (with_reducible refine blk_alloc ?_ _) | (with_reducible refine blk_drew ?_) | (with_reducible refine blk_drewN ?_ _) | (with_reducible refine Ext2.blk (by assumption) ?_) | omega | (simp <;> omega) | exact blk_set (by assumption) _ _)) (by simp)
    have HS := Lib.hid hs
    clear hb1 hbl hs
    go_wp2_with (fail)
    (with_reducible refine (HOD.out _).mono ?_)
    rintro e w2 ⟨rfl, hb2⟩
    have hE2 : Ext2 w1 w2 := hb2
    have hB2 := below_ext hB1 hE2
    have x6 := Ext2.blk hE2 x6
    have HS := Lib.hid (HS.out.below hE2)
    clear hb2 hE2
    by_cases hg : lettersS t 24 = true
    · have hvf : v = false := by
        rw [HV.out]; unfold oddS; unfold lettersS at hg
        rw [Bool.and_eq_true] at hg
        have h2 := of_decide_eq_true hg.2
        rw [hg.1, decide_eq_false (by omega)]; rfl
      have h24 : t.size ≤ 24 := by
        unfold lettersS at hg
        rw [Bool.and_eq_true] at hg
        have h2 := of_decide_eq_true hg.2
        omega
      have hle : (t.size : Int) ≤ 24 := by omega
      have hd : decide ((t.size : Int) ≤ 24) = true := decide_eq_true hle
      have hse := HSE.out
      rw [if_neg (by rw [hg]; simp)] at hse
      have HSE2 := Lib.hid hse
      have HST : Hid (∀ W, Below w2.heap.size w2 W → Calls Tryd.prog 49 #[.pointer (some ⟨b, 0, none⟩), .string t] W (WordOut W F t)) := Lib.hid fun W hW => set_any (HS.out.below hW) HK.out h24
      clear hse hg h24
      subst hvf
      go_wp2_with (fail)
      (with_reducible refine (must_ok _ _).mono ?_)
      rintro e w3 ⟨rfl, rfl⟩
      go_wp2_with (fail)
      (with_reducible refine (HST.out _ (Below.refl _ _)).mono ?_)
      intro e w4 hw4
      unfold WordOut at hw4
      obtain ⟨hw4, hb4⟩ := hw4
      have hE4 : Ext2 w2 w4 := hb4
      have hB4 := below_ext hB2 hE4
      have x6 := Ext2.blk hE4 x6
      obtain ⟨o, ho⟩ : ∃ o, o = setS F t.data.toList := ⟨_, rfl⟩
      rw [← ho] at hw4
      have HO := Lib.hid ho
      clear ho hb4 hE4
      cases o with
      | none =>
        obtain rfl : e = .panicked [{ v := .iface 27 (.int .i64 (200)), recovered := false }] := hw4
        have hx : setE F t = 200 := by rw [HSE2.out, ← HO.out]; rfl
        have HX := Lib.hid hx
        clear hx
        go_wp2_with (fail)
        have y6 : (w4.setCell ⟨w.heap.size + 1, 0, none⟩ (.int .i64 200)).heap[w.heap.size + 1]? = some (Obj.cells #[.int .i64 200] 27) := Eq.trans (blk_set x6 _ _) rfl
        have yc := cell_blk y6
        refine leave_panic x6 ?_
        refine ⟨.tuple #[.slice none 0 0, .int .i64 0, .int .i64 200], ?_, setPost_no HX.out (by decide) (below_set hB4 (by omega))⟩
        simp [results, Tryd.results17, go_sem, yc]
      | some l =>
        obtain ⟨v, rfl, hwv⟩ := hw4
        obtain ⟨gs, ps, rfl, hgs, hps⟩ := hwv
        have hx : setE F t = 0 := by rw [HSE2.out, ← HO.out]; rfl
        have HX := Lib.hid hx
        have HGS := Lib.hid hgs
        have l6 := blk_lt x6
        have hn1 : ¬ w.heap.size + 1 = w4.heap.size := by omega
        have hn2 : ¬ w4.heap.size = w.heap.size + 1 := by omega
        clear hx hgs hps
        go_wp2_with (fail)
        refine wp_name ?_
        intro w5 h5
        have hE5 : Ext2 w4 w5 := by rw [h5]; repeat' (first | exact Below.refl _ _ | assumption | refine below_drewN ?_ _ | refine Below.drew ?_ | refine Below.alloc ?_ (by first | assumption | omega | (simp <;> omega)) _ | refine Below.setCell ?_ (by first | assumption | omega | (simp <;> omega)) _ | refine Ext2.on (by assumption) ?_)
        obtain ⟨wb, hwb⟩ : ∃ n, n = w4.heap.size := ⟨_, rfl⟩
        have x8 : w5.heap[wb]? = some (Obj.cells #[.string t, .slice gs.a l.length gs.cap, .slice ps.a l.length ps.cap, .int .i64 (widS F l l.length)] 90) := by rw [h5, hwb]; exact blk_new _ _
        rw [← hwb] at hn1 hn2 l6 ⊢
        have x6 := Ext2.blk hE5 x6
        have hB5 := below_ext hB4 hE5
        have HG5 := Lib.hid (HGS.out.below hE5)
        clear h5 hE5 hwb
        have q8c := cell_blk x8
        have q8f := frz_blk x8
        have q6c := cell_blk x6
        have q6f := frz_blk x6
        go_wp2_with (fail)
        refine wp_calm ?_
        refine region_ev [] [0, 1, 2, 3, 4, 5] [] [6] (by kernel_rfl) (by kernel_rfl) (by intro c a d v w h; cases d <;> exact h) ?_
        simp only [picks, List.drop_succ_cons, List.drop_zero]
        repeat (refine wpQ0_step (fun K hK => ?_); go_simp; (refine hK _ ?_; clear hK K))
        refine wpQ0_nil ?_
        repeat ((with_reducible refine wpQ2_step (fun K hK => ?_)); go_simp; first | ((with_reducible refine hK _ ?_); clear hK K) | (apply Exists.intro; refine ⟨fun x => ?_, hK _ ?_⟩; (fail); clear hK K))
        refine wpQ2_nil ?_
        refine Events.none_ fun w6 hg6 => ?_
        simp only [picks, List.drop_succ_cons, List.drop_zero]
        have x6 := Ext2.blk hg6 x6
        have hB6 := below_ext hB5 hg6
        have HG6 := Lib.hid (HG5.out.below hg6)
        clear q8c q8f q6c q6f hg6
        have q6c := cell_blk x6
        have q6f := frz_blk x6
        go_wp2_with (fail)
        have y6 : (w6.setCell ⟨w.heap.size + 1, 0, none⟩ (.int .i64 0)).heap[w.heap.size + 1]? = some (Obj.cells #[.int .i64 0] 27) := Eq.trans (blk_set x6 _ _) rfl
        have yc := cell_blk y6
        refine leave_done ?_
        refine ⟨.tuple #[.slice gs.a l.length gs.cap, .int .i64 (widS F l l.length), .int .i64 0], ?_, ?_⟩
        · simp [results, Tryd.results17, go_sem, yc]
        · show SetPost w F t _ _
          refine ⟨⟨.slice gs.a l.length gs.cap, widS F l l.length, by rw [HX.out], ?_⟩, below_set hB6 (by omega)⟩
          unfold SetVal
          rw [if_pos HX.out]
          exact ⟨l, HO.out.symm, rfl, gs, rfl, HG6.out.set x6 (by decide)⟩
    · have hx : setE F t = 6 := by rw [HSE.out, if_pos (by simpa using hg)]
      have HX := Lib.hid hx
      have hl : v = true ∨ (v = false ∧ ¬ (t.size : Int) ≤ 24) := by
        cases hv2 : v with
        | true => exact .inl rfl
        | false =>
          refine .inr ⟨rfl, fun hle => hg ?_⟩
          have h1 := HV.out
          rw [hv2] at h1
          unfold oddS at h1
          have h2 : okS t = true ∧ t.size ≠ 0 := by
            cases h3 : okS t <;> simp [h3] at h1 ⊢; exact h1
          unfold lettersS inB
          rw [h2.1, decide_eq_true (by omega)]; rfl
      clear hx hg
      rcases hl with rfl | ⟨rfl, hle⟩
      case' inl => skip
      case' inr => have hd : decide ((t.size : Int) ≤ 24) = false := decide_eq_false hle
      all_goals
        go_wp2_with (fail)
        (with_reducible refine (must_no _ _).mono ?_)
        rintro e w3 ⟨rfl, rfl⟩
        go_wp2_with (fail)
        have y6 : (w2.setCell ⟨w.heap.size + 1, 0, none⟩ (.int .i64 6)).heap[w.heap.size + 1]? = some (Obj.cells #[.int .i64 6] 27) := Eq.trans (blk_set x6 _ _) rfl
        have yc := cell_blk y6
        refine leave_panic x6 ?_
        refine ⟨.tuple #[.slice none 0 0, .int .i64 0, .int .i64 6], ?_, setPost_no HX.out (by decide) (below_set hB2 (by omega))⟩
        simp [results, Tryd.results17, go_sem, yc]
  · have hcr : setE F t = (checkF F).2.2 := by unfold setE; rw [if_pos h0]
    obtain ⟨x, hx⟩ : ∃ x, x = (checkF F).2.2 := ⟨_, rfl⟩
    have HLD : Hid (∀ W, Below w.heap.size w W → Calls Tryd.prog 46 #[.agg #[.int .i64 F.high, .int .i64 F.space, .slice s.g.a F.glyphs.length s.g.cap, .slice s.k.a F.kerns.length s.k.cap]] W fun e w' => e = .panicked [{ v := .iface 27 (.int .i64 (x)), recovered := false }] ∧ Below W.heap.size W w') := Lib.hid fun W hW => by rw [hx]; exact load_no (hF.below hW) h0
    rw [← hx] at hcr h0
    have HC := Lib.hid hcr; have H0 := Lib.hid h0
    clear hF h0 hcr hx
    go_enter_defers Tryd.func17, Tryd.ntmps17
    go_wp2_with (fail)
    (with_reducible refine (HLD.out _ ?_).mono ?_)
    · repeat' (first | exact Below.refl _ _ | assumption | refine below_drewN ?_ _ | refine Below.drew ?_ | refine Below.alloc ?_ (by first | assumption | omega | (simp <;> omega)) _ | refine Below.setCell ?_ (by first | assumption | omega | (simp <;> omega)) _ | refine Ext2.on (by assumption) ?_)
    rintro e w1 ⟨rfl, hb1⟩
    have hB1 : Below w.heap.size w w1 := Below.trans (by repeat' (first | exact Below.refl _ _ | assumption | refine below_drewN ?_ _ | refine Below.drew ?_ | refine Below.alloc ?_ (by first | assumption | omega | (simp <;> omega)) _ | refine Below.setCell ?_ (by first | assumption | omega | (simp <;> omega)) _ | refine Ext2.on (by assumption) ?_)) (hb1.mono (by simp; omega))
    have x6 : w1.heap[w.heap.size + 1]? = some (Obj.cells #[.int .i64 0] 27) := below_blk hb1 (by repeat' (first | (with_reducible assumption) | (with_reducible refine blk_set_ne ?_ ?_) | (with_reducible exact blk_new _ _) | (with_reducible refine blk_new' _ _ (by first | (with_reducible rfl) | (simp; done) | (simp <;> omega))) | (with_reducible refine blk_alloc ?_ _) | (with_reducible refine blk_drew ?_) | (with_reducible refine blk_drewN ?_ _) | (with_reducible refine Ext2.blk (by assumption) ?_) | omega | (simp <;> omega) | exact blk_set (by assumption) _ _)) (by simp)
    clear hb1
    go_wp2_with (fail)
    have y6 : (w1.setCell ⟨w.heap.size + 1, 0, none⟩ (.int .i64 x)).heap[w.heap.size + 1]? = some (Obj.cells #[.int .i64 x] 27) := Eq.trans (blk_set x6 _ _) rfl
    have yc := cell_blk y6
    refine leave_panic x6 ?_
    refine ⟨.tuple #[.slice none 0 0, .int .i64 0, .int .i64 x], ?_, setPost_no HC.out H0.out (below_set hB1 (by omega))⟩
    simp [results, Tryd.results17, go_sem, yc]
end Go.Proofs.YtahgbecfaihfpaaDoor
