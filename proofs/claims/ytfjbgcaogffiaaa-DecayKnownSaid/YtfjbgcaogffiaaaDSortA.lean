/-
  cmp.Compare, the closures of known's sort.
  slices.SortStableFunc at 20 elements or fewer: insertion; decay.ordered.
  decay.ordered: the tests by day.
-/
import Derived.Test.YtfjbgcaogffiaaaDOpen
namespace Go.Proofs.Ytfjbgcaogffiaaa
open Go.RowKit D
set_option linter.unusedVariables false
set_option linter.unusedSimpArgs false
attribute [local go_sem high] run_minI run_maxI
attribute [local go_sem] upon2 cls_cell cls_frozen forall_const exists_eq_left'
attribute [local go_sem] FirstUpon
def cmpI (a b : Int) : Int := if a < b then -1 else if b < a then 1 else 0
theorem isNaN_any (x : Int) (w : World) : Calls Try.prog 113 #[.int .i64 x] w fun e w' => e = .returned (.bool false) ∧ Below w.heap.size w w' := by
  go_enter Try.func113, Try.ntmps113
  go_wp2
  go_ret
  exact ⟨ret_bool (by simp), Below.refl _ _⟩
theorem compare_any (x y : Int) (w : World) : Calls Try.prog 104 #[.int .i64 x, .int .i64 y] w fun e w' => e = .returned (.int .i64 (cmpI x y)) ∧ Below w.heap.size w w' := by
  rcases (by omega : x < y ∨ y < x ∨ x = y) with h | h | h
  · have e1 : cmpI x y = -1 := if_pos h
    rw [e1]
    go_enter Try.func104, Try.ntmps104
    go_wp2_with (fail)
    refine (isNaN_any _ _).mono ?_
    rintro e w1 ⟨rfl, hb1⟩
    go_wp2_with (fail)
    refine (isNaN_any _ _).mono ?_
    rintro e w2 ⟨rfl, hb2⟩
    go_wp2_with (fail)
    go_ret
    exact ⟨rfl, below_trans hb1 hb2⟩
  · have e1 : cmpI x y = 1 := by rw [cmpI, if_neg (by omega), if_pos h]
    have h0 : ¬ x < y := by omega
    have h0' : y ≤ x := by omega
    rw [e1]
    go_enter Try.func104, Try.ntmps104
    go_wp2_with (fail)
    refine (isNaN_any _ _).mono ?_
    rintro e w1 ⟨rfl, hb1⟩
    go_wp2_with (fail)
    refine (isNaN_any _ _).mono ?_
    rintro e w2 ⟨rfl, hb2⟩
    go_wp2_with (fail)
    go_ret
    exact ⟨rfl, below_trans hb1 hb2⟩
  · have e1 : cmpI x y = 0 := by rw [cmpI, if_neg (by omega), if_neg (by omega)]
    rw [e1]; subst h
    go_enter Try.func104, Try.ntmps104
    go_wp2_with (fail)
    refine (isNaN_any _ _).mono ?_
    rintro e w1 ⟨rfl, hb1⟩
    go_wp2_with (fail)
    refine (isNaN_any _ _).mono ?_
    rintro e w2 ⟨rfl, hb2⟩
    go_wp2_with (fail)
    go_ret
    exact ⟨rfl, below_trans hb1 hb2⟩
theorem known1_any (x : Test) (w : World) : Calls Try.prog 78 #[.agg #[.int .i64 x.day, .int .i64 x.grade, .int .i64 x.err]] w fun e w' => e = .returned (.int .i64 x.day) ∧ Below w.heap.size w w' := by
  go_enter Try.func78, Try.ntmps78
  go_wp2
  go_ret
  exact ⟨rfl, by repeat' (first | exact Below.refl _ _ | assumption | refine below_drewN ?_ _ | refine Below.drew ?_ | refine Below.alloc ?_ (by first | assumption | omega | (simp <;> omega)) _ | refine Below.setCell ?_ (by first | assumption | omega | (simp <;> omega)) _)⟩

set_option maxRecDepth 100000 in
set_option maxHeartbeats 2000000 in
theorem less_any {l : List Test} {tb toff tc nb lb x y : Nat} {W : World} (hn : W.heap[nb]? = some (.cells #[.func (.func 78) #[] #[]] 122 (0, 0))) (hl : W.heap[lb]? = some (.cells #[.slice (some ⟨tb, toff, none⟩) l.length tc] 29 (0, 0))) (hr : RowC W tb toff 3 l.length (testC l)) (hx : x < l.length) (hy : y < l.length) (hc : l.length ≤ 20) :
    Calls Try.prog 103 (#[.int .i64 (x : Int), .int .i64 (y : Int)] ++ #[.pointer (some ⟨nb, 0, none⟩), .pointer (some ⟨lb, 0, none⟩)]) W fun e w' => e = .returned (.int .i64 (cmpI (testD l x).day (testD l y).day)) ∧ Below W.heap.size W w' := by
  obtain ⟨a0, a1, a2⟩ := hr.three (i := x) hx
  obtain ⟨c0, c1, c2⟩ := hr.three (i := y) hy
  simp only [testC] at a0 a1 a2 c0 c1 c2
  obtain ⟨u, hu⟩ : ∃ u, u = testD l x := ⟨_, rfl⟩
  obtain ⟨v, hv⟩ : ∃ v, v = testD l y := ⟨_, rfl⟩
  rw [← hu] at a0 a1 a2
  rw [← hv] at c0 c1 c2
  rw [← hu, ← hv]
  clear hu hv hr
  have j0 : (0 : Int) ≤ (x : Int) := by omega
  have j1 : (x : Int) < (l.length : Int) := by omega
  have j2 : (0 : Int) ≤ (y : Int) := by omega
  have j3 : (y : Int) < (l.length : Int) := by omega
  have qnc := cell_blk hn
  have qnf := frz_blk hn
  have qlc := cell_blk hl
  have qlf := frz_blk hl
  go_enter Try.func103, Try.ntmps103
  go_wp2_with (fail)
  refine region_ev [] [0, 1, 2, 3, 4, 5, 6, 7, 8, 9, 10, 11, 12, 13] [] [] (by kernel_rfl) (by kernel_rfl) (by intro c a d v w h; cases d <;> exact h) ?_
  simp only [picks, List.drop_succ_cons, List.drop_zero]
  repeat (refine wpQ0_step (fun K hK => ?_); go_simp; (refine hK _ ?_; clear hK K))
  refine wpQ0_nil ?_
  repeat (refine wpQ2_step (fun K hK => ?_); go_simp; first | (refine hK _ ?_; clear hK K) | (apply Exists.intro; refine ⟨fun x => ?_, hK _ ?_⟩; (first | (with_reducible exact known1_any u x.1) | (with_reducible exact known1_any v x.1) | (with_reducible exact compare_any _ _ x.1)); clear hK K))
  refine wpQ2_nil ?_
  refine Events.none_ fun w2 hg2 => ?_
  simp only [picks, List.drop_succ_cons, List.drop_zero]
  go_wp2_with (fail)
  go_ret
  exact ⟨rfl, hg2⟩
end Go.Proofs.Ytfjbgcaogffiaaa
namespace Go.Proofs.Ytfjbgcaogffiaaa
open Go.RowKit D
set_option linter.unusedVariables false
set_option linter.unusedSimpArgs false
attribute [local go_sem high] run_minI run_maxI
attribute [local go_sem] upon2 cls_cell cls_frozen forall_const exists_eq_left'
attribute [local go_sem] FirstUpon
/-- A list of numbers below i, and behind it each place's own number. -/
def idC (L : List Nat) (i : Nat) (_ : Nat) : Value := .int .i64 ((L.getD i i : Nat) : Int)
theorem idC_natC {L : List Nat} {i : Nat} (h : i < L.length) (j : Nat) : idC L i j = natC L i j := by
  simp only [idC, natC, List.getD_eq_getElem?_getD, List.getElem?_eq_getElem h, Option.getD_some]
theorem idC_out {L : List Nat} {i : Nat} (h : L.length ≤ i) (j : Nat) : idC L i j = .int .i64 (i : Int) := by
  simp only [idC, List.getD_eq_getElem?_getD, List.getElem?_eq_none h, Option.getD_none]
theorem insAt_end {l : List Nat} {x : Nat} : insAt l l.length x = l ++ [x] := by simp [insAt]
theorem idC_end {l : List Nat} {i : Nat} (hl : l.length = i) (p q : Nat) : idC (insAt l i i) p q = idC l p q := by
  subst hl
  rw [insAt_end]
  rcases Nat.lt_trichotomy p l.length with h | h | h
  · simp [idC, List.getD_eq_getElem?_getD, List.getElem?_append_left h]
  · subst h; rw [idC_out (Nat.le_refl _)]; simp [idC]
  · rw [idC_out (L := l ++ [l.length]) (by simp; omega), idC_out (L := l) (by omega)]
theorem swap_id {l : List Nat} {m x : Nat} (hm : m + 1 ≤ l.length) (p q : Nat) : (if p = m then Value.int .i64 (x : Int) else if p = m + 1 then .int .i64 ((l.getD m 0 : Nat) : Int) else idC (insAt l (m + 1) x) p q) = idC (insAt l m x) p q := by
  have h1 := insAt_len l x hm
  have h2 := insAt_len l x (k := m) (by omega)
  rcases Nat.lt_or_ge p (l.length + 1) with h | h
  · have h3 := swap_cells (x := x) hm p
    rw [idC_natC (by omega), idC_natC (by omega)]
    simp only [natC]
    rw [← h3]
    split
    · rfl
    · split <;> rfl
  · rw [if_neg (by omega), if_neg (by omega), idC_out (by omega), idC_out (by omega)]
theorem grown_set {w W : World} {g o : Nat} {v : Value} (h : w.grownBy W (some g)) : w.grownBy (W.setCell ⟨g, o, none⟩ v) (some g) :=
  ⟨h.os, h.tape, h.output, by rw [World.size_setCell]; exact h.size, fun k hk hne => by
    rw [← h.block k hk hne]
    have : g ≠ k := fun e => hne (by rw [e])
    simp [World.setCell, Array.getElem?_modify, this]⟩
theorem grown_below {w W W' : World} {g : Option Nat} (h : w.grownBy W g) (hb : Below W.heap.size W W') : w.grownBy W' g :=
  ⟨hb.os.trans h.os, hb.tape.trans h.tape, hb.output.trans h.output, Nat.le_trans h.size hb.size, fun k hk hne => (hb.block k (Nat.lt_of_lt_of_le hk h.size)).trans (h.block k hk hne)⟩
theorem grown_refl (w : World) (g : Option Nat) : w.grownBy w g := World.grownBy.refl w g
theorem grown_trans {w W W' : World} {g : Option Nat} (h : w.grownBy W g) (h' : W.grownBy W' g) : w.grownBy W' g :=
  ⟨h'.os.trans h.os, h'.tape.trans h.tape, h'.output.trans h.output, Nat.le_trans h.size h'.size, fun k hk hne => (h'.block k (Nat.lt_of_lt_of_le hk h.size) hne).trans (h.block k hk hne)⟩
theorem grown_drewN {w W : World} {g : Option Nat} (h : w.grownBy W g) (n : Nat) : w.grownBy (W.drewN n) g := ⟨h.os, h.tape, h.output, h.size, h.block⟩
theorem OwnR.row2 {w : World} {base g cap : Nat} {e : TypeId} {sz n : Nat} {c : Nat → Nat → Value} (h : OwnR w base e sz (.slice (some ⟨g, 0, none⟩) n cap) n c) : RowC w g 0 sz n c := by
  rcases h.forms with ⟨h, _⟩ | ⟨g', cp', he, _, _, _, hr, _, _⟩
  · cases h
  · obtain ⟨rfl, rfl⟩ : g = g' ∧ cap = cp' := by simpa using he
    exact hr
theorem isort_same (g : Option Addr) (n cap : Nat) (a b : Int) (f : Value) (w : World) (h : b ≤ a + 1) (ha : 0 ≤ a) (ha' : a ≤ 1000) : Calls Try.prog 115 #[.slice g n cap, .int .i64 a, .int .i64 b, f] w fun e w' => e = .returned (.tuple #[]) ∧ w = w' := by
  have w1 : IntKind.i64.wrap (a + 1) = a + 1 := IntWalk.i64_in _ (by omega)
  have w2 : ¬ a + 1 < b := by omega
  go_enter Try.func115, Try.ntmps115
  go_wp2_with (fail)
  go_loopw [8] (fun v wr => v = .int .i64 (a + 1) ∧ wr = w) (fun _ _ => 0)
  case atStart => exact ⟨rfl, rfl⟩
  case round =>
    obtain ⟨rfl, rfl⟩ := hrel
    go_wp2_with (fail)
    go_end0
    exact ⟨rfl, rfl⟩
set_option maxRecDepth 100000 in
set_option maxHeartbeats 2000000 in
theorem isort_any {gf : Nat} {lb : Array Value} {d : Nat → Int} {n B g cap : Nat} {w : World} (h1 : 1 ≤ n) (hn : n ≤ 20) (hBw : B ≤ w.heap.size) (eg : ∀ args w, (callFunc gf args).run Try.prog w = .ok (.enter gf args) w)
    (hO : OwnR w B 3 1 (.slice (some ⟨g, 0, none⟩) n cap) n (idC []))
    (hp : ∀ (x y : Nat) W, x < n → y < n → w.grownBy W (some g) → Calls Try.prog gf (#[.int .i64 (x : Int), .int .i64 (y : Int)] ++ lb) W fun e w' => e = .returned (.int .i64 (cmpI (d x) (d y))) ∧ Below W.heap.size W w') :
    Calls Try.prog 115 #[.slice (some ⟨g, 0, none⟩) n cap, .int .i64 0, .int .i64 (n : Int), .func (.func gf) #[] lb] w fun e w' => e = .returned (.tuple #[]) ∧ OwnR w' B 3 1 (.slice (some ⟨g, 0, none⟩) n cap) n (idC (insSort d n)) ∧ w.grownBy w' (some g) := by
  have HP := Lib.hid hp; clear hp
  have h0 : OwnR w B 3 1 (.slice (some ⟨g, 0, none⟩) n cap) n (idC (insSort d 1)) := hO.congr fun i j hi hj => by
    have : insSort d 1 = [0] := rfl
    rw [this]
    rcases Nat.eq_zero_or_pos i with h | h
    · subst h; rfl
    · rw [idC_out (by simp), idC_out (by simp; omega)]
  have H0 := Lib.hid h0; clear hO h0
  go_enter Try.func115, Try.ntmps115
  go_wp2_with (fail)
  go_loopw [8] (fun v wr => ∃ i : Nat, v = .int .i64 (i : Int) ∧ 1 ≤ i ∧ i ≤ n ∧ OwnR wr B 3 1 (.slice (some ⟨g, 0, none⟩) n cap) n (idC (insSort d i)) ∧ w.grownBy wr (some g)) (fun v _ => n - (intOf v).toNat)
  case atStart => exact ⟨1, rfl, Nat.le_refl _, h1, H0.out, grown_refl _ _⟩
  case round =>
    obtain ⟨i, rfl, hi1, hin, hOr, hgr⟩ := hrel
    by_cases hlt : i < n
    · have hlt' : (i : Int) < (n : Int) := by omega
      have hll : (insSort d i).length = i := insSort_len d i
      have hO1 : OwnR wr B 3 1 (.slice (some ⟨g, 0, none⟩) n cap) n (idC (insAt (insSort d i) i i)) := hOr.congr fun p q _ _ => (idC_end hll p q).symm
      have HO1 := Lib.hid hO1; have HLL := Lib.hid hll
      clear hOr hO1 hll
      go_wp2_with (fail)
      go_loopw [9] (fun v wi => ∃ m : Nat, v = .int .i64 (m : Int) ∧ m ≤ i ∧ OwnR wi B 3 1 (.slice (some ⟨g, 0, none⟩) n cap) n (idC (insAt (insSort d i) m i)) ∧ w.grownBy wi (some g) ∧ Hid (∀ j, m ≤ j → j < i → d i < d ((insSort d i).getD j 0))) (fun v _ => (intOf v).toNat)
      case atStart => exact ⟨i, rfl, Nat.le_refl _, HO1.out, hgr, Lib.hid fun j a b => by omega⟩
      case round =>
        obtain ⟨m, rfl, hm, hOi, hgi, HS⟩ := hrel
        rcases hOi.forms with ⟨_, h⟩ | ⟨g', cp', he, hgB, hnc, hcm, hr, hfz, -⟩
        · omega
        obtain ⟨rfl, rfl⟩ : g = g' ∧ cap = cp' := by simpa using he
        have HOi := Lib.hid hOi
        clear he hOi
        by_cases hm0 : 0 < m
        · obtain ⟨m, rfl⟩ : ∃ m', m = m' + 1 := ⟨m - 1, by omega⟩
          have hk' : m + 1 ≤ (insSort d i).length := by rw [HLL.out]; exact hm
          have e0 := hr.one (i := m + 1) (by omega)
          have e1 := hr.one (i := m) (by omega)
          have hl2 := insAt_len (insSort d i) i hk'
          rw [Nat.zero_add, idC_natC (by omega)] at e0 e1
          simp only [natC] at e0 e1
          rw [insAt_at hk'] at e0
          rw [insAt_lt hk' (by omega)] at e1
          obtain ⟨y, hy⟩ : ∃ y, y = (insSort d i).getD m 0 := ⟨_, rfl⟩
          rw [← hy] at e1
          have hyn : y < i := by rw [hy]; exact insSort_lt (by omega)
          have hX : ∀ W, Ext2 wr W → Calls Try.prog gf (#[.int .i64 (i : Int), .int .i64 (y : Int)] ++ lb) W fun e w' => e = .returned (.int .i64 (cmpI (d i) (d y))) ∧ Below W.heap.size W w' := fun W hW => HP.out i y W hlt (by omega) (grown_below hgi hW)
          have HX := Lib.hid hX; have HY := Lib.hid hy; have HK := Lib.hid hk'
          have pw1 : IntKind.i64.wrap ((m : Int) + 1 - 1) = (m : Int) := by rw [show (m : Int) + 1 - 1 = (m : Int) by omega]; exact IntWalk.i64_in _ (by omega)
          have pw3 : (m : Int) + 1 - 1 = (m : Int) := by omega
          have pw4 : IntKind.i64.wrap (m : Int) = (m : Int) := IntWalk.i64_in _ (by omega)
          have pz0 : (0 : Int) < (m : Int) + 1 := by omega
          have pz1 : (m : Int) + 1 < (n : Int) := by omega
          have pz2 : (m : Int) < (n : Int) := by omega
          have pz3 : (0 : Int) ≤ (m : Int) := by omega
          have pz4 : (0 : Int) ≤ (m : Int) + 1 := by omega
          clear hX hy hk' hl2 hr
          by_cases hday : d i < d y
          · have ec : cmpI (d i) (d y) = -1 := if_pos hday
            rw [ec] at HX
            clear ec
            rw [show ((m + 1 : Nat) : Int) = (m : Int) + 1 by omega]
            go_wp2_with (fail)
            refine region_ev [] [0, 1, 2, 3, 4, 5, 6, 7, 8, 9, 10, 11, 12, 13, 14, 15, 16] [] [] (by kernel_rfl) (by kernel_rfl) (by intro c a d v w h; cases d <;> exact h) ?_
            simp only [picks, List.drop_succ_cons, List.drop_zero]
            repeat (refine wpQ0_step (fun K hK => ?_); go_simp; (refine hK _ ?_; clear hK K))
            refine wpQ0_nil ?_
            repeat (refine wpQ2_step (fun K hK => ?_); go_simp; first | (refine hK _ ?_; clear hK K) | (apply Exists.intro; refine ⟨fun x => ?_, hK _ ?_⟩; (first | (with_reducible exact HX.out x.1 x.2)); clear hK K))
            refine wpQ2_nil ?_
            refine Events.none_ fun w2 hg2 => ?_
            simp only [picks, List.drop_succ_cons, List.drop_zero]
            have r2 : RowC w2 g 0 1 n (idC (insAt (insSort d i) (m + 1) i)) := (HOi.out.row2).below hg2
            have hg3 := grown_below hgi hg2
            have hO2 := HOi.out.below hg2
            have e0 := r2.one (i := m + 1) (by omega)
            have e1 := r2.one (i := m) (by omega)
            have hl2 := insAt_len (insSort d i) i HK.out
            rw [Nat.zero_add, idC_natC (by have := HLL.out; omega)] at e0 e1
            simp only [natC] at e0 e1
            rw [insAt_at HK.out] at e0
            rw [insAt_lt HK.out (by omega), ← HY.out] at e1
            have hfz2 : ∀ o, w2.frozen? ⟨g, o, none⟩ = false := fun o => by
              rcases hO2.forms with ⟨_, h⟩ | ⟨g', cp', he, -, -, -, -, hf, -⟩
              · omega
              · obtain ⟨rfl, rfl⟩ : g = g' ∧ cap = cp' := by simpa using he
                exact hf o
            have HO2 := Lib.hid hO2
            clear r2 hO2 hg2 hl2 hfz
            go_wp2_with (fail)
            go_region
            all_goals go_wp2_with (fail)
            all_goals go_roundw
            case rel =>
              have h1 := HO2.out.set (i := m + 1) (j := 0) (by omega) (by omega) (.int .i64 (y : Int))
              rw [Nat.mul_one, Nat.add_zero] at h1
              have h2 := h1.set (i := m) (j := 0) (by omega) (by omega) (.int .i64 (i : Int))
              rw [Nat.mul_one, Nat.add_zero] at h2
              refine ⟨m, by go_num, by omega, ?_, grown_drewN (grown_set (grown_set hg3)) 1, Lib.hid fun j h3 h4 => ?_⟩
              · refine OwnR.congr (w := ((_ : World).setCell _ _).setCell _ _) h2 fun p q hp hq => ?_
                obtain rfl : q = 0 := by omega
                simp only [and_true]
                rw [← swap_id HK.out p 0, ← HY.out]
              · rcases Nat.lt_or_ge m j with h5 | h5
                · exact HS.out j (by omega) h4
                · obtain rfl : j = m := by omega
                  rw [← HY.out]; exact hday
            case measure => simp [intOf]
          · have ec : ¬ cmpI (d i) (d y) < 0 := by
              simp only [cmpI, if_neg hday]; split <;> simp
            obtain ⟨c, hc⟩ : ∃ c, c = cmpI (d i) (d y) := ⟨_, rfl⟩
            rw [← hc] at HX ec
            have ec' : 0 ≤ c := by omega
            have hf : ins d (insSort d i) i = insAt (insSort d i) (m + 1) i := by
              rw [ins, HLL.out, slide_eq (m := m + 1) (.inr (by rw [Nat.add_sub_cancel, ← HY.out]; exact hday)) hm HS.out]
            have HF := Lib.hid hf
            clear hf hc
            rw [show ((m + 1 : Nat) : Int) = (m : Int) + 1 by omega]
            go_wp2_with (fail)
            refine region_ev [] [0, 1, 2, 3, 4, 5, 6, 7, 8, 9, 10, 11, 12, 13, 14, 15, 16] [] [] (by kernel_rfl) (by kernel_rfl) (by intro c a d v w h; cases d <;> exact h) ?_
            simp only [picks, List.drop_succ_cons, List.drop_zero]
            repeat (refine wpQ0_step (fun K hK => ?_); go_simp; (refine hK _ ?_; clear hK K))
            refine wpQ0_nil ?_
            repeat (refine wpQ2_step (fun K hK => ?_); go_simp; first | (refine hK _ ?_; clear hK K) | (apply Exists.intro; refine ⟨fun x => ?_, hK _ ?_⟩; (first | (with_reducible exact HX.out x.1 x.2)); clear hK K))
            refine wpQ2_nil ?_
            refine Events.none_ fun w2 hg2 => ?_
            simp only [picks, List.drop_succ_cons, List.drop_zero]
            go_wp2_with (fail)
            go_roundw
            case rel => exact ⟨i + 1, by go_num, by omega, by omega, by rw [insSort, HF.out]; exact HOi.out.below hg2, grown_below hgi hg2⟩
            case measure => simp [intOf]; omega
        · obtain rfl : m = 0 := by omega
          have hf : ins d (insSort d i) i = insAt (insSort d i) 0 i := by
            rw [ins, HLL.out, slide_eq (m := 0) (.inl rfl) hm HS.out]
          have HF := Lib.hid hf
          clear hf
          go_wp2_with (fail)
          go_quiet (fail)
          go_wp2_with (fail)
          go_roundw
          case rel => exact ⟨i + 1, by go_num, by omega, by omega, by rw [insSort, HF.out]; exact HOi.out, grown_drewN hgi _⟩
          case measure => simp [intOf]; omega
    · obtain rfl : i = n := by omega
      have HOr := Lib.hid hOr; clear hOr
      go_wp2_with (fail)
      go_end0
      exact ⟨rfl, HOr.out, hgr⟩
theorem stable_any {gf : Nat} {lb : Array Value} {d : Nat → Int} {n B g cap : Nat} {w : World} (hn : n ≤ 20) (hBw : B ≤ w.heap.size) (eg : ∀ args w, (callFunc gf args).run Try.prog w = .ok (.enter gf args) w)
    (hO : OwnR w B 3 1 (.slice (some ⟨g, 0, none⟩) n cap) n (idC []))
    (hp : ∀ (x y : Nat) W, x < n → y < n → w.grownBy W (some g) → Calls Try.prog gf (#[.int .i64 (x : Int), .int .i64 (y : Int)] ++ lb) W fun e w' => e = .returned (.int .i64 (cmpI (d x) (d y))) ∧ Below W.heap.size W w') :
    Calls Try.prog 102 #[.slice (some ⟨g, 0, none⟩) n cap, .func (.func gf) #[] lb] w fun e w' => e = .returned (.tuple #[]) ∧ OwnR w' B 3 1 (.slice (some ⟨g, 0, none⟩) n cap) n (idC (insSort d n)) ∧ w.grownBy w' (some g) := by
  have hS : ∀ (a b : Int), b ≤ a + 1 → 0 ≤ a → a ≤ 1000 → ∀ W, Calls Try.prog 115 #[.slice (some ⟨g, 0, none⟩) n cap, .int .i64 a, .int .i64 b, .func (.func gf) #[] lb] W fun e w' => e = .returned (.tuple #[]) ∧ W = w' := fun a b h h1 h2 W => isort_same _ _ _ _ _ _ _ h h1 h2
  have key : Calls Try.prog 112 #[.slice (some ⟨g, 0, none⟩) n cap, .int .i64 (n : Int), .func (.func gf) #[] lb] w fun e w' => e = .returned (.tuple #[]) ∧ OwnR w' B 3 1 (.slice (some ⟨g, 0, none⟩) n cap) n (idC (insSort d n)) ∧ w.grownBy w' (some g) := by
    rcases (by omega : n = 0 ∨ n = 20 ∨ (1 ≤ n ∧ n < 20)) with h | h | h
    · subst h
      have HO := Lib.hid hO; clear hO hp
      go_enter Try.func112, Try.ntmps112
      go_wp2_with (fail)
      go_loopw [7, 8] (fun u v wr => u = .int .i64 0 ∧ v = .int .i64 20 ∧ wr = w) (fun _ _ _ => 0)
      case atStart => exact ⟨rfl, rfl, rfl⟩
      case round =>
        obtain ⟨rfl, rfl, rfl⟩ := hrel
        go_wp2_with (fail)
        refine (hS 0 0 (by omega) (by omega) (by omega) _).mono ?_
        rintro e w1 ⟨rfl, rfl⟩
        go_wp2_with (fail)
        go_loopw [6, 7, 8, 9] (fun u v x y wq => u = .int .i64 20 ∧ wq = wr) (fun _ _ _ _ _ => 0)
        case atStart => exact ⟨rfl, rfl⟩
        case round =>
          obtain ⟨rfl, rfl⟩ := hrel
          go_wp2_with (fail)
          go_end0
          exact ⟨rfl, HO.out.congr fun i j hi _ => by omega, grown_refl _ _⟩
    · subst h
      have HI := Lib.hid (isort_any (d := d) (by omega) hn hBw eg hO hp); clear hp
      have HO := Lib.hid hO; clear hO
      have e20 : ((20 : Nat) : Int) = 20 := rfl
      rw [e20] at HI ⊢
      go_enter Try.func112, Try.ntmps112
      go_wp2_with (fail)
      go_loopw [7, 8] (fun u v wr => ∃ t : Nat, u = .int .i64 (20 * t : Int) ∧ v = .int .i64 (20 * t + 20 : Int) ∧ t ≤ 1 ∧ (t = 0 → wr = w) ∧ (t = 1 → OwnR wr B 3 1 (.slice (some ⟨g, 0, none⟩) 20 cap) 20 (idC (insSort d 20)) ∧ w.grownBy wr (some g))) (fun u _ _ => 20 - (intOf u).toNat)
      case atStart => exact ⟨0, rfl, rfl, by omega, fun _ => rfl, fun h => by omega⟩
      case round =>
        obtain ⟨t, rfl, rfl, ht, ha, hb⟩ := hrel
        rcases (by omega : t = 0 ∨ t = 1) with rfl | rfl
        · obtain rfl := ha rfl
          clear ha hb
          simp only [Int.natCast_zero, Int.mul_zero, Int.zero_add]
          go_wp2_with (fail)
          refine HI.out.mono ?_
          rintro e w1 ⟨rfl, h1, h2⟩
          go_wp2_with (fail)
          go_roundw
          case rel => exact ⟨1, by go_num, by go_num, by omega, fun h => by omega, fun _ => ⟨h1, h2⟩⟩
          case measure => simp [intOf]
        · obtain ⟨hO1, hg1⟩ := hb rfl
          have HO1 := Lib.hid hO1; clear hO1 ha hb
          simp only [Int.natCast_one, Int.mul_one, Int.reduceAdd]
          go_wp2_with (fail)
          refine (hS 20 20 (by omega) (by omega) (by omega) _).mono ?_
          rintro e w1 ⟨rfl, rfl⟩
          go_wp2_with (fail)
          go_loopw [6, 7, 8, 9] (fun u v x y wq => u = .int .i64 20 ∧ wq = wr) (fun _ _ _ _ _ => 0)
          case atStart => exact ⟨rfl, rfl⟩
          case round =>
            obtain ⟨rfl, rfl⟩ := hrel
            go_wp2_with (fail)
            go_end0
            exact ⟨rfl, HO1.out, hg1⟩
    · obtain ⟨ha, hb⟩ := h
      have HI := Lib.hid (isort_any (d := d) ha hn hBw eg hO hp); clear hO hp
      have k1 : ¬ (20 : Int) ≤ (n : Int) := by omega
      have k2 : (n : Int) < 20 := by omega
      have k3 : (n : Int) ≤ 20 := by omega
      go_enter Try.func112, Try.ntmps112
      go_wp2_with (fail)
      go_loopw [7, 8] (fun u v wr => u = .int .i64 0 ∧ v = .int .i64 20 ∧ wr = w) (fun _ _ _ => 0)
      case atStart => exact ⟨rfl, rfl, rfl⟩
      case round =>
        obtain ⟨rfl, rfl, rfl⟩ := hrel
        go_wp2_with (fail)
        refine HI.out.mono ?_
        rintro e w1 ⟨rfl, h1, h2⟩
        have H1 := Lib.hid h1; clear h1
        go_wp2_with (fail)
        go_loopw [6, 7, 8, 9] (fun u v x y wq => u = .int .i64 20 ∧ wq = w1) (fun _ _ _ _ _ => 0)
        case atStart => exact ⟨rfl, rfl⟩
        case round =>
          obtain ⟨rfl, rfl⟩ := hrel
          go_wp2_with (fail)
          go_end0
          exact ⟨rfl, H1.out, h2⟩
  have HK := Lib.hid key; clear key hS hp hO
  go_enter Try.func102, Try.ntmps102
  go_wp2_with (fail)
  refine HK.out.mono ?_
  rintro e w1 ⟨rfl, h1, h2⟩
  have H1 := Lib.hid h1; clear h1
  go_wp2_with (fail)
  go_end0
  exact ⟨rfl, H1.out, h2⟩
end Go.Proofs.Ytfjbgcaogffiaaa
namespace Go.Proofs.Ytfjbgcaogffiaaa
open Go.RowKit D
set_option linter.unusedVariables false
set_option linter.unusedSimpArgs false
attribute [local go_sem high] run_minI run_maxI
attribute [local go_sem] upon2 cls_cell cls_frozen forall_const exists_eq_left'
attribute [local go_sem] FirstUpon
theorem madeInt (n : Nat) : (madeCells (Value.int .i64 0).cells (n * 1)).toList = cellsOf 1 n (fun _ _ => .int .i64 0) := by
  rw [Nat.mul_one]
  have h : (madeCells #[Value.int .i64 0] n).toList = List.replicate n (Value.int .i64 0) := toList_madeCells_one _ _
  refine h.trans ?_
  induction n with
  | zero => rfl
  | succ n ih => rw [cellsOf_succ, ← ih (toList_madeCells_one _ _), List.replicate_succ']; rfl
def fillC (i : Nat) (p : Nat) (_ : Nat) : Value := if p < i then .int .i64 (p : Int) else .int .i64 0
set_option maxRecDepth 100000 in
set_option maxHeartbeats 2000000 in
theorem ordered_any {s : Sl} {l : List Test} {w : World} (hl : TestsS w s l) (hn : l.length ≤ 20) :
    Calls Try.prog 77 #[.slice s.a l.length s.cap, .func (.func 78) #[] #[]] w fun e w' => (∃ v, e = .returned v ∧ OwnR w' w.heap.size 3 1 v l.length (natC (insSort (fun j => (testD l j).day) l.length))) ∧ Below w.heap.size w w' := by
  obtain ⟨n, hn'⟩ : ∃ n, n = l.length := ⟨_, rfl⟩
  obtain ⟨sa, sc⟩ := s
  obtain ⟨E0, Ez, E1, E2, E3⟩ := info_parts elInt.info
  have HL := Lib.hid hl
  have HE := Lib.hid (⟨Ez, E1, E2, E3⟩ : _ ∧ _ ∧ _ ∧ _)
  clear hl Ez E1 E2 E3
  rw [← hn']
  have HN := Lib.hid hn'
  rw [← hn'] at hn
  clear hn'
  go_enter Try.func77, Try.ntmps77
  go_wp2_with (at_make; refine wpList_make_full _ rfl _ _ 44 rfl (w.heap.size + 1 + 1) 3 E0 (.int .i64 0) 1 (by kernel_rfl) HE.out.1 HE.out.2.1 HE.out.2.2.1 .i64 .i64 (n : Int) (n : Int) n rfl rfl rfl rfl (by rw [HE.out.2.2.2]; omega) (by unfold maxLen; omega) (by simp) ?_; intro w1 hO1 hg1; have b0 := (hg1.block w.heap.size (by simp; omega) (by simp)).trans (show _ = some (.cells #[.slice sa n sc] 29 (0, 0)) by repeat' (first | (with_reducible assumption) | (with_reducible refine blk_set_ne ?_ ?_) | (with_reducible exact blk_new _ _) | (with_reducible refine blk_new' _ _ (by first | (with_reducible rfl) | (simp; done) | (simp <;> omega))) | (with_reducible refine blk_alloc ?_ _) | (with_reducible refine blk_drew ?_) | (with_reducible refine blk_drewN ?_ _) | (with_reducible refine Ext2.blk (by assumption) ?_) | omega | (simp <;> omega) | exact blk_set (by assumption) _ _)); have b1 := (hg1.block (w.heap.size + 1) (by simp) (by simp)).trans (show _ = some (.cells #[.func (.func 78) #[] #[]] 122 (0, 0)) by repeat' (first | (with_reducible assumption) | (with_reducible refine blk_set_ne ?_ ?_) | (with_reducible exact blk_new _ _) | (with_reducible refine blk_new' _ _ (by first | (with_reducible rfl) | (simp; done) | (simp <;> omega))) | (with_reducible refine blk_alloc ?_ _) | (with_reducible refine blk_drew ?_) | (with_reducible refine blk_drewN ?_ _) | (with_reducible refine Ext2.blk (by assumption) ?_) | omega | (simp <;> omega) | exact blk_set (by assumption) _ _)); have q0c := cell_blk b0; have q0f := frz_blk b0)
  have hB1 : Below w.heap.size w w1 := Below.grown (by repeat' (first | exact Below.refl _ _ | assumption | refine below_drewN ?_ _ | refine Below.drew ?_ | refine Below.alloc ?_ (by first | assumption | omega | (simp <;> omega)) _ | refine Below.setCell ?_ (by first | assumption | omega | (simp <;> omega)) _ | refine Ext2.on (by assumption) ?_)) hg1 (by simp; omega) (fun k hk => by cases hk)
  have hO2 : OwnR w1 (w.heap.size + 1 + 1) 3 1 (.slice (some ⟨w.heap.size + 1 + 1, 0, none⟩) n n) n (fillC 0) := by
    have h := hO1
    rw [madeInt] at h
    have h' : OwnR w1 (w.heap.size + 1 + 1) 3 1 (.slice (some ⟨w.heap.size + 1 + 1, 0, none⟩) n n) n (fun _ _ => .int .i64 0) := by
      unfold OwnR; simpa using h
    exact h'.congr fun p q _ _ => by simp [fillC]
  have B0 := Lib.hid b0; have B1 := Lib.hid b1; have HO2 := Lib.hid hO2; have HB1 := Lib.hid hB1
  clear hO1 hO2 q0c q0f b0 b1
  go_loopw [6, 12] (fun u v wr => ∃ i : Nat, v = .int .i64 (i : Int) ∧ i ≤ n ∧ OwnR wr (w.heap.size + 1 + 1) 3 1 (.slice (some ⟨w.heap.size + 1 + 1, 0, none⟩) n n) n (fillC i) ∧ w1.grownBy wr (some (w.heap.size + 1 + 1))) (fun _ v _ => n - (intOf v).toNat)
  case atStart => exact ⟨0, rfl, by omega, HO2.out, grown_refl _ _⟩
  case round =>
    obtain ⟨i, rfl, hi, hOr, hgr⟩ := hrel
    have HOr := Lib.hid hOr
    by_cases hlt : i < n
    · have hlt' : (i : Int) < (n : Int) := by omega
      have hi0 : (0 : Int) ≤ (i : Int) := by omega
      have c0 := hOr.row2.one (i := i) hlt
      have hfz : ∀ o, wr.frozen? ⟨w.heap.size + 1 + 1, o, none⟩ = false := fun o => by
        rcases hOr.forms with ⟨_, h⟩ | ⟨g', cp', he, -, -, -, -, hf, -⟩
        · omega
        · obtain ⟨rfl, rfl⟩ : w.heap.size + 1 + 1 = g' ∧ n = cp' := by simpa using he
          exact hf o
      rw [Nat.zero_add] at c0
      have e0 : fillC i i 0 = .int .i64 0 := if_neg (by omega)
      rw [e0] at c0
      clear hOr e0
      go_wp2_with (fail)
      go_roundw
      case rel =>
        have h1 := HOr.out.set (i := i) (j := 0) (by omega) (by omega) (.int .i64 (i : Int))
        rw [Nat.mul_one, Nat.add_zero] at h1
        refine ⟨i + 1, by go_num, by omega, h1.congr fun p q hp hq => ?_, grown_set hgr⟩
        obtain rfl : q = 0 := by omega
        simp only [and_true, fillC]
        by_cases h : p = i
        · rw [if_pos h, if_pos (by omega), h]
        · rw [if_neg h]
          by_cases h2 : p < i
          · rw [if_pos h2, if_pos (by omega)]
          · rw [if_neg h2, if_neg (by omega)]
      case measure => simp [intOf]; omega
    · obtain rfl : i = n := by omega
      have hOr' : ∃ x, w1.heap[w.heap.size + 1 + 1]? = some x := by
        rcases HO2.out.forms with ⟨h, _⟩ | ⟨g', cp', he, -, -, -, -, -, cur, hc⟩
        · cases h
        · obtain ⟨rfl, rfl⟩ : w.heap.size + 1 + 1 = g' ∧ i = cp' := by simpa using he
          exact ⟨_, hc⟩
      have hsz := hgr.size
      clear hOr
      have hg2 := blk_lt hOr'.choose_spec
      have hb0 : wr.heap[w.heap.size]? = some (.cells #[.slice sa i sc] 29 (0, 0)) := (hgr.block _ (by omega) (by simp; omega)).trans B0.out
      have hb1 : wr.heap[w.heap.size + 1]? = some (.cells #[.func (.func 78) #[] #[]] 122 (0, 0)) := (hgr.block _ (by omega) (by simp)).trans B1.out
      have hS := stable_any (d := fun j => (testD l j).day) (lb := #[.pointer (some ⟨w.heap.size + 1, 0, none⟩), .pointer (some ⟨w.heap.size, 0, none⟩)]) (gf := 103) (B := w.heap.size + 1 + 1) (w := wr) hn (by omega) (enters_of Try.func103 (by kernel_rfl) rfl) (HOr.out.congr fun p q hp hq => by
          rw [idC_out (by simp)]; exact if_pos hp) (fun x y W hx hy hW => by
          obtain ⟨tb, toff, ha, hr⟩ := HL.out.row (by rw [← HN.out]; omega) (by omega)
          obtain rfl : sa = some ⟨tb, toff, none⟩ := ha
          have e1 : W.heap[w.heap.size + 1]? = some _ := (hW.block _ (by omega) (by simp)).trans hb1
          have e0 : W.heap[w.heap.size]? = some _ := (hW.block _ (by omega) (by simp; omega)).trans hb0
          have hrW : RowC W tb toff 3 l.length (testC l) := ⟨by have := hr.1; have := hW.size; omega, fun p q hp hq => by
            rw [← hr.2 p q hp hq]
            have hlt : tb < w.heap.size := hr.1
            refine World.cell?_of_block ((hW.block tb (by omega) (by simp; omega)).trans ((hgr.block tb (by omega) (by simp; omega)).trans (HB1.out.block tb hlt)))⟩
          rw [HN.out] at e0 hx hy
          have := less_any e1 e0 hrW hx hy (by rw [← HN.out]; exact hn)
          exact this)
      have HS := Lib.hid hS
      have HBR : Below w.heap.size w wr := ⟨hgr.os.trans HB1.out.os, hgr.tape.trans HB1.out.tape, hgr.output.trans HB1.out.output, Nat.le_trans HB1.out.size hgr.size, fun k hk => (hgr.block k (by omega) (by simp; omega)).trans (HB1.out.block k hk)⟩
      clear hS hb0 hb1 hOr'
      go_wp2_with (fail)
      refine HS.out.mono ?_
      rintro e w3 ⟨rfl, hO3, hg3⟩
      have hf : OwnR w3 w.heap.size 3 1 (.slice (some ⟨w.heap.size + 1 + 1, 0, none⟩) i i) i (natC (insSort (fun j => (testD l j).day) i)) := (hO3.base (by omega)).congr fun p q hp hq => idC_natC (by rw [insSort_len]; exact hp) q
      have HF := Lib.hid hf
      have hB3 : Below w.heap.size w w3 := ⟨hg3.os.trans HBR.os, hg3.tape.trans HBR.tape, hg3.output.trans HBR.output, Nat.le_trans HBR.size hg3.size, fun k hk => (hg3.block k (by have := HBR.size; omega) (by simp; omega)).trans (HBR.block k hk)⟩
      clear hO3 hf hg3
      go_wp2_with (fail)
      go_ret
      exact ⟨⟨_, rfl, HF.out⟩, hB3⟩
end Go.Proofs.Ytfjbgcaogffiaaa
