/-
  ref.breaks, ref.Break, ref.Rest.
-/
import Derived.Test.YtahgbecfaihfpaaDoorTRefB
namespace Go.Proofs.YtahgbecfaihfpaaDoor
open Go.RowKit D
set_option linter.unusedVariables false
set_option linter.unusedSimpArgs false
attribute [local go_sem high] run_minI run_maxI
attribute [local go_sem] upon2 cls_cell cls_frozen forall_const exists_eq_left'
attribute [local go_sem] FirstUpon
theorem rst_cells {w : World} {b cap n : Nat} {T : Nat → Rst} (h : RowS w ⟨some ⟨b, 0, none⟩, cap⟩ 3 n (rstC T)) {i : Nat} (hi : i < n) : w.cell? ⟨b, i * 3, none⟩ = some (.int .i64 (T i).cost) ∧ w.cell? ⟨b, i * 3 + 1, none⟩ = some (.int .i64 (T i).lines) ∧ w.cell? ⟨b, i * 3 + 2, none⟩ = some (.int .i64 (T i).end_) := by
  obtain ⟨b', off, e1, hr⟩ := h.row (by omega) (by omega)
  obtain ⟨rfl, rfl⟩ : b = b' ∧ 0 = off := by simpa using e1
  have := hr.three hi
  simpa [Nat.zero_add, rstC] using this
set_option maxRecDepth 100000 in
set_option maxHeartbeats 2000000 in
theorem breaksR_any {F : Font} {s : FSl} {R : Rul} {P : List ByteArray} {s1 s2 : Sl} {w : World} (hk : FontOk F) (hr : RulOk F R) (ht : TextOk F R P) (h1 : StrsS w s1 P) (h2 : IntsS w s2 (widL F P)) :
    Calls Tryd.prog 69 #[.agg #[.int .i64 F.high, .int .i64 F.space, .slice s.g.a F.glyphs.length s.g.cap, .slice s.k.a F.kerns.length s.k.cap], .agg #[.int .i64 R.measure, .int .i64 R.lines, .int .i64 R.lead, .int .i64 R.short, .int .i64 R.extra, .int .i64 R.ink], .slice s1.a P.length s1.cap, .slice s2.a P.length s2.cap] w fun e w' => (∃ s' : Sl, e = .returned (.slice s'.a (nLines F R P) s'.cap) ∧ RowS w' s' 4 (nLines F R P) (fun i => lnV (linS F R P i))) ∧ Below w.heap.size w w' := by
  have HBS : Hid (∀ W, Below w.heap.size w W → Calls Tryd.prog 70 #[.agg #[.int .i64 F.high, .int .i64 F.space, .slice s.g.a F.glyphs.length s.g.cap, .slice s.k.a F.kerns.length s.k.cap], .agg #[.int .i64 R.measure, .int .i64 R.lines, .int .i64 R.lead, .int .i64 R.short, .int .i64 R.extra, .int .i64 R.ink], .slice s1.a P.length s1.cap, .slice s2.a P.length s2.cap] W fun e w' => (∃ ob, e = .returned (.slice (some ⟨ob, 0, none⟩) (P.length + 1) (P.length + 1)) ∧ RowS w' ⟨some ⟨ob, 0, none⟩, P.length + 1⟩ 3 (P.length + 1) (rstC (restS F R P))) ∧ Below W.heap.size W w') := Lib.hid fun W hW => bestsR_any hk hr ht (RowS.below h1 hW) (RowS.below h2 hW)
  have hn40 := ht.n40; have hn1 := ht.n1
  have hlo := lines_ok ht
  have h1c := h1.le; have h1m := h1.max; have h2c := h2.le; have h2m := h2.max
  rw [widL_len] at h2c
  have HK := Lib.hid hk; have HRO := Lib.hid hr; have HTX := Lib.hid ht; have H1 := Lib.hid h1; have H2 := Lib.hid h2; have HLO := Lib.hid hlo
  clear hk hr ht h1 h2 hlo
  go_enter Tryd.func69, Tryd.ntmps69
  go_wp2_with (fail)
  (with_reducible refine (HBS.out _ ?_).mono ?_)
  · repeat' (first | exact Below.refl _ _ | assumption | refine below_drewN ?_ _ | refine Below.drew ?_ | refine Below.alloc ?_ (by first | assumption | omega | (simp <;> omega)) _ | refine Below.setCell ?_ (by first | assumption | omega | (simp <;> omega)) _ | refine Ext2.on (by assumption) ?_)
  rintro e w2 ⟨⟨ob, rfl, hrow⟩, hb2⟩
  have hB2 : Below w.heap.size w w2 := Below.trans (by repeat' (first | exact Below.refl _ _ | assumption | refine below_drewN ?_ _ | refine Below.drew ?_ | refine Below.alloc ?_ (by first | assumption | omega | (simp <;> omega)) _ | refine Below.setCell ?_ (by first | assumption | omega | (simp <;> omega)) _ | refine Ext2.on (by assumption) ?_)) (hb2.mono (by simp; omega))
  have x4 : w2.heap[w.heap.size]? = some (Obj.cells #[.int .i64 F.high, .int .i64 F.space, .slice s.g.a F.glyphs.length s.g.cap, .slice s.k.a F.kerns.length s.k.cap] 25) := below_blk hb2 (by repeat' (first | (with_reducible assumption) | (with_reducible refine blk_set_ne ?_ ?_) | (with_reducible exact blk_new _ _) | (with_reducible refine blk_new' _ _ (by first | (with_reducible rfl) | (simp; done) | (simp <;> omega))) | (with_reducible refine blk_alloc ?_ _) | (with_reducible refine blk_drew ?_) | (with_reducible refine blk_drewN ?_ _) | (with_reducible refine Ext2.blk (by assumption) ?_) | omega | (simp <;> omega) | exact blk_set (by assumption) _ _)) (by simp; omega)
  have x5 : w2.heap[w.heap.size + 1]? = some (Obj.cells #[.int .i64 R.measure, .int .i64 R.lines, .int .i64 R.lead, .int .i64 R.short, .int .i64 R.extra, .int .i64 R.ink] 34) := below_blk hb2 (by repeat' (first | (with_reducible assumption) | (with_reducible refine blk_set_ne ?_ ?_) | (with_reducible exact blk_new _ _) | (with_reducible refine blk_new' _ _ (by first | (with_reducible rfl) | (simp; done) | (simp <;> omega))) | (with_reducible refine blk_alloc ?_ _) | (with_reducible refine blk_drew ?_) | (with_reducible refine blk_drewN ?_ _) | (with_reducible refine Ext2.blk (by assumption) ?_) | omega | (simp <;> omega) | exact blk_set (by assumption) _ _)) (by simp)
  have HB2 := Lib.hid hB2; have HX4 := Lib.hid x4; have HX5 := Lib.hid x5; have HROW := Lib.hid hrow
  clear hb2 hB2 x4 x5 hrow
  go_wp2_with (fail)
  go_loopw [10, 11] (fun v i wr => ∃ k : Nat, i = .int .i64 (brk F R P k : Int) ∧ k ≤ nLines F R P ∧ OwnR wr w2.heap.size 71 4 v k (fun i => lnV (linS F R P i)) ∧ Ext2 w2 wr) (fun _ i _ => P.length - (intOf i).toNat)
  case atStart => exact ⟨0, rfl, Nat.zero_le _, own_nil _ _ _ _ _, Below.refl _ _⟩
  case round =>
    obtain ⟨k, rfl, hk, hO, hEr⟩ := hrel
    have HO := Lib.hid hO; have HEr := Lib.hid hEr
    have hsz := hEr.size
    have hBr := below_ext HB2.out hEr
    clear hO
    by_cases hlt : k < nLines F R P
    · go_light
      have hk40 : k ≤ 40 := by have := HLO.out.1; omega
      have hb := brk_lt HTX.out hlt
      have hen := (endN_ok HTX.out hb.2.2).1
      rw [← brk_succ hb.2.2] at hen
      have hln : linS F R P k = ⟨(brk F R P k : Int), (brk F R P (k + 1) : Int), (linS F R P k).wide, (linS F R P k).cost⟩ := rfl
      have hLN : ∀ W, Ext2 wr W → Calls Tryd.prog 58 #[.agg #[.int .i64 F.high, .int .i64 F.space, .slice s.g.a F.glyphs.length s.g.cap, .slice s.k.a F.kerns.length s.k.cap], .agg #[.int .i64 R.measure, .int .i64 R.lines, .int .i64 R.lead, .int .i64 R.short, .int .i64 R.extra, .int .i64 R.ink], .slice s1.a P.length s1.cap, .slice s2.a P.length s2.cap, .int .i64 (brk F R P k : Int), .int .i64 (brk F R P (k + 1) : Int)] W fun e w' => e = .returned (.agg #[.int .i64 (brk F R P k : Int), .int .i64 (brk F R P (k + 1) : Int), .int .i64 (linS F R P k).wide, .int .i64 (linS F R P k).cost]) ∧ Below W.heap.size W w' := fun W hW => by
        have h := lineR_any (s := s) (s1 := s1) (s2 := s2) (w := W) HK.out HRO.out HTX.out (RowS.below H1.out (below_ext hBr hW)) (RowS.below H2.out (below_ext hBr hW)) hb.1 hb.2.1
        exact h
      obtain ⟨-, -, c2⟩ := rst_cells (RowS.below HROW.out hEr) (i := brk F R P k) (by omega)
      rw [hen] at c2
      obtain ⟨B, hB⟩ : ∃ B, B = brk F R P k := ⟨_, rfl⟩
      obtain ⟨E, hE⟩ : ∃ E, E = brk F R P (k + 1) := ⟨_, rfl⟩
      obtain ⟨X, hX⟩ : ∃ X, X = (linS F R P k).wide := ⟨_, rfl⟩
      obtain ⟨Y, hY⟩ : ∃ Y, Y = (linS F R P k).cost := ⟨_, rfl⟩
      rw [← hB, ← hE, ← hX, ← hY] at hLN hln
      rw [← hB, ← hE] at c2 hb
      rw [← hB]
      have HLN := Lib.hid hLN; have HLL := Lib.hid hln; have HBE := Lib.hid hB; have HEE := Lib.hid hE
      have r0 : (0 : Int) ≤ (B : Int) := by omega
      have r1 : (B : Int) < (P.length : Int) := by omega
      have r2 : (B : Int) < (P.length : Int) + 1 := by omega
      have y4 := Ext2.blk hEr HX4.out
      have y5 := Ext2.blk hEr HX5.out
      have HC2 := Lib.hid c2
      clear hLN hln hB hE hX hY hen hEr
      have q4c := cell_blk y4
      have q4f := frz_blk y4
      have q5c := cell_blk y5
      have q5f := frz_blk y5
      go_wp2_with (fail)
      refine region_ev [] [0, 1, 2, 3, 4, 5, 6, 7, 8, 9, 10, 11] [(12, 38, none)] [13, 14] (by kernel_rfl) (by kernel_rfl) (by intro c a d v w h; cases d <;> exact h) ?_
      simp only [picks, List.drop_succ_cons, List.drop_zero]
      repeat (refine wpQ0_step (fun K hK => ?_); go_simp; (refine hK _ ?_; clear hK K))
      refine wpQ0_nil ?_
      repeat ((with_reducible refine wpQ2_step (fun K hK => ?_)); go_simp; first | ((with_reducible refine hK _ ?_); clear hK K) | (apply Exists.intro; refine ⟨fun x => ?_, hK _ ?_⟩; ((with_reducible exact HLN.out x.1 x.2)); clear hK K))
      refine wpQ2_nil ?_
      refine Events.lay1 (fun b => .slice (some ⟨b, 0, none⟩) 1 1) (.cells #[.int .i64 (B : Int), .int .i64 (E : Int), .int .i64 X, .int .i64 Y] 71 (0, 0)) ⟨_, rfl, rfl, rfl, fun W => by kernel_rfl⟩ fun b38 w3 hb38 hg3 nb38 => ?_
      simp only [picks, List.drop_succ_cons, List.drop_zero]
      have HEr3 := Lib.hid (ext_trans HEr.out hg3)
      have hsz3 := hg3.size
      clear q4c q4f q5c q5f y4 y5 c2
      go_wp2_with (at_builtin; go_loud (refine app_one [.int .i64 (B : Int), .int .i64 (E : Int), .int .i64 X, .int .i64 Y] elLn rfl _ _ rfl w2.heap.size rfl (HO.out.below hg3) b38 1 rfl nb38 (by simp [Value.oneCell']) (by omega) (by omega) ?_; intro v' w7 hO7 hg7; have hE7 : Ext2 w2 w7 := app_below (HEr3.out) (HO.out.below hg3) (Nat.le_refl _) (by omega) hg7; have c2 := (rst_cells (RowS.below HROW.out hE7) (i := B) (by omega)).2.2; rw [HBE.out, (endN_ok HTX.out (by rw [← HBE.out]; omega)).1, ← brk_succ (by rw [← HBE.out]; omega), ← HEE.out, ← HBE.out] at c2))
      have hO7' : OwnR w7 w2.heap.size 71 4 v' (k + 1) (fun i => lnV (linS F R P i)) := hO7.congr fun i j hi hj => by
        by_cases hik : i = k
        · subst hik
          rw [upd_at, HLL.out]
          have hj4 : j < 4 := hj
          rcases (by omega : j = 0 ∨ j = 1 ∨ j = 2 ∨ j = 3) with rfl | rfl | rfl | rfl <;> rfl
        · rw [upd_lt (by omega)]
      have HO7 := Lib.hid hO7'
      clear hO7 hg7 hO7'
      go_roundw
      case rel => exact ⟨k + 1, by rw [HEE.out], hlt, HO7.out, hE7⟩
      case measure => simp [intOf]; omega
    · obtain rfl : k = nLines F R P := by omega
      have hbe := HLO.out.2.1
      rw [hbe]
      have r1 : ¬ (P.length : Int) < (P.length : Int) := by omega
      obtain ⟨⟨a', cp⟩, rfl, hro⟩ := HO.out.sl
      have HR1 := Lib.hid hro
      clear hlt hro hEr hbe
      go_wp2_with (fail)
      go_ret
      exact ⟨⟨⟨a', cp⟩, rfl, HR1.out⟩, hBr⟩
set_option maxRecDepth 100000 in
set_option maxHeartbeats 2000000 in
theorem breakR_any {F : Font} {s : FSl} {R : Rul} {t : ByteArray} {w : World} (hF : FontAt w F s) (ht : t.size ≤ maxLen) : Calls Tryd.prog 34 #[.agg #[.int .i64 F.high, .int .i64 F.space, .slice s.g.a F.glyphs.length s.g.cap, .slice s.k.a F.kerns.length s.k.cap], .agg #[.int .i64 R.measure, .int .i64 R.lines, .int .i64 R.lead, .int .i64 R.short, .int .i64 R.extra, .int .i64 R.ink], .string t] w (BreakPost w F R t) := by
  have HRD : Hid (∀ W, Below w.heap.size w W → Calls Tryd.prog 57 #[.agg #[.int .i64 F.high, .int .i64 F.space, .slice s.g.a F.glyphs.length s.g.cap, .slice s.k.a F.kerns.length s.k.cap], .agg #[.int .i64 R.measure, .int .i64 R.lines, .int .i64 R.lead, .int .i64 R.short, .int .i64 R.extra, .int .i64 R.ink], .string t] W (ReadPost W F R t)) := Lib.hid fun W hW => readR_any (hF.below hW) ht
  obtain ⟨x, hx⟩ : ∃ x, x = openE F R t := ⟨_, rfl⟩
  have HX := Lib.hid hx
  clear hx hF
  go_enter Tryd.func34, Tryd.ntmps34
  go_wp2_with (fail)
  (with_reducible refine (HRD.out _ ?_).mono ?_)
  · repeat' (first | exact Below.refl _ _ | assumption | refine below_drewN ?_ _ | refine Below.drew ?_ | refine Below.alloc ?_ (by first | assumption | omega | (simp <;> omega)) _ | refine Below.setCell ?_ (by first | assumption | omega | (simp <;> omega)) _ | refine Ext2.on (by assumption) ?_)
  rintro e w1 ⟨⟨v1, v2, rfl, hv⟩, hb1⟩
  rw [← HX.out] at hv ⊢
  have hB1 : Below w.heap.size w w1 := Below.trans (by repeat' (first | exact Below.refl _ _ | assumption | refine below_drewN ?_ _ | refine Below.drew ?_ | refine Below.alloc ?_ (by first | assumption | omega | (simp <;> omega)) _ | refine Below.setCell ?_ (by first | assumption | omega | (simp <;> omega)) _ | refine Ext2.on (by assumption) ?_)) (hb1.mono (by simp; omega))
  have x4 : w1.heap[w.heap.size]? = some (Obj.cells #[.int .i64 F.high, .int .i64 F.space, .slice s.g.a F.glyphs.length s.g.cap, .slice s.k.a F.kerns.length s.k.cap] 25) := below_blk hb1 (by repeat' (first | (with_reducible assumption) | (with_reducible refine blk_set_ne ?_ ?_) | (with_reducible exact blk_new _ _) | (with_reducible refine blk_new' _ _ (by first | (with_reducible rfl) | (simp; done) | (simp <;> omega))) | (with_reducible refine blk_alloc ?_ _) | (with_reducible refine blk_drew ?_) | (with_reducible refine blk_drewN ?_ _) | (with_reducible refine Ext2.blk (by assumption) ?_) | omega | (simp <;> omega) | exact blk_set (by assumption) _ _)) (by simp; omega)
  have x5 : w1.heap[w.heap.size + 1]? = some (Obj.cells #[.int .i64 R.measure, .int .i64 R.lines, .int .i64 R.lead, .int .i64 R.short, .int .i64 R.extra, .int .i64 R.ink] 34) := below_blk hb1 (by repeat' (first | (with_reducible assumption) | (with_reducible refine blk_set_ne ?_ ?_) | (with_reducible exact blk_new _ _) | (with_reducible refine blk_new' _ _ (by first | (with_reducible rfl) | (simp; done) | (simp <;> omega))) | (with_reducible refine blk_alloc ?_ _) | (with_reducible refine blk_drew ?_) | (with_reducible refine blk_drewN ?_ _) | (with_reducible refine Ext2.blk (by assumption) ?_) | omega | (simp <;> omega) | exact blk_set (by assumption) _ _)) (by simp)
  have HB1 := Lib.hid hB1
  clear hb1 hB1
  by_cases h0 : x = 0
  case neg =>
    rw [if_neg h0] at hv
    obtain ⟨rfl, rfl⟩ := hv
    have e2 : (x != 0) = true := by simp [h0]
    have H0 := Lib.hid h0
    clear h0
    go_wp2_with (fail)
    refine bodyPost_ret (v := .tuple #[.slice none 0 0, .int .i64 x]) ?_ rfl (breakPost_no HX.out.symm H0.out HB1.out)
    simp [results, Tryd.results34, go_sem]
  case pos =>
    rw [if_pos h0] at hv
    subst h0
    obtain ⟨hk, hr, htx⟩ := open_ok HX.out.symm
    obtain ⟨P, hP⟩ : ∃ P, P = partsS t := ⟨_, rfl⟩
    rw [← hP] at hv htx
    obtain ⟨⟨s1, rfl, hs1⟩, ⟨s2, rfl, hs2⟩⟩ := hv
    have HBR := Lib.hid (breaksR_any (s := s) hk hr htx hs1 hs2)
    have HP := Lib.hid hP
    clear hk hr htx hs1 hs2 hP
    have q4c := cell_blk x4
    have q4f := frz_blk x4
    have q5c := cell_blk x5
    have q5f := frz_blk x5
    go_wp2_with (fail)
    refine HBR.out.mono ?_
    rintro e w3 ⟨⟨s', rfl, hrow⟩, hb3⟩
    have hB3 := below_ext HB1.out hb3
    have HROW := Lib.hid hrow
    clear hb3 hrow q4c q4f q5c q5f x4 x5
    go_wp2_with (fail)
    refine bodyPost_ret (v := .tuple #[.slice s'.a (nLines F R P) s'.cap, .int .i64 0]) ?_ rfl ⟨⟨_, by rw [← HX.out], ?_⟩, hB3⟩
    · simp [results, Tryd.results34, go_sem]
    · rw [← HX.out, if_pos rfl, ← HP.out]
      refine ⟨s', by rw [breaks_len], ?_⟩
      rw [breaks_len]
      have hr2 := HROW.out
      exact ⟨hr2.le, hr2.max, fun i j hi hj => by
        obtain ⟨b1, o1, h1, h2⟩ := hr2.cell i j hi hj
        exact ⟨b1, o1, h1, by rw [h2, breaks_at _ _ _ hi]⟩⟩
/-- What Rest returns, but for its block's type. -/
def RestPostR (w : World) (F : Font) (R : Rul) (t : ByteArray) (e : Ending) (w' : World) : Prop :=
  (∃ v, e = .returned (.tuple #[v, .int .i64 (openE F R t)]) ∧ if openE F R t = 0 then (∃ sl : Sl, v = .slice sl.a (restL F R (partsS t)).length sl.cap ∧ IntsS w' sl (restL F R (partsS t))) else v = .slice none 0 0) ∧ Below w.heap.size w w'
set_option maxRecDepth 100000 in
set_option maxHeartbeats 2000000 in
theorem restR_any {F : Font} {s : FSl} {R : Rul} {t : ByteArray} {w : World} (hF : FontAt w F s) (ht : t.size ≤ maxLen) : Calls Tryd.prog 36 #[.agg #[.int .i64 F.high, .int .i64 F.space, .slice s.g.a F.glyphs.length s.g.cap, .slice s.k.a F.kerns.length s.k.cap], .agg #[.int .i64 R.measure, .int .i64 R.lines, .int .i64 R.lead, .int .i64 R.short, .int .i64 R.extra, .int .i64 R.ink], .string t] w (RestPostR w F R t) := by
  have HRD : Hid (∀ W, Below w.heap.size w W → Calls Tryd.prog 57 #[.agg #[.int .i64 F.high, .int .i64 F.space, .slice s.g.a F.glyphs.length s.g.cap, .slice s.k.a F.kerns.length s.k.cap], .agg #[.int .i64 R.measure, .int .i64 R.lines, .int .i64 R.lead, .int .i64 R.short, .int .i64 R.extra, .int .i64 R.ink], .string t] W (ReadPost W F R t)) := Lib.hid fun W hW => readR_any (hF.below hW) ht
  obtain ⟨x, hx⟩ : ∃ x, x = openE F R t := ⟨_, rfl⟩
  have HX := Lib.hid hx
  clear hx hF
  go_enter Tryd.func36, Tryd.ntmps36
  go_wp2_with (fail)
  (with_reducible refine (HRD.out _ ?_).mono ?_)
  · repeat' (first | exact Below.refl _ _ | assumption | refine below_drewN ?_ _ | refine Below.drew ?_ | refine Below.alloc ?_ (by first | assumption | omega | (simp <;> omega)) _ | refine Below.setCell ?_ (by first | assumption | omega | (simp <;> omega)) _ | refine Ext2.on (by assumption) ?_)
  rintro e w1 ⟨⟨v1, v2, rfl, hv⟩, hb1⟩
  rw [← HX.out] at hv ⊢
  have hB1 : Below w.heap.size w w1 := Below.trans (by repeat' (first | exact Below.refl _ _ | assumption | refine below_drewN ?_ _ | refine Below.drew ?_ | refine Below.alloc ?_ (by first | assumption | omega | (simp <;> omega)) _ | refine Below.setCell ?_ (by first | assumption | omega | (simp <;> omega)) _ | refine Ext2.on (by assumption) ?_)) (hb1.mono (by simp; omega))
  have x4 : w1.heap[w.heap.size]? = some (Obj.cells #[.int .i64 F.high, .int .i64 F.space, .slice s.g.a F.glyphs.length s.g.cap, .slice s.k.a F.kerns.length s.k.cap] 25) := below_blk hb1 (by repeat' (first | (with_reducible assumption) | (with_reducible refine blk_set_ne ?_ ?_) | (with_reducible exact blk_new _ _) | (with_reducible refine blk_new' _ _ (by first | (with_reducible rfl) | (simp; done) | (simp <;> omega))) | (with_reducible refine blk_alloc ?_ _) | (with_reducible refine blk_drew ?_) | (with_reducible refine blk_drewN ?_ _) | (with_reducible refine Ext2.blk (by assumption) ?_) | omega | (simp <;> omega) | exact blk_set (by assumption) _ _)) (by simp; omega)
  have x5 : w1.heap[w.heap.size + 1]? = some (Obj.cells #[.int .i64 R.measure, .int .i64 R.lines, .int .i64 R.lead, .int .i64 R.short, .int .i64 R.extra, .int .i64 R.ink] 34) := below_blk hb1 (by repeat' (first | (with_reducible assumption) | (with_reducible refine blk_set_ne ?_ ?_) | (with_reducible exact blk_new _ _) | (with_reducible refine blk_new' _ _ (by first | (with_reducible rfl) | (simp; done) | (simp <;> omega))) | (with_reducible refine blk_alloc ?_ _) | (with_reducible refine blk_drew ?_) | (with_reducible refine blk_drewN ?_ _) | (with_reducible refine Ext2.blk (by assumption) ?_) | omega | (simp <;> omega) | exact blk_set (by assumption) _ _)) (by simp)
  have HB1 := Lib.hid hB1
  clear hb1 hB1
  by_cases h0 : x = 0
  case neg =>
    rw [if_neg h0] at hv
    obtain ⟨rfl, rfl⟩ := hv
    have e2 : (x != 0) = true := by simp [h0]
    have H0 := Lib.hid h0
    clear h0
    go_wp2_with (fail)
    refine bodyPost_ret (v := .tuple #[.slice none 0 0, .int .i64 x]) ?_ rfl ⟨⟨.slice none 0 0, by rw [← HX.out], by rw [if_neg (by rw [← HX.out]; exact H0.out)]⟩, HB1.out⟩
    simp [results, Tryd.results36, go_sem]
  case pos =>
    rw [if_pos h0] at hv
    subst h0
    obtain ⟨hk, hr, htx⟩ := open_ok HX.out.symm
    obtain ⟨P, hP⟩ : ∃ P, P = partsS t := ⟨_, rfl⟩
    rw [← hP] at hv htx
    obtain ⟨⟨s1, rfl, hs1⟩, ⟨s2, rfl, hs2⟩⟩ := hv
    have HBR := Lib.hid (bestsR_any (s := s) hk hr htx hs1 hs2)
    have HP := Lib.hid hP
    have h40 := htx.n40
    clear hk hr htx hs1 hs2 hP
    have q4c := cell_blk x4
    have q4f := frz_blk x4
    have q5c := cell_blk x5
    have q5f := frz_blk x5
    go_wp2_with (fail)
    refine HBR.out.mono ?_
    rintro e w3 ⟨⟨ob, rfl, hrow⟩, hb3⟩
    have HB3 := Lib.hid (below_ext HB1.out hb3)
    have HROW := Lib.hid hrow
    clear hb3 hrow q4c q4f q5c q5f x4 x5
    go_wp2_with (fail)
    go_loopw [12, 13] (fun v i wr => ∃ k : Nat, i = .int .i64 (k : Int) ∧ k ≤ P.length + 1 ∧ OwnR wr w3.heap.size 3 1 v k (fun i _ => .int .i64 (restS F R P i).cost) ∧ Ext2 w3 wr) (fun _ i _ => P.length + 1 - (intOf i).toNat)
    case atStart => exact ⟨0, rfl, by omega, own_nil _ _ _ _ _, Below.refl _ _⟩
    case round =>
      obtain ⟨k, rfl, hk, hO, hEr⟩ := hrel
      have HO := Lib.hid hO; have HEr := Lib.hid hEr
      have hsz := hEr.size
      clear hO
      by_cases hlt : k < P.length + 1
      · go_light
        obtain ⟨c0, -, -⟩ := rst_cells (RowS.below HROW.out hEr) (i := k) hlt
        obtain ⟨C, hC⟩ : ∃ C, C = (restS F R P k).cost := ⟨_, rfl⟩
        rw [← hC] at c0
        have HC := Lib.hid hC
        have r0 : (0 : Int) ≤ (k : Int) := by omega
        have r1 : (k : Int) < (P.length : Int) + 1 := by omega
        have w3' : IntKind.i64.wrap ((k : Int) + 1) = (k : Int) + 1 := IntWalk.i64_in _ (by omega)
        clear hC hEr
        go_wp2_with (at_builtin; refine app_one [.int .i64 C] elInt rfl _ _ rfl w3.heap.size rfl ((HO.out.below (Below.refl _ _)).below (below_alloc' _ _)) wr.heap.size 1 rfl (blk_new _ _) (by simp [Value.oneCell']) (by omega) (by simp; omega) ?_; intro v' w7 hO7 hg7)
        have hE7 : Ext2 w3 w7 := app_below ((HEr.out).alloc (by omega) _) ((HO.out.below (Below.refl _ _)).below (below_alloc' _ _)) (Nat.le_refl _) (by simp; omega) hg7
        have hO7' : OwnR w7 w3.heap.size 3 1 v' (k + 1) (fun i _ => .int .i64 (restS F R P i).cost) := hO7.congr fun i j hi hj => by
          by_cases hik : i = k
          · subst hik
            obtain rfl : j = 0 := by have : j < 1 := hj; omega
            rw [upd_at, ← HC.out]; rfl
          · rw [upd_lt (by omega)]
        have HO7 := Lib.hid hO7'
        clear hO7 hg7 hO7'
        go_roundw
        case rel => exact ⟨k + 1, by go_num, by omega, HO7.out, hE7⟩
        case measure => simp [intOf]; omega
      · obtain rfl : k = P.length + 1 := by omega
        have hBr := below_ext HB3.out hEr
        have r1 : ¬ (P.length : Int) + 1 < (P.length : Int) + 1 := by omega
        obtain ⟨⟨a', cp⟩, rfl, hro⟩ := HO.out.sl
        have HR1 := Lib.hid hro
        clear hlt hro hEr
        go_wp2_with (fail)
        refine bodyPost_ret (v := .tuple #[.slice a' (P.length + 1) cp, .int .i64 0]) ?_ rfl ⟨⟨_, by rw [← HX.out], ?_⟩, hBr⟩
        · simp [results, Tryd.results36, go_sem]
        · rw [← HX.out, if_pos rfl, ← HP.out]
          refine ⟨⟨a', cp⟩, by rw [rest_len], ?_⟩
          have hr2 := HR1.out
          exact ⟨by rw [rest_len]; exact hr2.le, hr2.max, fun i j hi hj => by
            rw [rest_len] at hi
            obtain ⟨b1, o1, h1, h2⟩ := hr2.cell i j hi hj
            exact ⟨b1, o1, h1, by rw [h2]; unfold intC; rw [restL_at _ _ _ hi]⟩⟩
end Go.Proofs.YtahgbecfaihfpaaDoor
