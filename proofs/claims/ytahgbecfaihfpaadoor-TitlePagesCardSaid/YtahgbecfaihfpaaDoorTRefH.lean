/-
  ref.Pages.
-/
import Derived.Deep.Cut
import Derived.Deep.CutRange
import Derived.Deep.DeepCutAuto
import Derived.Test.YtahgbecfaihfpaaDoorTRefP
import Derived.Test.YtahgbecfaihfpaaDoorTRefV
import Derived.Test.YtahgbecfaihfpaaDoorTPages
import Derived.Test.YtahgbecfaihfpaaDoorDRegT
namespace Go.Proofs.YtahgbecfaihfpaaDoor
open Go.RowKit D
set_option linter.unusedVariables false
set_option linter.unusedSimpArgs false
attribute [local go_sem high] run_minI run_maxI
attribute [local go_sem] upon2 cls_cell cls_frozen forall_const exists_eq_left'
attribute [local go_sem] FirstUpon
/-- Pages that are being drawn; what lies behind w3 is theirs. -/
structure PgR (w3 W : World) (F : Font) (R : Rul) (m : Nat) (v : Value) (pb : Nat → Nat) (L : Nat → List Nat) : Prop where
  bel : Ext2 w3 W
  own : OwnR W w3.heap.size 59 3 v m (frC F R pb)
  pix : ∀ p, p < m → PixAt W (pb p) (pixN F R) R.ink (L p)
  lo : ∀ p, p < m → w3.heap.size ≤ pb p
  inj : ∀ p q, p < m → q < m → pb p = pb q → p = q
section
variable {w3 W W' : World} {F : Font} {R : Rul} {m : Nat} {v : Value} {pb : Nat → Nat} {L : Nat → List Nat}
theorem PgR.sd {ts : List TypeId} (h : PgR w3 W F R m v pb L) (hs : Sd w3.heap.size ts W W') (h1 : 59 ∉ ts) (h3 : 5 ∉ ts) : PgR w3 W' F R m v pb L :=
  ⟨Below.trans h.bel hs.bel, h.own.sd hs h1, fun p hp => by
    obtain ⟨c, hc, h5, h6⟩ := h.pix p hp
    exact ⟨c, hs.keep _ _ _ _ hc h3, h5, h6⟩, h.lo, h.inj⟩
theorem PgR.ext (h : PgR w3 W F R m v pb L) (hb : Ext2 W W') : PgR w3 W' F R m v pb L := h.sd (ts := []) (Sd.ext hb h.bel.size) (by simp) (by simp)
theorem PgR.congr {L' : Nat → List Nat} (h : PgR w3 W F R m v pb L) (hL : ∀ p, p < m → L p = L' p) : PgR w3 W F R m v pb L' := ⟨h.bel, h.own, fun p hp => by rw [← hL p hp]; exact h.pix p hp, h.lo, h.inj⟩
theorem PgR.paint (h : PgR w3 W F R m v pb L) {p i : Nat} (hp : p < m) (hi : i < pixN F R) : PgR w3 (W.setCell ⟨pb p, i, none⟩ (.int .u8 R.ink)) F R m v pb (fun q => if q = p then L p ++ [i] else L q) ∧ Sd w3.heap.size [5] W (W.setCell ⟨pb p, i, none⟩ (.int .u8 R.ink)) := by
  obtain ⟨c, hc, h5, h6⟩ := h.pix p hp
  have hl := h.lo p hp
  have hs : Sd w3.heap.size [5] W (W.setCell ⟨pb p, i, none⟩ (.int .u8 R.ink)) := Sd.set hc (by decide) hl _
  refine ⟨⟨Below.trans h.bel hs.bel, h.own.sd hs (by decide), fun q hq => ?_, h.lo, h.inj⟩, hs⟩
  by_cases hqp : q = p
  · subst hqp; rw [if_pos rfl]; exact (h.pix q hq).paint hi
  · rw [if_neg hqp]
    exact (h.pix q hq).same (set_oth _ _ fun he => hqp (h.inj q p hq hp he))
theorem PgR.cell (h : PgR w3 W F R m v pb L) {p i : Nat} (hp : p < m) (hi : i < pixN F R) : (∃ x, W.cell? ⟨pb p, i, none⟩ = some x) ∧ W.frozen? ⟨pb p, i, none⟩ = false := by
  obtain ⟨c, hc, h5, h6⟩ := h.pix p hp
  exact ⟨⟨_, (cell_blk hc i).trans (h6 i hi)⟩, frz_blk hc i⟩
/-- A further page. -/
theorem PgR.more {N : Nat} {Rw : Int} {w5 w6 w7 : World} {qb : Nat} {v' : Value} (h : PgR w3 W F R m v pb L) (hN : N = pixN F R) (hR : Rw = rowsV F R) (h0 : L m = []) (hqb : W.heap.size ≤ qb) (h5 : Ext2 W w5) (nqb : w5.heap[qb]? = some (.cells (madeCells #[.int .u8 0] (N * 1)) 5 (0, 0))) (h6 : Ext2 w5 w6)
    (hO7 : OwnR w7 w3.heap.size 59 3 v' (m + 1) (upd (frC F R pb) m [.int .i64 R.measure, .int .i64 Rw, .slice (some ⟨qb, 0, none⟩) N N])) (hO6 : OwnR w6 w3.heap.size 59 3 v m (frC F R pb)) (hg7 : w6.grownBy w7 v.ownBlock) : PgR w3 w7 F R (m + 1) v' (fun q => if q = m then qb else pb q) L := by
  have hz3 := h.bel.size
  have hz5 := h5.size
  have hz6 := h6.size
  have hsP : Sd w3.heap.size [59] w6 w7 := (Bd.grown hg7 (by omega) fun g hgk => by
    obtain ⟨cur, hc⟩ := ownR_cells hO6 hgk
    exact ⟨own_block hO6 g hgk, cur, _, _, hc, by simp⟩).sd
  have hS6 := (h.ext h5).ext h6
  refine ⟨Below.trans hS6.bel hsP.bel, ?_, fun q hq => ?_, fun q hq => ?_, fun q r hq hr' he => ?_⟩
  · refine OwnR.congr hO7 fun i j hi hj => ?_
    by_cases hip : i = m
    · subst hip
      have hj3 : j < 3 := hj
      rw [upd_at]
      rcases (by omega : j = 0 ∨ j = 1 ∨ j = 2) with rfl | rfl | rfl
      · rfl
      · show Value.int .i64 Rw = Value.int .i64 (rowsV F R)
        rw [hR]
      · show Value.slice (some ⟨qb, 0, none⟩) N N = Value.slice (some ⟨if i = i then qb else pb i, 0, none⟩) (pixN F R) (pixN F R)
        rw [if_pos rfl, hN]
    · rw [upd_lt (by omega)]
      simp only [frC, hip, if_false]
  · by_cases hqp : q = m
    · rw [if_pos hqp, hqp, h0]
      rw [Nat.mul_one] at nqb
      rw [← hN]
      exact PixAt.new (hsP.keep _ _ _ _ (Ext2.blk h6 nqb) (by decide))
    · rw [if_neg hqp]
      obtain ⟨c, hc, e5, e6⟩ := hS6.pix q (by omega)
      exact ⟨c, hsP.keep _ _ _ _ hc (by decide), e5, e6⟩
  · by_cases hqp : q = m
    · rw [if_pos hqp]; omega
    · rw [if_neg hqp]; exact h.lo q (by omega)
  · have old : ∀ z, z < m → pb z < qb := fun z hz => by
      obtain ⟨c, hc, -⟩ := h.pix z hz
      have := blk_lt hc; omega
    by_cases hqp : q = m
    · by_cases hrp : r = m
      · omega
      · rw [if_pos hqp, if_neg hrp] at he
        have := old r (by omega); omega
    · by_cases hrp : r = m
      · rw [if_neg hqp, if_pos hrp] at he
        have := old q (by omega); omega
      · rw [if_neg hqp, if_neg hrp] at he
        exact h.inj q r (by omega) (by omega) he
end
theorem gL_posR {F : Font} {R : Rul} {P : List ByteArray} (h : TextOk F R P) {k : Nat} (hk : k < P.length) : 0 < (gL F (strD P k)).length := by
  have h1 := h.odd k hk
  have h2 := h.set k hk
  unfold oddS at h1
  rw [Bool.or_eq_false_iff] at h1
  have h3 := of_decide_eq_false h1.2
  have h4 : (strD P k).data.toList.length = (strD P k).size := Array.length_toList
  unfold gL
  cases hs : setS F (strD P k).data.toList with
  | none => rw [hs] at h2; cases h2
  | some l => exact List.length_pos_iff.2 (setS_ne (fun h5 => by rw [h5] at h4; simp at h4; omega) hs)
theorem plS_lineR {F : Font} {R : Rul} {P : List ByteArray} (hr : RulOk F R) (i : Nat) : 0 ≤ (plS F R P i).line ∧ (plS F R P i).line < R.lines := by
  have h1 := (plS_page (P := P) hr i).2
  have h2 := hr.lines
  have h3 : lineOf F R P i % R.lines.toNat < R.lines.toNat := Nat.mod_lt _ (by omega)
  omega
attribute [local go_sem] at2_cell at2_cell'
set_option maxRecDepth 100000 in
set_option maxHeartbeats 8000000 in
theorem pagesR_any {F : Font} {s : FSl} {R : Rul} {t : ByteArray} {w : World} (hF : FontAt w F s) (ht : t.size ≤ maxLen) : Calls Tryd.prog 38 #[.agg #[.int .i64 F.high, .int .i64 F.space, .slice s.g.a F.glyphs.length s.g.cap, .slice s.k.a F.kerns.length s.k.cap], .agg #[.int .i64 R.measure, .int .i64 R.lines, .int .i64 R.lead, .int .i64 R.short, .int .i64 R.extra, .int .i64 R.ink], .string t] w (PagesPost w F R t) := by
  have HRD : Hid (∀ W, Below w.heap.size w W → Calls Tryd.prog 57 #[.agg #[.int .i64 F.high, .int .i64 F.space, .slice s.g.a F.glyphs.length s.g.cap, .slice s.k.a F.kerns.length s.k.cap], .agg #[.int .i64 R.measure, .int .i64 R.lines, .int .i64 R.lead, .int .i64 R.short, .int .i64 R.extra, .int .i64 R.ink], .string t] W (ReadPost W F R t)) := Lib.hid fun W hW => readR_any (hF.below hW) ht
  obtain ⟨x, hx⟩ : ∃ x, x = openE F R t := ⟨_, rfl⟩
  have HX := Lib.hid hx; have HF := Lib.hid hF
  have hgc := hF.gls.gl.le; have hgm := hF.gls.gl.max
  clear hx hF
  go_enter Tryd.func38, Tryd.ntmps38
  go_wp2_with (fail)
  (with_reducible refine (HRD.out _ ?_).mono ?_)
  · repeat' (first | exact Below.refl _ _ | assumption | refine below_drewN ?_ _ | refine Below.drew ?_ | refine Below.alloc ?_ (by first | assumption | omega | (simp <;> omega)) _ | refine Below.setCell ?_ (by first | assumption | omega | (simp <;> omega)) _ | refine Ext2.on (by assumption) ?_)
  rintro e w1 ⟨⟨v1, v2, rfl, hv⟩, hb1⟩
  rw [← HX.out] at hv ⊢
  have hB1 : Below w.heap.size w w1 := Below.trans (by repeat' (first | exact Below.refl _ _ | assumption | refine below_drewN ?_ _ | refine Below.drew ?_ | refine Below.alloc ?_ (by first | assumption | omega | (simp <;> omega)) _ | refine Below.setCell ?_ (by first | assumption | omega | (simp <;> omega)) _ | refine Ext2.on (by assumption) ?_)) (hb1.mono (by simp; omega))
  have x4 : w1.heap[w.heap.size]? = some (Obj.cells #[.int .i64 F.high, .int .i64 F.space, .slice s.g.a F.glyphs.length s.g.cap, .slice s.k.a F.kerns.length s.k.cap] 25) := below_blk hb1 (by repeat' (first | (with_reducible assumption) | (with_reducible refine blk_set_ne ?_ ?_) | (with_reducible exact blk_new _ _) | (with_reducible refine blk_new' _ _ (by first | (with_reducible rfl) | (simp; done) | (simp <;> omega))) | (with_reducible refine blk_alloc ?_ _) | (with_reducible refine blk_drew ?_) | (with_reducible refine blk_drewN ?_ _) | (with_reducible refine Ext2.blk (by assumption) ?_) | omega | (simp <;> omega) | exact blk_set (by assumption) _ _)) (by simp; omega)
  have x5 : w1.heap[w.heap.size + 1]? = some (Obj.cells #[.int .i64 R.measure, .int .i64 R.lines, .int .i64 R.lead, .int .i64 R.short, .int .i64 R.extra, .int .i64 R.ink] 34) := below_blk hb1 (by repeat' (first | (with_reducible assumption) | (with_reducible refine blk_set_ne ?_ ?_) | (with_reducible exact blk_new _ _) | (with_reducible refine blk_new' _ _ (by first | (with_reducible rfl) | (simp; done) | (simp <;> omega))) | (with_reducible refine blk_alloc ?_ _) | (with_reducible refine blk_drew ?_) | (with_reducible refine blk_drewN ?_ _) | (with_reducible refine Ext2.blk (by assumption) ?_) | omega | (simp <;> omega) | exact blk_set (by assumption) _ _)) (by simp)
  have HB1 := Lib.hid hB1
  clear hb1 hB1
  by_cases h0 : x = 0
  case neg =>
    rw [if_neg h0] at hv
    obtain ⟨rfl, rfl⟩ := hv
    have e2 : (x != 0) = true := by simp [h0]
    have H0 := Lib.hid h0
    clear h0
    go_wp2_with (fail)
    refine bodyPost_ret (v := .tuple #[.slice none 0 0, .int .i64 x]) ?_ rfl (pagesPost_no HX.out.symm H0.out HB1.out)
    simp [results, Tryd.results38, go_sem]
  case pos =>
    rw [if_pos h0] at hv
    subst h0
    obtain ⟨hk, hr, htx⟩ := open_ok HX.out.symm
    obtain ⟨P, hP⟩ : ∃ P, P = partsS t := ⟨_, rfl⟩
    rw [← hP] at hv htx
    obtain ⟨⟨s1, rfl, hs1⟩, ⟨s2, rfl, hs2⟩⟩ := hv
    have HPD := Lib.hid (placedR_any (s := s) hk hr htx hs1 hs2)
    have h1c := hs1.le; have h1m := hs1.max; have h2c := hs2.le; have h2m := hs2.max
    rw [widL_len] at h2c
    have hn40 := htx.n40; have hn1 := htx.n1
    obtain ⟨tb, toff, hta, -⟩ := str_cell hs1 (i := 0) (by omega)
    obtain ⟨ta, tc⟩ := s1
    dsimp only at hta h1c h1m HPD
    subst hta
    have HK := Lib.hid hk; have HR := Lib.hid hr; have HTX := Lib.hid htx; have HS1 := Lib.hid hs1; have HP := Lib.hid hP
    clear hk hr htx hs1 hs2 hP
    have q4c := cell_blk x4
    have q4f := frz_blk x4
    have q5c := cell_blk x5
    have q5f := frz_blk x5
    go_wp2_with (fail)
    refine HPD.out.mono ?_
    rintro e w3 ⟨⟨sp, rfl, hrow⟩, hb3⟩
    have hpc := hrow.le; have hpm := hrow.max
    obtain ⟨pb0, poff, hpa, -⟩ := hrow.row (by omega) (by omega)
    obtain ⟨pa, pc⟩ := sp
    dsimp only at hpa hpc hpm
    subst hpa
    have HB3 := Lib.hid (below_ext HB1.out hb3)
    have HX4 := Lib.hid (Ext2.blk hb3 x4); have HX5 := Lib.hid (Ext2.blk hb3 x5)
    have HROW := Lib.hid hrow
    have HS3 := Lib.hid (RowS.below HS1.out hb3)
    clear hrow hb3 q4c q4f q5c q5f x4 x5
    go_wp2_with (fail)
    go_loopw [11, 13] (fun v i wr => ∃ k : Nat, i = .int .i64 (k : Int) ∧ k ≤ P.length ∧ ∃ pb, PgR w3 wr F R (npg F R P k) v pb (fun p => ptsK F R P p k)) (fun _ i _ => P.length - (intOf i).toNat)
    case atStart => exact ⟨0, rfl, Nat.zero_le _, fun _ => 0, Below.refl _ _, own_nil _ _ _ _ _, fun p hp => absurd hp (Nat.not_lt_zero p), fun p hp => absurd hp (Nat.not_lt_zero p), fun p q hp => absurd hp (Nat.not_lt_zero p)⟩
    case round =>
      obtain ⟨k, rfl, hk, pb, hS⟩ := hrel
      by_cases hlt : k < P.length
      · have hpp := plS_page (F := F) (P := P) HR.out k
        have hnx := page_next HR.out HTX.out hlt
        have hns := npg_succ HR.out HTX.out hlt
        have hpk := fun (h : npg F R P k ≤ pageN F R P k) => ptsK_none HR.out HTX.out k (by omega) h
        obtain ⟨pg, hpg⟩ : ∃ x, x = pageN F R P k := ⟨_, rfl⟩
        obtain ⟨m, hm⟩ : ∃ x, x = npg F R P k := ⟨_, rfl⟩
        have hm40 : m ≤ 40 := by rw [hm]; exact npg_le HTX.out k (by omega)
        rw [← hpg] at hpp hnx hns hpk
        rw [← hm] at hnx hns hpk hS
        obtain ⟨⟨a', cp⟩, hsl, -⟩ := hS.own.sl
        subst hsl
        dsimp only
        obtain ⟨_, _, e3, hrc⟩ := (RowS.below HROW.out hS.bel).row (by omega) (by omega)
        obtain ⟨rfl, rfl⟩ : pb0 = _ ∧ poff = _ := by simpa using e3
        obtain ⟨c0, c1, c2⟩ := hrc.three hlt
        simp only [plC] at c0 c1 c2
        rw [hpp.1] at c0
        have HS := Lib.hid hS; have HPK := Lib.hid hpk; have HPP := Lib.hid hpp; have HPG := Lib.hid hpg; have HM := Lib.hid hm; have HNS := Lib.hid hns
        have r0 : (0 : Int) ≤ (k : Int) := by omega
        have r1 : (k : Int) < (P.length : Int) := by omega
        have w3' : IntKind.i64.wrap ((k : Int) + 1) = (k : Int) + 1 := IntWalk.i64_in _ (by omega)
        have hwW := hS.bel.size
        clear hpk hpp hpg hm hns e3 hrc hS c1 c2
        have hpm2 : pg ≤ m := by omega
        obtain ⟨m2, hm2⟩ : ∃ m2, m2 = npg F R P (k + 1) := ⟨_, rfl⟩
        have HM2 := Lib.hid hm2
        have hlt2 : pg < m2 := by rw [hm2, HNS.out]; split <;> omega
        have hm240 : m2 ≤ 41 := by rw [hm2, HNS.out]; split <;> omega
        clear hm2
        go_upto_if 50 with fail
        go_cut [11] (fun v wx => ∃ fb fc pb2, v = .slice (some ⟨fb, 0, none⟩) m2 fc ∧ PgR w3 wx F R m2 v pb2 (fun p => ptsK F R P p k))
        case first =>
          rcases Nat.lt_or_ge pg m with hlp | hge
          case inr =>
            obtain rfl : pg = m := by omega
            have hbe : ((pg : Int) == (pg : Int)) = true := by simp
            have hrw := rows_pos HK.out HR.out
            have hpx := pix_ok HK.out HR.out
            have hms := HR.out.measure
            obtain ⟨Rw, hRw⟩ : ∃ x, x = rowsV F R := ⟨_, rfl⟩
            obtain ⟨N, hN⟩ : ∃ x, x = pixN F R := ⟨_, rfl⟩
            have HRW : Hid (∀ W1, Calls Tryd.prog 67 #[.agg #[.int .i64 F.high, .int .i64 F.space, .slice s.g.a F.glyphs.length s.g.cap, .slice s.k.a F.kerns.length s.k.cap], .agg #[.int .i64 R.measure, .int .i64 R.lines, .int .i64 R.lead, .int .i64 R.short, .int .i64 R.extra, .int .i64 R.ink]] W1 fun e w' => e = .returned (.int .i64 Rw) ∧ Below W1.heap.size W1 w') := Lib.hid fun W1 => by rw [hRw]; exact rowsR_any HK.out.high HR.out.lines HR.out.lead
            rw [← hRw, ← hN] at hpx
            have s1x : IntKind.i64.wrap (R.measure * Rw) = (N : Int) := by rw [← hpx.1]; exact IntWalk.i64_in _ (by omega)
            have HRWE := Lib.hid hRw; have HNE := Lib.hid hN
            have hN23 := hpx.2.1
            clear hRw hN hrw hpx
            have x4 := Ext2.blk HS.out.bel HX4.out
            have x5 := Ext2.blk HS.out.bel HX5.out
            go_wp2_with (fail)
            haveI hcls : Nonempty (Cls (At2 w.heap.size #[.int .i64 F.high, .int .i64 F.space, .slice s.g.a F.glyphs.length s.g.cap, .slice s.k.a F.kerns.length s.k.cap] 25 (w.heap.size + 1) #[.int .i64 R.measure, .int .i64 R.lines, .int .i64 R.lead, .int .i64 R.short, .int .i64 R.extra, .int .i64 R.ink] 34)) := ⟨⟨wr, x4, x5⟩⟩
            refine region_tree (At2 w.heap.size #[.int .i64 F.high, .int .i64 F.space, .slice s.g.a F.glyphs.length s.g.cap, .slice s.k.a F.kerns.length s.k.cap] 25 (w.heap.size + 1) #[.int .i64 R.measure, .int .i64 R.lines, .int .i64 R.lead, .int .i64 R.short, .int .i64 R.extra, .int .i64 R.ink] 34) [0, 1, 2, 3, 4, 6, 7, 8, 9] (.one 5 (.one 10 (.one 11 (.one 12 (.one 13 (.one 14 (.one 15 (.one 16 .leaf)))))))) (At2.ext x4 x5) (by kernel_rfl) (by kernel_rfl) (by intro c a d v w h; cases d <;> exact h) ?_
            simp only [picks, List.drop_succ_cons, List.drop_zero]
            repeat ((with_reducible refine wpQS_step (fun K hK => ?_)); go_simp; ((with_reducible refine hK _ ?_); clear hK K))
            (with_reducible refine wpQS_nil ?_)
            intro W hW
            have y4 := Ext2.blk hW x4
            have y5 := Ext2.blk hW x5
            have HS0 := Lib.hid (HS.out.ext hW)
            have HW0 := Lib.hid hW
            clear hcls x4 x5 hW
            refine wpT_one ?_
            simp only [picks, List.drop_succ_cons, List.drop_zero]
            go_wp2_with (fail)
            refine (HRW.out _).mono ?_
            rintro e wa ⟨rfl, hba⟩
            go_wp2_with (fail)
            have ya4 := Ext2.blk hba y4; have ya5 := Ext2.blk hba y5
            refine ⟨⟨ya4, ya5⟩, wpT_one ?_⟩
            simp only [picks, List.drop_succ_cons, List.drop_zero]
            go_wp2_with (fail)
            refine (HRW.out _).mono ?_
            rintro e wb ⟨rfl, hbb⟩
            go_wp2_with (fail)
            have yb4 := Ext2.blk hbb ya4; have yb5 := Ext2.blk hbb ya5
            have HSb := Lib.hid ((HS0.out.ext hba).ext hbb)
            have HWb := Lib.hid (ext_trans HW0.out (ext_trans hba hbb))
            clear y4 y5 ya4 ya5 hba hbb HS0 HW0
            refine ⟨⟨yb4, yb5⟩, wpT_one ?_⟩
            simp only [picks, List.drop_succ_cons, List.drop_zero]
            go_wp2_with (fail)
            refine ⟨⟨yb4, yb5⟩, wpT_one ?_⟩
            simp only [picks, List.drop_succ_cons, List.drop_zero]
            go_wp2_with (at_make; refine wpList_mk elByte rfl _ rfl N rfl (by omega) ?_)
            refine and_name (fun wc hwc => ?_)
            obtain ⟨qb, hqb⟩ : ∃ b, b = wb.heap.size := ⟨_, rfl⟩
            have hEc : Ext2 wb wc := by rw [hwc]; exact below_alloc' _ _
            have nqb : wc.heap[qb]? = some (.cells (madeCells #[.int .u8 0] (N * 1)) 5 (0, 0)) := by rw [hwc, hqb]; exact blk_new _ _
            have yc4 := Ext2.blk hEc yb4; have yc5 := Ext2.blk hEc yb5
            have hqs : wr.heap.size ≤ qb := by rw [hqb]; exact HWb.out.size
            have HEc := Lib.hid (ext_trans HWb.out hEc)
            rw [← hqb]
            clear hwc hqb hEc yb4 yb5
            refine ⟨⟨yc4, yc5⟩, wpT_one ?_⟩
            simp only [picks, List.drop_succ_cons, List.drop_zero]
            go_wp2_with (fail)
            refine ⟨⟨yc4, yc5⟩, wpT_one ?_⟩
            simp only [picks, List.drop_succ_cons, List.drop_zero]
            go_wp2_with (fail)
            refine and_name (fun wd hwd => ?_)
            obtain ⟨fk, hfk⟩ : ∃ b, b = wc.heap.size := ⟨_, rfl⟩
            have hEd : Ext2 wc wd := by rw [hwd]; exact below_alloc' _ _
            have nfk : wd.heap[fk]? = some (.cells #[.int .i64 R.measure, .int .i64 Rw, .slice (some ⟨qb, 0, none⟩) N N] 59 (0, 0)) := by rw [hwd, hfk]; exact blk_new _ _
            have yd4 := Ext2.blk hEd yc4; have yd5 := Ext2.blk hEd yc5
            have HOd := Lib.hid ((HS.out.own.below HEc.out).below hEd)
            have hszd : w3.heap.size ≤ wd.heap.size := Nat.le_trans hwW (Nat.le_trans HEc.out.size hEd.size)
            have HEd := Lib.hid hEd
            rw [← hfk]
            clear hwd hfk hEd yc4 yc5
            refine ⟨⟨yd4, yd5⟩, wpT_one ?_⟩
            simp only [picks, List.drop_succ_cons, List.drop_zero]
            go_wp2_with (at_builtin; go_loud (refine app_one [.int .i64 R.measure, .int .i64 Rw, .slice (some ⟨qb, 0, none⟩) N N] elFr rfl _ _ rfl w3.heap.size rfl HOd.out fk 1 rfl nfk (by simp [Value.oneCell']) (by omega) (by omega) ?_); intro v' w7 hO7 hg7)
            have l4 := blk_lt HX4.out
            have l5 := blk_lt HX5.out
            have y4 := app_keeps HOd.out hg7 yd4 (by omega)
            have y5 := app_keeps HOd.out hg7 yd5 (by omega)
            have hmore := HS.out.more HNE.out HRWE.out (HPK.out (Nat.le_refl _)) hqs HEc.out nqb HEd.out hO7 HOd.out hg7
            clear yd4 yd5 nqb nfk
            refine ⟨⟨y4, y5⟩, wpT_one ?_⟩
            simp only [picks, List.drop_succ_cons, List.drop_zero]
            go_wp2_with (fail)
            refine ⟨⟨y4, y5⟩, wpT_leaf ?_⟩
            refine then_name ?_
            intro Wp hWp
            rw [← hWp] at hmore
            obtain ⟨fb, fc, hv', -⟩ := own_some hmore.own (by omega)
            subst hv'
            have hme : pg + 1 = m2 := by rw [HM2.out, HNS.out]; simp
            obtain ⟨pb2, hpb2⟩ : ∃ q, q = (fun q => if q = pg then qb else pb q) := ⟨_, rfl⟩
            rw [← hpb2, hme] at hmore
            rw [hme]
            have HS2 : Hid (PgR w3 Wp F R m2 (.slice (some ⟨fb, 0, none⟩) m2 fc) pb2 (fun p => ptsK F R P p k)) := Lib.hid hmore
            clear hme hpb2 hmore y4 y5 hWp hO7 hg7 HOd HEd HEc HSb HWb HNE HRWE HS HPK hbe hge hm40 hszd hqs l4 l5 hpm2 hnx
            go_wp2_with (fail)
            go_meet
            exact ⟨fb, fc, pb2, rfl, HS2.out⟩
          case inl =>
            have hbe : ((pg : Int) == (m : Int)) = false := beq_eq_false_iff_ne.2 (by omega)
            obtain ⟨fb, fc, hv', -⟩ := own_some HS.out.own (by omega)
            obtain ⟨rfl, hcp⟩ : a' = some ⟨fb, 0, none⟩ ∧ cp = fc := by simpa using hv'
            obtain rfl : fc = cp := hcp.symm
            have hme : m = m2 := by rw [HM2.out, HNS.out, if_neg (by omega)]
            subst hme
            clear hv' HPK hm40 hpm2 hnx
            go_wp2_with (fail)
            go_meet
            exact ⟨fb, fc, pb, rfl, HS.out⟩
        case rest =>
          obtain ⟨fb, fc, pb2, rfl, hS2⟩ := hcut
          have HS2 := Lib.hid hS2
          clear hS2 HS HPK hm40 hpm2 hnx hwW c0
          go_wp2_with (fail)
          have hbelp := HS2.out.bel
          have x4 := Ext2.blk hbelp HX4.out
          obtain ⟨_, _, e5, c5⟩ := str_cell (RowS.below HS3.out hbelp) hlt
          obtain ⟨rfl, rfl⟩ : tb = _ ∧ toff = _ := by simpa using e5
          have hz24 := HTX.out.size k hlt
          have hlp := gL_posR HTX.out hlt
          have hl24 := gL_len (F := F) hz24
          have hmem := gL_mem (F := F) (p := strD P k)
          have hgi := fun n hn => glyph_in HK.out HR.out HTX.out hlt (n := n) hn
          obtain ⟨pk, hpk⟩ : ∃ q, q = strD P k := ⟨_, rfl⟩
          rw [← hpk] at c5 hlp hl24 hmem hz24 hgi
          have HSET : Hid (∀ W, Ext2 wc W → Calls Tryd.prog 51 #[.agg #[.int .i64 F.high, .int .i64 F.space, .slice s.g.a F.glyphs.length s.g.cap, .slice s.k.a F.kerns.length s.k.cap], .string pk] W fun e w' => (∃ v, e = .returned (.tuple #[v, .bool (setS F pk.data.toList).isSome]) ∧ RV w' (setS F pk.data.toList) v) ∧ Below W.heap.size W w') := Lib.hid fun W hW => setR_any (HF.out.below (below_ext (below_ext HB3.out hbelp) hW)) HK.out hz24
          obtain ⟨lG, hlG⟩ : ∃ l, l = gL F pk := ⟨_, rfl⟩
          rw [← hlG] at hlp hl24 hmem hgi
          have HLG : Hid (lG = gL F (strD P k)) := Lib.hid (by rw [hlG, hpk])
          have HLG2 := Lib.hid hlG; have HMEM := Lib.hid hmem; have HGI := Lib.hid hgi
          clear e5 hpk hlG hmem hgi hz24
          have q4c := cell_blk x4
          have q4f := frz_blk x4
          refine region_st [⟨[], [0, 1, 2, 3, 4], [5]⟩, ⟨[], [6, 7, 8, 9, 10], []⟩] (by kernel_rfl) (by kernel_rfl) (by intro c a d v w h; cases d <;> exact h) ?_
          refine wpSt_cons ?_
          simp only [picks, List.drop_succ_cons, List.drop_zero]
          repeat ((with_reducible refine wpQ0_step (fun K hK => ?_)); go_simp; ((with_reducible refine hK _ ?_); clear hK K))
          refine wpQ0_nil ?_
          repeat ((with_reducible refine wpQ2_step (fun K hK => ?_)); go_simp; first | ((with_reducible refine hK _ ?_); clear hK K) | (apply Exists.intro; refine ⟨fun x => ?_, hK _ ?_⟩; (fail); clear hK K))
          refine wpQ2_nil ?_
          intro w5 hw5
          refine wpTl_cons ?_
          go_wp2_with (fail)
          refine (HSET.out _ hw5).mono ?_
          rintro e w6 ⟨⟨gv, rfl, hrv⟩, hb6⟩
          have hrv2 : ∃ b off cap, gv = .slice (some ⟨b, off, none⟩) lG.length cap ∧ IntsT w6 ⟨some ⟨b, off, none⟩, cap⟩ (lG.map Int.ofNat) := by
            rcases hrv with ⟨-, h1⟩ | ⟨b, off, cap, h1, h2⟩
            · have h3 : gL F pk = [] := h1
              rw [HLG2.out, h3] at hlp; simp at hlp
            · have h3 : (setS F pk.data.toList).getD [] = lG := HLG2.out.symm
              rw [h3] at h1 h2
              exact ⟨b, off, cap, h1, h2⟩
          obtain ⟨gb6, goff6, gcap6, rfl, hgt6⟩ := hrv2
          have HG6 := Lib.hid hgt6
          have g6c := hgt6.1.le; have g6m := hgt6.1.max
          rw [ints_len] at g6c
          dsimp only at g6c g6m
          have HE6 := Lib.hid (ext_trans hw5 hb6)
          clear hrv hb6 hw5 hgt6
          go_wp2_with (fail)
          refine wpTl_nil ?_
          refine wpSt_name ?_
          intro w7 hw7
          refine wpSt_cons ?_
          simp only [picks, List.drop_succ_cons, List.drop_zero]
          repeat ((with_reducible refine wpQ0_step (fun K hK => ?_)); go_simp; ((with_reducible refine hK _ ?_); clear hK K))
          refine wpQ0_nil ?_
          repeat ((with_reducible refine wpQ2_step (fun K hK => ?_)); go_simp; first | ((with_reducible refine hK _ ?_); clear hK K) | (apply Exists.intro; refine ⟨fun x => ?_, hK _ ?_⟩; (fail); clear hK K))
          refine wpQ2_nil ?_
          intro w8 hw8
          refine wpTl_nil ?_
          refine wpSt_nil ?_
          subst hw7
          have HE8 := Lib.hid (ext_trans HE6.out hw8)
          have HG8 := Lib.hid (HG6.out.below hw8)
          have x4 := Ext2.blk HE8.out x4
          clear q4c q4f hw8 c5
          have HPLC : Hid (Calls Tryd.prog 72 #[.agg #[.int .i64 F.high, .int .i64 F.space, .slice s.g.a F.glyphs.length s.g.cap, .slice s.k.a F.kerns.length s.k.cap], .slice (some ⟨gb6, goff6, none⟩) lG.length gcap6] w8 fun e w' => (∃ s' : Sl, e = .returned (.slice s'.a lG.length s'.cap) ∧ IntsT w' s' (placesS F lG)) ∧ Below w8.heap.size w8 w') := Lib.hid (by
            have h := placesT_any (s := s) (sl := ⟨some ⟨gb6, goff6, none⟩, gcap6⟩) (HF.out.below (below_ext (below_ext HB3.out hbelp) HE8.out)) HK.out HG8.out.1 HMEM.out hl24 hlp
            exact h)
          have q4c := cell_blk x4
          have q4f := frz_blk x4
          go_wp2_with (fail)
          refine HPLC.out.mono ?_
          rintro e w9 ⟨⟨sx, rfl, hx9⟩, hb9⟩
          obtain ⟨xb, xoff, hxa, -⟩ := int_cell hx9.1 (i := 0) (by rw [places_len]; exact hlp)
          have hxc := hx9.1.le; have hxm := hx9.1.max
          rw [places_len] at hxc
          obtain ⟨xa, xc⟩ := sx
          dsimp only at hxa hxc hxm
          subst hxa
          have HX9 := Lib.hid hx9
          have HG9 := Lib.hid (HG8.out.below hb9)
          have HS9 := Lib.hid ((HS2.out.ext HE8.out).ext hb9)
          have HPL : Hid (plS F R P k = ⟨(pg : Int), (plS F R P k).line, (plS F R P k).left⟩) := Lib.hid ((show ∀ p : Pl, p = ⟨p.page, p.line, p.left⟩ from fun p => rfl) (plS F R P k) |>.trans (by rw [HPP.out.1]))
          have hplr := plS_lineR (P := P) HR.out k
          obtain ⟨ln, hln⟩ : ∃ x, x = (plS F R P k).line := ⟨_, rfl⟩
          obtain ⟨lf, hlf⟩ : ∃ x, x = (plS F R P k).left := ⟨_, rfl⟩
          rw [← hln, ← hlf] at HPL
          rw [← hln] at hplr
          clear q4c q4f x4 hx9 hb9 hbelp hln hlf
          go_wp2_with (fail)
          go_loopw [17] (fun nv wy => ∃ n : Nat, nv = .int .i64 (n : Int) ∧ n ≤ lG.length ∧ PgR w3 wy F R m2 (.slice (some ⟨fb, 0, none⟩) m2 fc) pb2 (fun z => if z = pg then ptsK F R P pg k ++ ptsW F R lG ⟨(pg : Int), ln, lf⟩ n else ptsK F R P z k) ∧ Sd w3.heap.size [5] w9 wy) (fun nv _ => lG.length - (intOf nv).toNat)
          case atStart =>
            refine ⟨0, rfl, Nat.zero_le _, HS9.out.congr fun z hz => ?_, Sd.refl _ _ _⟩
            by_cases hzp : z = pg
            · rw [if_pos hzp, hzp]; simp [ptsW]
            · rw [if_neg hzp]
          case round =>
            obtain ⟨n, rfl, hn, hSr, hBr⟩ := hrel
            have HSr := Lib.hid hSr; have HBr := Lib.hid hBr
            by_cases hltn : n < lG.length
            · go_light
              have hgr := HG9.out.sd HBr.out (by decide)
              obtain ⟨_, _, e6, cg⟩ := int_cell hgr.1 (i := n) (by rw [ints_len]; exact hltn)
              obtain ⟨rfl, rfl⟩ : gb6 = _ ∧ goff6 = _ := by simpa using e6
              obtain ⟨g, hg⟩ : ∃ g, g = lG.getD n 0 := ⟨_, rfl⟩
              have hgv : intD (lG.map Int.ofNat) n = (g : Int) := by rw [hg]; simp [intD, List.getD_eq_getElem?_getD, hltn]
              rw [hgv] at cg
              have hgF : g < F.glyphs.length := by rw [hg]; exact getD_mem HMEM.out hltn
              have hFr := HF.out.below (below_ext HB3.out hSr.bel)
              obtain ⟨fgb, fgoff, hfg, d0, d1, d2⟩ := gl_cells hFr.gls.gl hgF
              have hgw := glE_wide (HK.out.gl g hgF)
              have hgin := HGI.out n hltn
              obtain ⟨G, hG⟩ : ∃ G, G = glD F.glyphs g := ⟨_, rfl⟩
              have hGN : glN F lG n = G := by unfold glN; rw [← hg, hG]
              rw [← hG] at d0 d1 d2 hgw
              rw [hGN, HPL.out] at hgin
              dsimp only at hgin
              have hrl := (hFr.gls.rows g hgF).le; have hrm := (hFr.gls.rows g hgF).max
              rw [← hG] at hrl
              have x4 := Ext2.blk hSr.bel HX4.out
              rw [hfg] at x4
              have r0n : (0 : Int) ≤ (n : Int) := by omega
              have r1n : (n : Int) < (lG.length : Int) := by omega
              have r2g : (0 : Int) ≤ (g : Int) := by omega
              have r3g : (g : Int) < (F.glyphs.length : Int) := by omega
              have wn' : IntKind.i64.wrap ((n : Int) + 1) = (n : Int) + 1 := IntWalk.i64_in _ (by omega)
              have HGE : Hid (glD F.glyphs g = G) := Lib.hid hG.symm
              have HGN := Lib.hid hGN; have HGW := Lib.hid hgw; have HGF := Lib.hid hgF; have HGIN := Lib.hid hgin
              have hgr0 : 0 < G.rows.length := by have := hgw.1.2.2.1; have := HK.out.high; omega
              obtain ⟨rrb, rroff, hrra, -⟩ := int_cell (hFr.gls.rows g hgF) (i := 0) (by rw [← hG]; exact hgr0)
              have HRRA := Lib.hid hrra
              clear e6 hgv hg hG hGN hgr hgw hFr hSr hBr hgin hfg hrra
              have q4c := cell_blk x4
              have q4f := frz_blk x4
              go_wp2_with (fail)
              refine region_ev [] [0, 1, 2, 3, 4, 5, 6, 7] [(8, 18, some 9)] [] (by kernel_rfl) (by kernel_rfl) (by intro c a d v w h; cases d <;> exact h) ?_
              simp only [picks, List.drop_succ_cons, List.drop_zero]
              repeat (refine wpQ0_step (fun K hK => ?_); go_simp; (refine hK _ ?_; clear hK K))
              refine wpQ0_nil ?_
              repeat ((with_reducible refine wpQ2_step (fun K hK => ?_)); go_simp; first | ((with_reducible refine hK _ ?_); clear hK K) | (apply Exists.intro; refine ⟨fun x => ?_, hK _ ?_⟩; (fail); clear hK K))
              refine wpQ2_nil ?_
              refine Events.fill1 (fun b => .pointer (some ⟨b, 0, none⟩)) (Obj.cells #[.string ByteArray.empty, .int .i64 0, .slice none 0 0] 41) (Obj.cells #[.string G.text, .int .i64 G.wide, .slice (s.rs g).a G.rows.length (s.rs g).cap] 41) ⟨_, rfl, rfl, rfl, fun W => by kernel_rfl⟩ ⟨_, rfl, rfl, rfl, fun b W hb => ?_⟩ fun b18 w10 hb18 hg10 nb18 => ?_
              · have hbc := cell_blk hb; have hbf := frz_blk hb; go_simp; exact turn_three hb _ _ _
              simp only [picks, List.drop_succ_cons, List.drop_zero]
              have HS10 := Lib.hid (HSr.out.ext hg10)
              have HB10 := Lib.hid (HBr.out.trans (Sd.ext hg10 HSr.out.bel.size))
              have x18 := nb18
              rw [HRRA.out] at x18
              have HX18 := Lib.hid x18
              clear q4c q4f x4 cg d0 d1 d2 hg10 nb18 x18
              go_wp2_with (fail)
              go_loopw [19] (fun yv wy => ∃ y : Nat, yv = .int .i64 (y : Int) ∧ y ≤ G.rows.length ∧ PgR w3 wy F R m2 (.slice (some ⟨fb, 0, none⟩) m2 fc) pb2 (fun z => if z = pg then ptsK F R P pg k ++ ptsW F R lG ⟨(pg : Int), ln, lf⟩ n ++ ptsG F R G ⟨(pg : Int), ln, lf⟩ (posS F lG n) y else ptsK F R P z k) ∧ Sd w3.heap.size [5] w10 wy) (fun yv _ => G.rows.length - (intOf yv).toNat)
              case atStart =>
                refine ⟨0, rfl, Nat.zero_le _, HS10.out.congr fun z hz => ?_, Sd.refl _ _ _⟩
                by_cases hzp : z = pg
                · rw [if_pos hzp, if_pos hzp]; simp [ptsG]
                · rw [if_neg hzp, if_neg hzp]
              case round =>
                obtain ⟨y, rfl, hy, hSy, hBy⟩ := hrel
                have HSy := Lib.hid hSy; have HBy := Lib.hid hBy
                have x4 := Ext2.blk hSy.bel HX4.out
                have hghi := HGW.out.1.2.2.1
                by_cases hlty : y < G.rows.length
                · go_light
                  have y1 : (y : Int) < F.high := by omega
                  have hh16 := HK.out.high
                  have wy' : IntKind.i64.wrap ((y : Int) + 1) = (y : Int) + 1 := IntWalk.i64_in _ (by omega)
                  clear hSy hBy hghi hh16
                  have q4c := cell_blk x4
                  have q4f := frz_blk x4
                  go_wp2_with (fail)
                  clear q4c q4f x4
                  obtain ⟨wn, hwn_⟩ : ∃ x : Nat, G.wide = (x : Int) := ⟨G.wide.toNat, by have := HGW.out.2; omega⟩
                  have HWT : Hid (G.wide.toNat = wn) := Lib.hid (by omega)
                  have HWN := Lib.hid hwn_
                  have hw12 : wn ≤ 12 := by have := HGW.out.2; omega
                  clear hwn_
                  go_loopw [20] (fun xv wx => ∃ x : Nat, xv = .int .i64 (x : Int) ∧ x ≤ wn ∧ PgR w3 wx F R m2 (.slice (some ⟨fb, 0, none⟩) m2 fc) pb2 (fun z => if z = pg then ptsK F R P pg k ++ ptsW F R lG ⟨(pg : Int), ln, lf⟩ n ++ ptsG F R G ⟨(pg : Int), ln, lf⟩ (posS F lG n) y ++ ptsR F R G ⟨(pg : Int), ln, lf⟩ (posS F lG n) y x else ptsK F R P z k) ∧ Sd w3.heap.size [5] w10 wx) (fun xv _ => wn - (intOf xv).toNat)
                  case atStart =>
                    refine ⟨0, rfl, Nat.zero_le _, HSy.out.congr fun z hz => ?_, HBy.out⟩
                    by_cases hzp : z = pg
                    · rw [if_pos hzp, if_pos hzp]; simp [ptsR]
                    · rw [if_neg hzp, if_neg hzp]
                  case round =>
                    obtain ⟨x, rfl, hx, hSx, hBx⟩ := hrel
                    have HSx := Lib.hid hSx; have HBx := Lib.hid hBx
                    have x18 := hBx.keep _ _ _ _ HX18.out (by decide)
                    rw [HWN.out] at x18
                    by_cases hltx : x < wn
                    · go_light
                      obtain ⟨_, _, e7, cr⟩ := int_cell ((HF.out.below (below_ext HB3.out hSx.bel)).gls.rows g HGF.out) (i := y) (by rw [HGE.out]; exact hlty)
                      rw [HRRA.out] at e7
                      obtain ⟨rfl, rfl⟩ : rrb = _ ∧ rroff = _ := by simpa using e7
                      rw [HGE.out] at cr
                      obtain ⟨rw_, hrw_⟩ : ∃ x, x = intD G.rows y := ⟨_, rfl⟩
                      rw [← hrw_] at cr
                      have HRW_ := Lib.hid hrw_
                      have x1' : (x : Int) < (wn : Int) := by omega
                      have wx' : IntKind.i64.wrap ((x : Int) + 1) = (x : Int) + 1 := IntWalk.i64_in _ (by omega)
                      have s1x : IntKind.i64.wrap ((wn : Int) - 1) = (wn : Int) - 1 := IntWalk.i64_in _ (by omega)
                      obtain ⟨d, hd⟩ : ∃ d, wn = x + 1 + d := ⟨wn - x - 1, by omega⟩
                      have s2x : IntKind.i64.wrap ((wn : Int) - 1 - (x : Int)) = (d : Int) := by rw [IntWalk.i64_in _ (by omega)]; omega
                      have y0' : (0 : Int) ≤ (y : Int) := by omega
                      have y2' : (y : Int) < (G.rows.length : Int) := by omega
                      have hrr := row_rng HK.out HGF.out (y := y) (by rw [HGE.out]; exact hlty)
                      rw [HGE.out, ← hrw_] at hrr
                      have hsh : min (IntKind.u64.wrap (d : Int)).toNat 64 = d := by rw [IntKind.wrap_u64]; omega
                      have hbit : ((rw_ / 2 ^ d).tmod 2 == 1) = bitG G y x := by
                        rw [Int.tmod_eq_emod_of_nonneg (Int.ediv_nonneg hrr.1 (Int.le_of_lt (Int.pow_pos (by omega))))]
                        show decide (rw_ / 2 ^ d % 2 = 1) = _
                        rw [bit_mod hrr.1, hrw_]
                        unfold bitG
                        rw [HWT.out, show wn - 1 - x = d by omega]
                      obtain ⟨bt, hbt⟩ : ∃ z, z = bitG G y x := ⟨_, rfl⟩
                      rw [← hbt] at hbit
                      have HBT := Lib.hid hbt
                      clear e7 hrw_ hd hSx hBx hrr hbt
                      have q18c := cell_blk x18
                      have q18f := frz_blk x18
                      go_wp2_with (fail)
                      refine region_ev [] [0, 1, 2, 3, 4, 5, 6, 7, 8, 9, 10, 11, 12, 13] [] [] (by kernel_rfl) (by kernel_rfl) (by intro c a d v w h; cases d <;> exact h) ?_
                      simp only [picks, List.drop_succ_cons, List.drop_zero]
                      repeat (refine wpQ0_step (fun K hK => ?_); go_simp; (refine hK _ ?_; clear hK K))
                      refine wpQ0_nil ?_
                      repeat ((with_reducible refine wpQ2_step (fun K hK => ?_)); go_simp; first | ((with_reducible refine hK _ ?_); clear hK K) | (apply Exists.intro; refine ⟨fun x => ?_, hK _ ?_⟩; (fail); clear hK K))
                      refine wpQ2_nil ?_
                      refine Events.none_ fun w11 hg11 => ?_
                      simp only [picks, List.drop_succ_cons, List.drop_zero]
                      have HS11 := Lib.hid (HSx.out.ext hg11)
                      have HB11 := Lib.hid (HBx.out.trans (Sd.ext hg11 HSx.out.bel.size))
                      clear q18c q18f x18 cr hg11 s1x s2x hsh hbit
                      cases bt
                      case false =>
                        go_wp2_with (fail)
                        go_roundw
                        case rel =>
                          refine ⟨x + 1, by go_num, hltx, HS11.out.congr fun z hz => ?_, HB11.out⟩
                          by_cases hzp : z = pg
                          · rw [if_pos hzp, if_pos hzp, ptsR_succ, ← HBT.out]; simp
                          · rw [if_neg hzp, if_neg hzp]
                        case measure => simp [intOf]; omega
                      case true =>
                        have hbl := HS11.out.bel
                        have x4 := Ext2.blk hbl HX4.out
                        have x5 := Ext2.blk hbl HX5.out
                        obtain ⟨_, _, e8, hrc8⟩ := (RowS.below HROW.out hbl).row (by omega) (by omega)
                        obtain ⟨rfl, rfl⟩ : pb0 = _ ∧ poff = _ := by simpa using e8
                        obtain ⟨c0, c1, c2⟩ := hrc8.three hlt
                        simp only [plC, HPL.out] at c0 c1 c2
                        obtain ⟨hrow2, -⟩ := HS11.out.own.row
                        have hd2 := (hrow2.three hlt2).2.2
                        simp only [frC] at hd2
                        rw [Nat.zero_add] at hd2
                        have hpr := HX9.out.sd (HB10.out.trans HB11.out) (by decide)
                        obtain ⟨_, _, e9, cp'⟩ := int_cell hpr.1 (i := n) (by rw [places_len]; exact hltn)
                        obtain ⟨rfl, rfl⟩ : xb = _ ∧ xoff = _ := by simpa using e9
                        rw [places_at F lG hltn] at cp'
                        obtain ⟨ps_, hps_⟩ : ∃ x, x = posS F lG n := ⟨_, rfl⟩
                        rw [← hps_] at cp'
                        have hgin := HGIN.out
                        rw [← hps_] at hgin
                        have hyh : (y : Int) < F.high := y1
                        have hwnn := HWN.out
                        have hidx := idx_ok HK.out HR.out (p := ⟨(pg : Int), ln, lf⟩) hplr (a := ps_) (y := y) (x := x) hyh (by show 0 ≤ lf + ps_; omega) (by show lf + ps_ + (x : Int) < R.measure; omega)
                        dsimp only at hidx
                        obtain ⟨ix, hix⟩ : ∃ z, z = idxP F R ⟨(pg : Int), ln, lf⟩ ps_ y x := ⟨_, rfl⟩
                        rw [← hix] at hidx
                        have hpx := pix_ok HK.out HR.out
                        have hh := HK.out.high; have hld := HR.out.lead; have hms := HR.out.measure; have hink := HR.out.ink
                        obtain ⟨A1, hA1⟩ : ∃ x, x = ln * (F.high + R.lead) := ⟨_, rfl⟩
                        obtain ⟨A2, hA2⟩ : ∃ x, x = (A1 + (y : Int)) * R.measure := ⟨_, rfl⟩
                        rw [← hA1, ← hA2] at hidx
                        have t1 : IntKind.i64.wrap (F.high + R.lead) = F.high + R.lead := IntWalk.i64_in _ (by omega)
                        have t2 : IntKind.i64.wrap (ln * (F.high + R.lead)) = A1 := by rw [← hA1]; exact IntWalk.i64_in _ (by omega)
                        have t3 : IntKind.i64.wrap (A1 + (y : Int)) = A1 + (y : Int) := IntWalk.i64_in _ (by omega)
                        have t4 : IntKind.i64.wrap ((A1 + (y : Int)) * R.measure) = A2 := by rw [← hA2]; exact IntWalk.i64_in _ (by omega)
                        have t5 : IntKind.i64.wrap (A2 + lf) = A2 + lf := IntWalk.i64_in _ (by omega)
                        have t6 : IntKind.i64.wrap (A2 + lf + ps_) = A2 + lf + ps_ := IntWalk.i64_in _ (by omega)
                        have t7 : IntKind.i64.wrap (A2 + lf + ps_ + (x : Int)) = (ix : Int) := by rw [hidx.2.2.2.2.1]; exact IntWalk.i64_in _ (by omega)
                        have t8 : IntKind.u8.wrap R.ink = R.ink := by rw [IntKind.wrap_u8]; omega
                        obtain ⟨N, hN⟩ : ∃ z, z = pixN F R := ⟨_, rfl⟩
                        rw [← hN] at hd2 hpx hidx
                        obtain ⟨pbp, hpbp⟩ : ∃ z, z = pb2 pg := ⟨_, rfl⟩
                        rw [← hpbp] at hd2
                        have q0i : (0 : Int) ≤ (ix : Int) := by omega
                        have q1i : (ix : Int) < (N : Int) := by omega
                        have q2i : (0 : Int) ≤ (pg : Int) := by omega
                        have q3i : (pg : Int) < (m2 : Int) := by omega
                        have HIX := Lib.hid hix; have HN := Lib.hid hN; have HPB := Lib.hid hpbp; have HPS := Lib.hid hps_
                        clear e8 e9 hrc8 hrow2 hpr hps_ hgin hwnn hix hpx hA1 hA2 hN hpbp hidx hbl hh hld hms hink
                        have q4c := cell_blk x4
                        have q4f := frz_blk x4
                        have q5c := cell_blk x5
                        have q5f := frz_blk x5
                        go_wp2_with (fail)
                        refine region_ev [] [0, 1, 2, 3, 4, 5, 6, 7, 8, 9, 10, 11, 12, 13, 14, 15, 16, 17, 18, 19, 20, 21, 22, 23, 24, 25, 26, 27, 28, 29, 30, 31, 32, 33, 34, 35, 36, 37, 38, 39, 40, 41] [] [42] (by kernel_rfl) (by kernel_rfl) (by intro c a d v w h; cases d <;> exact h) ?_
                        simp only [picks, List.drop_succ_cons, List.drop_zero]
                        repeat (refine wpQ0_step (fun K hK => ?_); go_simp; (refine hK _ ?_; clear hK K))
                        refine wpQ0_nil ?_
                        repeat ((with_reducible refine wpQ2_step (fun K hK => ?_)); go_simp; first | ((with_reducible refine hK _ ?_); clear hK K) | (apply Exists.intro; refine ⟨fun x => ?_, hK _ ?_⟩; (fail); clear hK K))
                        refine wpQ2_nil ?_
                        refine Events.none_ fun w12 hg12 => ?_
                        simp only [picks, List.drop_succ_cons, List.drop_zero]
                        have hS12 := HS11.out.ext hg12
                        have hcf := hS12.cell hlt2 (i := ix) (by rw [← HN.out]; omega)
                        have hpt := hS12.paint hlt2 (i := ix) (by rw [← HN.out]; omega)
                        have hB12 := HB11.out.trans (Sd.ext hg12 HS11.out.bel.size)
                        rw [← HPB.out] at hcf hpt
                        obtain ⟨⟨ov, c9⟩, f9⟩ := hcf
                        have HS12 := Lib.hid hpt.1
                        have HB12 := Lib.hid (hB12.trans hpt.2)
                        clear q4c q4f q5c q5f x4 x5 c0 c1 c2 cp' hd2 hg12 hS12 hpt hB12
                        go_wp2_with (fail)
                        go_roundw
                        case rel =>
                          refine ⟨x + 1, by go_num, hltx, HS12.out.congr fun z hz => ?_, HB12.out⟩
                          by_cases hzp : z = pg
                          · rw [if_pos hzp, if_pos hzp, if_pos rfl, ptsR_succ, ← HBT.out, HIX.out, HPS.out]; simp
                          · rw [if_neg hzp, if_neg hzp, if_neg hzp]
                        case measure => simp [intOf]; omega
                    · have hxw : x = wn := by omega
                      have HXW := Lib.hid hxw
                      have r8 : ¬ (x : Int) < (wn : Int) := by omega
                      clear hltx hxw hSx hBx
                      have q18c := cell_blk x18
                      have q18f := frz_blk x18
                      go_wp2_with (fail)
                      go_roundw
                      case rel =>
                        refine ⟨y + 1, by go_num, hlty, HSx.out.congr fun z hz => ?_, HBx.out⟩
                        by_cases hzp : z = pg
                        · rw [if_pos hzp, if_pos hzp, ptsG_succ, HWT.out, HXW.out]; simp
                        · rw [if_neg hzp, if_neg hzp]
                      case measure => simp [intOf]; omega
                · obtain rfl : y = G.rows.length := by omega
                  have r8 : ¬ (G.rows.length : Int) < F.high := by omega
                  clear hlty hSy hBy
                  have q4c := cell_blk x4
                  have q4f := frz_blk x4
                  go_wp2_with (fail)
                  go_roundw
                  case rel =>
                    refine ⟨n + 1, by go_num, hltn, HSy.out.congr fun z hz => ?_, HB10.out.trans HBy.out⟩
                    by_cases hzp : z = pg
                    · rw [if_pos hzp, if_pos hzp, ptsW_succ, HGN.out]; simp
                    · rw [if_neg hzp, if_neg hzp]
                  case measure => simp [intOf]; omega
            · obtain rfl : n = lG.length := by omega
              have r8 : ¬ (lG.length : Int) < (lG.length : Int) := by omega
              clear hltn hSr hBr
              go_wp2_with (fail)
              go_roundw
              case rel =>
                refine ⟨k + 1, by go_num, hlt, pb2, ?_⟩
                rw [← HM2.out]
                refine HSr.out.congr fun z hz => ?_
                rw [ptsK_succ, HPL.out, ← HLG.out]
                by_cases hzp : z = pg
                · rw [if_pos hzp, if_pos (by rw [hzp]), hzp]
                · rw [if_neg hzp, if_neg (by show ¬ (pg : Int) = (z : Int); omega), List.append_nil]
              case measure => simp [intOf]; omega
      · obtain rfl : k = P.length := by omega
        have r8 : ¬ (P.length : Int) < (P.length : Int) := by omega
        obtain ⟨⟨a', cp⟩, hsl, hrow9⟩ := hS.own.sl
        subst hsl
        have HS := Lib.hid hS; have HR9 := Lib.hid hrow9
        clear hS hrow9 hlt
        go_wp2_with (fail)
        refine bodyPost_ret (v := .tuple #[.slice a' (npg F R P P.length) cp, .int .i64 0]) ?_ rfl ⟨⟨_, by rw [← HX.out], ?_⟩, below_ext HB3.out HS.out.bel⟩
        · simp [results, Tryd.results38, go_sem]
        · rw [← HX.out, if_pos rfl, ← HP.out]
          exact ⟨⟨a', cp⟩, pb, rfl, HR9.out, HS.out.pix⟩
end Go.Proofs.YtahgbecfaihfpaaDoor
