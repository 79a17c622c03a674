/-
  (*bench.table).told.
-/
import Derived.Test.YtapeakbngligaaaGreatDoorBPcs
import Derived.Test.YtapeakbngligaaaGreatDoorBSome
import Derived.Test.YtapeakbngligaaaGreatDoorBMrg
namespace Go.Proofs.YtapeakbngligaaaGreatDoor
open Go.RowKit D
set_option linter.unusedVariables false
set_option linter.unusedSimpArgs false
attribute [local go_sem high] run_minI run_maxI
attribute [local go_sem] upon2 cls_cell cls_frozen forall_const exists_eq_left'
attribute [local go_sem] FirstUpon atBlk_cell
def tld0 : D.Told := ⟨none, ⟨0, 400000⟩, []⟩
def shownS (t : D.Told) : Span := match t.first with
  | none => ⟨0, 0⟩
  | some _ => t.is
/-- The pointer to the first note told. -/
def FstAt (ns : Sl) (N : List Note) (y : Option Note) (v : Value) : Prop := (y = none ∧ v = .pointer none) ∨ ∃ z j b off, y = some z ∧ j < N.length ∧ ntD N j = z ∧ ns.a = some ⟨b, off, none⟩ ∧ v = .pointer (some ⟨b, off + j * 8, none⟩)
theorem told_take {N : List Note} {f : Int} {k : Nat} (hk : k < N.length) : (N.take (k + 1)).foldl (toldS f) tld0 = toldS f ((N.take k).foldl (toldS f) tld0) (ntD N k) := by
  rw [take_snoc (d := default) hk, List.foldl_append]; rfl
theorem told_is0 {N : List Note} {f : Int} : ∀ {l : List Note} {t : D.Told}, (t.first = none → t.is = ⟨0, 400000⟩) → ((l.foldl (toldS f) t).first = none → (l.foldl (toldS f) t).is = ⟨0, 400000⟩)
  | [], _, h => h
  | x :: l, t, h => by
    rw [List.foldl_cons]
    refine told_is0 (N := N) (l := l) ?_
    unfold toldS
    split
    · exact h
    · split
      · intro h; cases h
      · rename_i y hy
        split
        · intro h2; rw [hy] at h2; cases h2
        · intro h2; rw [hy] at h2; cases h2
theorem own_row {w : World} {base : Nat} {e : TypeId} {sz n uc : Nat} {ua : Option Addr} {c : Nat → Nat → Value} (h : OwnR w base e sz (.slice ua n uc) n c) : RowS w ⟨ua, uc⟩ sz n c := by
  obtain ⟨⟨sa, sc⟩, hv, hr⟩ := h.sl
  obtain ⟨rfl, rfl⟩ : ua = sa ∧ uc = sc := by simpa using hv
  exact hr
set_option maxRecDepth 100000 in
set_option maxHeartbeats 8000000 in
theorem told_any {T : Task} {t : TSl} {N : List Note} {ns : Sl} {B : Nat} {pv : Value} {f : Int} {w : World} (h : TabN w T t N ns B pv) (hn : N.length ≤ 1000000) :
    Calls Tryz.prog 64 #[.pointer (some ⟨B, 0, none⟩), .int .i64 f] w fun e w' => (∃ s' : Sl, e = .returned (.tuple #[.agg #[.int .i64 (toldV N f).is.lo, .int .i64 (toldV N f).is.hi], .slice s'.a (toldV N f).struck.length s'.cap]) ∧ OwnR w' w.heap.size 63 4 (.slice s'.a (toldV N f).struck.length s'.cap) (toldV N f).struck.length (skC (toldV N f).struck)) ∧ Below w.heap.size w w' := by
  have hT := h.nt
  have HT := Lib.hid h
  have hle := hT.le; have hmx := hT.max
  have HNT := Lib.hid hT
  obtain ⟨V, hV⟩ : ∃ V, V = toldV N f := ⟨_, rfl⟩
  rw [← hV]
  have HV : Hid (V = (N.take N.length).foldl (toldS f) tld0) := Lib.hid (by rw [hV, List.take_length]; rfl)
  have x0 := h.blk
  obtain ⟨m, hm⟩ : ∃ m, m = N.length := ⟨_, rfl⟩
  rw [← hm] at hle hn HV x0
  have HM := Lib.hid hm
  obtain ⟨na, nc⟩ := ns
  dsimp only at hle hmx
  have X0 := Lib.hid x0
  clear h hT hV hm x0
  go_enter Tryz.func64, Tryz.ntmps64
  go_upto_region 1 with (fail)
  refine wp_name ?_
  intro w3 hw3
  obtain ⟨n4, hn4⟩ : ∃ n, n = w.heap.size := ⟨_, rfl⟩
  have x4 : w3.heap[n4]? = some (Obj.cells #[.int .i64 (shownS tld0).lo, .int .i64 (shownS tld0).hi] 23) := by rw [hw3, hn4]; exact blk_new _ _
  have hE3 : Ext2 w w3 := by rw [hw3]; exact below_alloc' _ _
  have hs3 : n4 + 1 ≤ w3.heap.size := by rw [hw3, hn4]; simp
  have lw : w.heap.size ≤ n4 := by omega
  have lB : B < n4 := by rw [hn4]; exact blk_lt X0.out
  rw [← hn4]
  have HE3 := Lib.hid hE3; have X4 := Lib.hid x4; have HS3 := Lib.hid hs3
  have x0 := Ext2.blk hE3 X0.out
  clear hw3 hn4 hE3 x4 hs3
  have q0c := cell_blk x0
  have q0f := frz_blk x0
  clear x0
  go_wp2_with (fail)
  clear q0c q0f
  go_loopw [5, 6, 16] (fun sv fv iv wr => ∃ (k : Nat) (td : D.Told), iv = .int .i64 k ∧ k ≤ m ∧ td = (N.take k).foldl (toldS f) tld0 ∧ Ext2 w wr ∧ n4 + 1 ≤ wr.heap.size ∧ FstAt ⟨na, nc⟩ N td.first fv ∧ wr.heap[n4]? = some (Obj.cells #[.int .i64 (shownS td).lo, .int .i64 (shownS td).hi] 23) ∧ td.struck.length ≤ k ∧ OwnR wr (n4 + 1) 63 4 sv td.struck.length (skC td.struck)) (fun _ _ i _ => m - (intOf i).toNat)
  case atStart => exact ⟨0, tld0, rfl, by omega, rfl, HE3.out, HS3.out, .inl ⟨rfl, rfl⟩, X4.out, Nat.le_refl _, own_nil _ _ _ _ _⟩
  case round =>
    clear HE3 X4 HS3
    obtain ⟨k, td, rfl, hk, htd, hE, hsz, hfs, x4, hsk, hO⟩ := hrel
    have HTD := Lib.hid htd; have HE := Lib.hid hE; have HSZ := Lib.hid hsz; have HFS := Lib.hid hfs; have X4 := Lib.hid x4; have HSK := Lib.hid hsk; have HO := Lib.hid hO
    clear htd hE hsz hfs x4 hsk hO
    by_cases hlt : k < m
    · go_light
      have hkl : k < N.length := by rw [← HM.out]; exact hlt
      obtain ⟨b, off, hna, c0, c1, c2, c3, c4, c5, c6, c7⟩ := nt_cells (HNT.out.below HE.out) (i := k) hkl
      dsimp only at hna
      subst hna
      have x0 := Ext2.blk HE.out X0.out
      have htk := told_take (f := f) hkl
      rw [← HTD.out] at htk
      obtain ⟨x, hx⟩ : ∃ x, x = ntD N k := ⟨_, rfl⟩
      rw [← hx] at c0 c1 c2 c3 c4 c5 c6 c7 htk
      have HX := Lib.hid hx; have HTK := Lib.hid htk
      have h0 : (0 : Int) ≤ (k : Int) := by omega
      have h1 : (k : Int) < (m : Int) := by omega
      have w2' : IntKind.i64.wrap ((k : Int) + 1) = (k : Int) + 1 := IntWalk.i64_in _ (by omega)
      clear hx htk hkl
      have q0c := cell_blk x0
      have q0f := frz_blk x0
      by_cases g1 : x.kind = 1
      case neg =>
        have b1 : (x.kind != 1) = true := by simpa using g1
        have HF : Hid (toldS f td x = td) := Lib.hid (by unfold toldS; rw [if_pos (.inl g1)])
        clear g1
        go_wp2_with (fail)
        go_roundw
        case rel => exact ⟨k + 1, td, by go_num, by omega, by rw [HTK.out, HF.out], HE.out, HSZ.out, HFS.out, X4.out, by have := HSK.out; omega, HO.out⟩
        case measure => simp [intOf]; omega
      have b1 : (x.kind != 1) = false := by simpa using g1
      by_cases g2 : x.from_ = f
      case neg =>
        have b2 : (x.from_ != f) = true := by simpa using g2
        have HF : Hid (toldS f td x = td) := Lib.hid (by unfold toldS; rw [if_pos (.inr g2)])
        clear g1 g2
        go_wp2_with (fail)
        go_roundw
        case rel => exact ⟨k + 1, td, by go_num, by omega, by rw [HTK.out, HF.out], HE.out, HSZ.out, HFS.out, X4.out, by have := HSK.out; omega, HO.out⟩
        case measure => simp [intOf]; omega
      have b2 : (x.from_ != f) = false := by simpa using g2
      have HG := Lib.hid (show ¬ (x.kind ≠ 1 ∨ x.from_ ≠ f) by omega)
      clear g1 g2
      have x4 := X4.out
      rcases HFS.out with ⟨hno, hv⟩ | ⟨y, j, b', off', hy, hj, hjy, hna, hv⟩
      · subst hv
        have HF : Hid (toldS f td x = ⟨some x, ⟨x.mlo, x.mhi⟩, td.struck⟩) := Lib.hid (by unfold toldS; rw [if_neg HG.out, hno])
        have es : shownS td = ⟨0, 0⟩ := by unfold shownS; rw [hno]
        rw [es] at x4
        clear hno es HFS
        have q4c := cell_blk x4
        have q4f := frz_blk x4
        go_upto_region 8 with (fail)
        refine region_ev [] [0, 1, 2, 3, 4, 5] [] [6] (by kernel_rfl) (by kernel_rfl) (by intro c a d v w h; cases d <;> exact h) ?_
        simp only [picks, List.drop_succ_cons, List.drop_zero]
        repeat (refine wpQ0_step (fun K hK => ?_); go_simp; (refine hK _ ?_; clear hK K))
        refine wpQ0_nil ?_
        repeat ((with_reducible refine wpQ2_step (fun K hK => ?_)); go_simp; first | ((with_reducible refine hK _ ?_); clear hK K) | (apply Exists.intro; refine ⟨fun x => ?_, hK _ ?_⟩; (fail); clear hK K))
        refine wpQ2_nil ?_
        refine Events.none_ fun w5 hE5 => ?_
        simp only [picks, List.drop_succ_cons, List.drop_zero]
        have x4 := Ext2.blk hE5 x4
        have HE5 := Lib.hid (ext_trans HE.out hE5)
        have HO5 := Lib.hid (HO.out.below hE5)
        have HS5 : Hid (n4 + 1 ≤ w5.heap.size) := Lib.hid (Nat.le_trans HSZ.out hE5.size)
        clear q4c q4f q0c q0f x0 c0 c1 c2 c3 c4 c5 c6 c7 hE5
        have q4c := cell_blk x4
        have q4f := frz_blk x4
        go_wp2_with (fail)
        go_roundw
        case rel =>
          refine ⟨k + 1, ⟨some x, ⟨x.mlo, x.mhi⟩, td.struck⟩, by go_num, by omega, by rw [HTK.out, HF.out], below_set (below_set HE5.out lw) lw, by simp only [World.size_setCell]; exact HS5.out, .inr ⟨x, k, b, off, rfl, by rw [← HM.out]; exact hlt, HX.out.symm, rfl, rfl⟩, Eq.trans (blk_set (blk_set x4 _ _) _ _) rfl, by have := HSK.out; dsimp only; omega, ?_⟩
          exact HO5.out.above (by repeat' (first | (with_reducible assumption) | (with_reducible exact Above.refl _ _) | (with_reducible refine Above.set ?_ (by omega)) | (with_reducible refine Above.alloc ?_ _) | (with_reducible refine Above.ext ?_ (by assumption))))
        case measure => simp [intOf]; omega
      · cases hna
        subst hv
        have es : shownS td = td.is := by unfold shownS; rw [hy]
        have hcf : toldS f td x = if (comS td.is ⟨x.mlo, x.mhi⟩).hi < (comS td.is ⟨x.mlo, x.mhi⟩).lo then ⟨td.first, td.is, td.struck ++ [⟨x.by_, x.number, y.by_, y.number⟩]⟩ else ⟨td.first, comS td.is ⟨x.mlo, x.mhi⟩, td.struck⟩ := by unfold toldS; rw [if_neg HG.out, hy]
        rw [es] at x4
        obtain ⟨bb, offb, hna2, d0, d1, -⟩ := nt_cells (HNT.out.below HE.out) (i := j) hj
        cases hna2
        rw [hjy] at d0 d1
        obtain ⟨C, hC⟩ : ∃ C, C = comS td.is ⟨x.mlo, x.mhi⟩ := ⟨_, rfl⟩
        rw [← hC] at hcf
        have HCM : Hid (∀ W, Calls Tryz.prog 41 #[.agg #[.int .i64 td.is.lo, .int .i64 td.is.hi], .agg #[.int .i64 x.mlo, .int .i64 x.mhi]] W fun e w' => e = .returned (.tuple #[.agg #[.int .i64 C.lo, .int .i64 C.hi], .bool (decide (C.lo ≤ C.hi))]) ∧ Below W.heap.size W w') := Lib.hid fun W => by rw [hC]; exact common_any _ ⟨x.mlo, x.mhi⟩ W
        have HCF := Lib.hid hcf; have HY := Lib.hid hy; have HJ := Lib.hid hj; have HJY := Lib.hid hjy
        clear es hcf hC hy hj hjy HFS HG
        have q4c := cell_blk x4
        have q4f := frz_blk x4
        go_upto_region 9 with (fail)
        refine region_ev [] [0, 1, 2, 3, 4, 5, 6, 7, 8] [(9, 9, some 10)] [11] (by kernel_rfl) (by kernel_rfl) (by intro c a d v w h; cases d <;> exact h) ?_
        simp only [picks, List.drop_succ_cons, List.drop_zero]
        repeat (refine wpQ0_step (fun K hK => ?_); go_simp; (refine hK _ ?_; clear hK K))
        refine wpQ0_nil ?_
        repeat ((with_reducible refine wpQ2_step (fun K hK => ?_)); go_simp; first | ((with_reducible refine hK _ ?_); clear hK K) | (apply Exists.intro; refine ⟨fun x => ?_, hK _ ?_⟩; ((with_reducible exact HCM.out x.1)); clear hK K))
        refine wpQ2_nil ?_
        refine Events.fill1 (fun b => .pointer (some ⟨b, 0, none⟩)) (Obj.cells #[.int .i64 (0), .int .i64 (0)] 23) (Obj.cells #[.int .i64 C.lo, .int .i64 C.hi] 23) ⟨_, rfl, rfl, rfl, fun W => by kernel_rfl⟩ ⟨_, rfl, rfl, rfl, fun b W hb => ?_⟩ fun b9 w5 hb9 hg5 nb9 => ?_
        · have hbc := cell_blk hb; have hbf := frz_blk hb; go_simp; exact turn_two hb _ _
        simp only [picks, List.drop_succ_cons, List.drop_zero]
        have x4 := Ext2.blk hg5 x4
        have y9 := nb9
        have HE5 := Lib.hid (ext_trans HE.out hg5)
        have HO5 := Lib.hid (HO.out.below hg5)
        have HS5 : Hid (n4 + 1 ≤ w5.heap.size) := Lib.hid (Nat.le_trans HSZ.out hg5.size)
        have c0 := ext_cell' hg5 c0; have c1 := ext_cell' hg5 c1; have d0 := ext_cell' hg5 d0; have d1 := ext_cell' hg5 d1
        clear q4c q4f q0c q0f x0 c2 c3 c4 c5 c6 c7 hg5
        have q4c := cell_blk x4
        have q4f := frz_blk x4
        have q9c := cell_blk y9
        have q9f := frz_blk y9
        by_cases hC : C.lo ≤ C.hi
        · have hd : decide (C.lo ≤ C.hi) = true := decide_eq_true hC
          have HF : Hid (toldS f td x = ⟨td.first, C, td.struck⟩) := Lib.hid (by rw [HCF.out, if_neg (by omega)])
          clear hC
          go_wp2_with (fail)
          go_roundw
          case rel =>
            refine ⟨k + 1, ⟨td.first, C, td.struck⟩, by go_num, by omega, by rw [HTK.out, HF.out], below_set (below_set HE5.out lw) lw, by simp only [World.size_setCell]; exact HS5.out, .inr ⟨y, j, b, off, HY.out, HJ.out, HJY.out, rfl, rfl⟩, ?_, by have := HSK.out; dsimp only; omega, ?_⟩
            · rw [show shownS ⟨td.first, C, td.struck⟩ = C by unfold shownS; simp only [HY.out]]
              exact Eq.trans (blk_set (blk_set x4 _ _) _ _) rfl
            · exact HO5.out.above (by repeat' (first | (with_reducible assumption) | (with_reducible exact Above.refl _ _) | (with_reducible refine Above.set ?_ (by omega)) | (with_reducible refine Above.alloc ?_ _) | (with_reducible refine Above.ext ?_ (by assumption))))
          case measure => simp [intOf]; omega
        · have hd : decide (C.lo ≤ C.hi) = false := decide_eq_false hC
          have HF : Hid (toldS f td x = ⟨td.first, td.is, td.struck ++ [⟨x.by_, x.number, y.by_, y.number⟩]⟩) := Lib.hid (by rw [HCF.out, if_pos (by omega)])
          clear hC
          go_upto_region 12 with (fail)
          refine region_ev [] [0, 1, 2, 3, 4, 5, 6, 7, 8, 9, 10, 11, 12, 13, 14, 15, 16, 17] [(18, 74, none)] [19, 20] (by kernel_rfl) (by kernel_rfl) (by intro c a d v w h; cases d <;> exact h) ?_
          simp only [picks, List.drop_succ_cons, List.drop_zero]
          repeat (refine wpQ0_step (fun K hK => ?_); go_simp; (refine hK _ ?_; clear hK K))
          refine wpQ0_nil ?_
          repeat ((with_reducible refine wpQ2_step (fun K hK => ?_)); go_simp; first | ((with_reducible refine hK _ ?_); clear hK K) | (apply Exists.intro; refine ⟨fun x => ?_, hK _ ?_⟩; (fail); clear hK K))
          refine wpQ2_nil ?_
          refine Events.lay1 (fun b => .slice (some ⟨b, 0, none⟩) 1 1) (Obj.cells #[.string x.by_, .int .i64 x.number, .string y.by_, .int .i64 y.number] 63 (0, 0)) ⟨_, rfl, rfl, rfl, fun W => by kernel_rfl⟩ fun bq wx hbq hgx nbq => ?_
          simp only [picks, List.drop_succ_cons, List.drop_zero]
          have hOx := HO5.out.below hgx
          have hx4 := Ext2.blk hgx x4
          have hsx := Nat.le_trans HS5.out hgx.size
          have hEx := ext_trans HE5.out hgx
          have hsk := HSK.out
          have HOX := Lib.hid hOx; have HX4 := Lib.hid hx4; have HSX := Lib.hid hsx; have HEX := Lib.hid hEx
          clear q4c q4f q9c q9f x4 y9 c0 c1 d0 d1 hOx hx4 hsx hEx hgx HE5 HO5 HS5
          go_wp2_with (at_builtin; refine app_one_at [.string x.by_, .int .i64 x.number, .string y.by_, .int .i64 y.number] elStrike rfl _ _ rfl (n4 + 1) rfl HOX.out bq 1 rfl nbq (by simp [Value.oneCell']) (by omega) HSX.out ?_; intro v' w7 hO7 hg7 _)
          go_roundw
          case rel =>
            have h47 : w7.heap[n4]? = some (Obj.cells #[.int .i64 td.is.lo, .int .i64 td.is.hi] 23) := (hg7.block n4 (by have := HSX.out; omega) (fun he => by have := own_ge HOX.out n4 he.symm; omega)).trans HX4.out
            refine ⟨k + 1, ⟨td.first, td.is, td.struck ++ [⟨x.by_, x.number, y.by_, y.number⟩]⟩, by go_num, by omega, by rw [HTK.out, HF.out], ext_grown HEX.out hg7 (fun q hq => by have := own_ge HOX.out q hq; omega), Nat.le_trans HSX.out hg7.size, .inr ⟨y, j, b, off, HY.out, HJ.out, HJY.out, rfl, rfl⟩, ?_, by dsimp only; simp; omega, own_sk hO7⟩
            rw [show shownS ⟨td.first, td.is, td.struck ++ [⟨x.by_, x.number, y.by_, y.number⟩]⟩ = td.is by unfold shownS; simp only [HY.out]]
            exact h47
          case measure => simp [intOf]; omega
    · obtain rfl : m = k := by omega
      have hVt : V = td := by rw [HV.out, HTD.out]
      subst hVt
      obtain ⟨⟨ua, uc⟩, hv, hR⟩ := OwnR.sl HO.out
      subst hv
      have HOW := Lib.hid HO.out
      obtain ⟨sl, hsl⟩ : ∃ n, n = V.struck.length := ⟨_, rfl⟩
      rw [← hsl]
      have HSL := Lib.hid hsl
      have x4 := X4.out
      clear hR hsl HO
      rcases HFS.out with ⟨hno, hv⟩ | ⟨y, j, b', off', hy, hj, hjy, hna, hv⟩
      · subst hv
        have es : shownS V = ⟨0, 0⟩ := by unfold shownS; rw [hno]
        have hi0 : V.is = ⟨0, 400000⟩ := by rw [HV.out]; rw [HV.out] at hno; exact told_is0 (N := N) (fun _ => rfl) hno
        rw [es] at x4
        have HI0 := Lib.hid hi0
        clear es hno hi0 HFS
        have q4c := cell_blk x4
        have q4f := frz_blk x4
        go_wp2_with (fail)
        have r1 : (((wr.setCell ⟨n4, 1, none⟩ (.int .i64 400000)).setCell ⟨n4, 0, none⟩ (.int .i64 0)).setCell ⟨n4, 1, none⟩ (.int .i64 400000)).heap[n4]? = some (Obj.cells #[.int .i64 (0), .int .i64 (400000)] 23) := Eq.trans (blk_set (blk_set (blk_set x4 _ _) _ _) _ _) rfl
        refine bodyPost_ret (v := .tuple #[.agg #[.int .i64 0, .int .i64 400000], .slice ua sl uc]) ?_ rfl ⟨⟨⟨ua, uc⟩, by rw [HI0.out, HSL.out], OwnR.base (OwnR.above HOW.out (by repeat' (first | (with_reducible assumption) | (with_reducible exact Above.refl _ _) | (with_reducible refine Above.set ?_ (by omega)) | (with_reducible refine Above.alloc ?_ _) | (with_reducible refine Above.ext ?_ (by assumption))))) (Nat.le_succ_of_le lw)⟩, below_set (below_set (below_set HE.out lw) lw) lw⟩
        · have zc := cell_blk r1
          have zf := frz_blk r1
          simp [results, Tryz.results64, go_sem, zc]
      · subst hv
        have es : shownS V = V.is := by unfold shownS; rw [hy]
        rw [es] at x4
        clear es HFS
        obtain ⟨I, hI⟩ : ∃ I, I = V.is := ⟨_, rfl⟩
        rw [← hI] at x4
        have HI := Lib.hid hI
        clear hI
        have q4c := cell_blk x4
        have q4f := frz_blk x4
        go_wp2_with (fail)
        have r1 : ((wr.setCell ⟨n4, 0, none⟩ (.int .i64 I.lo)).setCell ⟨n4, 1, none⟩ (.int .i64 I.hi)).heap[n4]? = some (Obj.cells #[.int .i64 I.lo, .int .i64 I.hi] 23) := Eq.trans (blk_set (blk_set x4 _ _) _ _) rfl
        refine bodyPost_ret (v := .tuple #[.agg #[.int .i64 I.lo, .int .i64 I.hi], .slice ua sl uc]) ?_ rfl ⟨⟨⟨ua, uc⟩, by rw [HI.out, HSL.out], OwnR.base (OwnR.above HOW.out (by repeat' (first | (with_reducible assumption) | (with_reducible exact Above.refl _ _) | (with_reducible refine Above.set ?_ (by omega)) | (with_reducible refine Above.alloc ?_ _) | (with_reducible refine Above.ext ?_ (by assumption))))) (Nat.le_succ_of_le lw)⟩, below_set (below_set HE.out lw) lw⟩
        · have zc := cell_blk r1
          have zf := frz_blk r1
          simp [results, Tryz.results64, go_sem, zc]
end Go.Proofs.YtapeakbngligaaaGreatDoor
