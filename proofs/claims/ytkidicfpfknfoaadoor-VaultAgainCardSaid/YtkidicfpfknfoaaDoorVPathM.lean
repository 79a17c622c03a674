/-
  The search of Path.
-/
import Derived.Test.YtkidicfpfknfoaaDoorVPthA
namespace Go.Proofs.YtkidicfpfknfoaaDoor
open Go.RowKit D
set_option linter.unusedVariables false
set_option linter.unusedSimpArgs false
attribute [local go_sem high] run_minI run_maxI
attribute [local go_sem] upon2 cls_cell cls_frozen forall_const exists_eq_left'
attribute [local go_sem] FirstUpon at2_cell at2_cell'
theorem elSty : Elem Tryd.prog 37 44 (.agg #[.int .i64 0, .int .i64 0]) 2 16 := ⟨by kernel_rfl, by kernel_rfl, rfl, by omega, by omega⟩
/-- What the search does. -/
def SrC (w0 : World) (S : Site) (s : SSl) (base : Int) (to : Nat) (x : Bx) (m : Nat) : Prop :=
  ∀ {been : List Nat} {now : List Sty} {t : Span} {room : Nat} {sum : Int} {st : Int × List Sty} {gn cn : Nat} {ky : Sl} {W : World}, SrW w0 S s base to x been now st gn cn ky W → room < S.rooms.length → been.contains room = false → TIn t → 0 ≤ sum → sum + 500 * m ≤ 5000 → now.length + m ≤ 5 → StOk st →
    Calls Tryd.prog 59 #[.agg #[.int .i64 t.lo, .int .i64 t.hi], .int .i64 (room : Int), .int .i64 sum, .int .i64 (m : Int), .pointer (some ⟨x.h, 0, none⟩), .pointer (some ⟨x.t, 0, none⟩), .pointer (some ⟨x.n, 0, none⟩), .pointer (some ⟨x.y, 0, none⟩), .pointer (some ⟨x.b, 0, none⟩), .pointer (some ⟨x.s, 0, none⟩), .pointer (some ⟨x.ba, 0, none⟩), .pointer (some ⟨x.v, 0, none⟩), .pointer (some ⟨x.f, 0, none⟩)] W
      fun e W' => e = .returned (.tuple #[]) ∧ Sd w0.heap.size SrT W W' ∧ ∃ gn' cn' ky', SrW w0 S s base to x been now (srch S base to m been now t room sum st) gn' cn' ky' W'
theorem srchRow {w w' : World} {gn n cn : Nat} (h : w.grownBy w' (Value.slice (some ⟨gn, 0, none⟩) n cn).ownBlock) : w.grownBy w' (some gn) := h
theorem srchNew {w : World} {g n c gn n' cn : Nat} (h : (Value.slice (some ⟨g, 0, none⟩) n c).ownBlock = (Value.slice (some ⟨gn, 0, none⟩) n' cn).ownBlock ∨ (Value.slice (some ⟨g, 0, none⟩) n c).ownBlock = some w.heap.size) : g = gn ∨ g = w.heap.size := by
  rcases h with h | h
  · exact .inl (Option.some.inj h)
  · exact .inr (Option.some.inj h)
theorem ext_grown {W3 w w' : World} {row : Option Nat} (h : Ext2 W3 w) (hg : w.grownBy w' row) (hr : ∀ k, row = some k → W3.heap.size ≤ k) : Ext2 W3 w' := by
  refine ⟨hg.os.trans h.os, hg.tape.trans h.tape, hg.output.trans h.output, Nat.le_trans h.size hg.size, fun k hk => ?_⟩
  rw [hg.block k (Nat.lt_of_lt_of_le hk h.size) ?_, h.block k hk]
  intro he
  have := hr k he.symm
  omega
theorem syC_one {l : List Sty} {x : Sty} {i j : Nat} (hi : i < l.length + 1) (hj : j < 2) : upd (syC l) l.length [.int .i64 x.room, .int .i64 x.hours] i j = syC (l ++ [x]) i j := by
  by_cases h : i = l.length
  · subst h
    rw [upd_at]
    have e : syD (l ++ [x]) l.length = x := by simp [syD]
    rcases (by omega : j = 0 ∨ j = 1) with rfl | rfl <;> simp [syC, e]
  · rw [upd_lt (by omega)]
    have e : syD (l ++ [x]) i = syD l i := by unfold syD; rw [List.getD_eq_getElem?_getD, List.getD_eq_getElem?_getD, List.getElem?_append_left (by omega)]
    rcases (by omega : j = 0 ∨ j = 1) with rfl | rfl <;> simp [syC, e]
theorem syC_cell (l : List Sty) (i j : Nat) : (syC l i j).oneCell' = true := by
  unfold syC; split <;> rfl
theorem now_rows {w0 W : World} {S : Site} {s : SSl} {base : Int} {to : Nat} {x : Bx} {been : List Nat} {now : List Sty} {st : Int × List Sty} {gn cn : Nat} {ky : Sl} (h : SrW w0 S s base to x been now st gn cn ky W) : ∀ i j, i < now.length → j < 2 → W.cell? ⟨gn, 0 + i * 2 + j, none⟩ = some (syC now i j) := by
  rcases h.nowO.forms with ⟨h0, -⟩ | ⟨g, cap, h0, -, -, -, hr, -⟩
  · cases h0
  · cases h0; exact hr.2
set_option maxRecDepth 100000 in
set_option maxHeartbeats 8000000 in
theorem srch_lev {w0 : World} {S : Site} {s : SSl} {base : Int} {to : Nat} {x : Bx} {m : Nat} (hS : SiteAt w0 S s) (hC : Chk S) (hx : BxOk w0.heap.size x) (hto : to < S.rooms.length) (ih : ∀ m', m = m' + 1 → SrC w0 S s base to x m') : SrC w0 S s base to x m := by
  intro been now t room sum st gn cn ky W hW hr hbr ht hs0 hs1 hnl hst
  have HS := Lib.hid hS; have HC := Lib.hid hC; have HX := Lib.hid hx; have HIH := Lib.hid ih; have HW := Lib.hid hW; have HBR := Lib.hid hbr; have HT := Lib.hid ht; have HST := Lib.hid hst
  have hrl := hS.rm.le; have hrm := hS.rm.max
  obtain ⟨o1, o2, o3, o4, o5, o6, o7, o8, o9, o10⟩ := hx
  clear hS hC ih hW hbr ht hst
  have xh := HW.out.hours; have xt := HW.out.to_
  obtain ⟨hI, hhI⟩ : ∃ h, h = st.1 := ⟨_, rfl⟩
  rw [← hhI] at xh
  have HHI := Lib.hid hhI
  have lh := blk_lt xh; have lt_ := blk_lt xt; have lf := blk_lt HW.out.srch
  have nh : ¬ x.h = W.heap.size := by omega
  have nt : ¬ x.t = W.heap.size := by omega
  clear hhI
  have qhc := cell_blk xh
  have qhf := frz_blk xh
  have qtc := cell_blk xt
  have qtf := frz_blk xt
  clear xh xt
  have HE1 : Hid (Ext2 W (W.alloc (Obj.cells #[.int .i64 t.lo, .int .i64 t.hi] 25))) := Lib.hid (below_alloc' _ _)
  by_cases hpr : 0 ≤ hI ∧ hI ≤ sum
  · obtain ⟨hp1, hp2⟩ := hpr
    have hd1 : decide (0 ≤ hI) = true := decide_eq_true hp1
    have hd2 : decide (hI ≤ sum) = true := decide_eq_true hp2
    have HPR : Hid (0 ≤ st.1 ∧ st.1 ≤ sum) := Lib.hid (by rw [← HHI.out]; exact ⟨hp1, hp2⟩)
    go_enter Tryd.func59, Tryd.ntmps59
    go_wp2_with (fail)
    refine bodyPost_ret (v := .tuple #[]) ?_ rfl ⟨rfl, Sd.ext HE1.out HW.out.bel.size, gn, cn, ky, by rw [srch_pruned HPR.out]; exact HW.out.ext HE1.out⟩
    simp [results, Tryd.results59, go_sem]
  have HNP : Hid (¬ (0 ≤ st.1 ∧ st.1 ≤ sum)) := Lib.hid (by rw [← HHI.out]; exact hpr)
  rcases (show hI < 0 ∨ (0 ≤ hI ∧ sum < hI) by omega) with hp | ⟨hp1, hp2⟩
  case' inl =>
    have hd1 : decide (0 ≤ hI) = false := decide_eq_false (by omega)
    have hd0 : ¬ 0 ≤ hI := by omega
  case' inr =>
    have hd1 : decide (0 ≤ hI) = true := decide_eq_true hp1
    have hd2 : decide (hI ≤ sum) = false := decide_eq_false (by omega)
    have hd0 : ¬ hI ≤ sum := by omega
  all_goals
    clear hpr
    by_cases hrt : room = to
    · have hb : ((room : Int) == (to : Int)) = true := by simp [hrt]
      have HRT := Lib.hid hrt
      clear hrt
      rcases Nat.eq_zero_or_pos m with hm0 | hm0
      · have hm1 : ((m : Int) == 0) = true := by simp [hm0]
        have HM0 := Lib.hid hm0
        clear hm0
        go_enter Tryd.func59, Tryd.ntmps59
        go_wp2_with (fail)
        refine wp_name ?_
        intro w2 hw2
        have hE2 : Ext2 W w2 := by rw [hw2]; exact HE1.out
        have HE1 := Lib.hid hE2
        have HW2 := Lib.hid (HW.out.ext hE2)
        have xn := HW2.out.nowB; have xt := HW2.out.to_
        clear hw2 hE2
        haveI hcls := At2.ne xn xt
        refine region_tree (At2 x.n #[.slice (some ⟨gn, 0, none⟩) now.length cn] 37 x.t #[.int .i64 (to : Int)] 3) [0, 2, 4, 5] (.two 1 (.two 3 (.one 6 (.one 7 (.one 8 (.one 9 .leaf)))) 6 (.one 3 (.one 7 (.one 8 (.one 9 .leaf))))) 6 (.one 1 (.one 3 (.one 7 (.one 8 (.one 9 .leaf)))))) (At2.ext xn xt) (by kernel_rfl) (by kernel_rfl) (by intro c a d v w h; cases d <;> exact h) ?_
        simp only [picks, List.drop_succ_cons, List.drop_zero]
        repeat ((with_reducible refine wpQS_step (fun K hK => ?_)); go_simp; ((with_reducible refine hK _ ?_); clear hK K))
        (with_reducible refine wpQS_nil ?_)
        intro W3 hW3
        have HE3 := Lib.hid hW3
        have HW3 := Lib.hid (HW2.out.ext hW3)
        have ZN := Lib.hid (Ext2.blk hW3 xn); have ZT := Lib.hid (Ext2.blk hW3 xt)
        have HE0 := Lib.hid (Ext2.refl W3)
        clear hcls xn xt hW3 qhc qhf qtc qtf
        refine wpT_two ?p1 ?p6
        case p1 =>
          simp only [picks, List.drop_succ_cons, List.drop_zero]
          go_wp2_with (fail)
          refine and_name (fun wa hwa => ?_)
          have hxwa : Ext2 W3 wa := by rw [hwa]; exact below_alloc' _ _
          obtain ⟨e5, he5⟩ : ∃ n, n = W3.heap.size := ⟨_, rfl⟩
          have ne5 : wa.heap[e5]? = some (.cells #[] 44 (0, 0)) := by rw [hwa, he5]; exact blk_new _ _
          have HEa := Lib.hid (ext_trans HE0.out hxwa)
          have le5 : W3.heap.size ≤ e5 := by rw [he5]; exact HE0.out.size
          rw [← he5]
          clear hwa he5
          refine ⟨⟨Ext2.blk HEa.out ZN.out, Ext2.blk HEa.out ZT.out⟩, ?_⟩
          refine wpT_two ?q3 ?q6
          case q3 =>
            simp only [picks, List.drop_succ_cons, List.drop_zero]
            refine app_rows_at elSty (c2 := syC now) rfl _ _ rfl W3.heap.size rfl (own_empty (c := syC now) ne5 le5) gn 0 now.length cn rfl (now_rows (HW3.out.ext HEa.out)) (syC_cell now) (by omega) HEa.out.size (fun i j hi _ => absurd hi (Nat.not_lt_zero i)) (fun i j _ _ => by rw [Nat.zero_add]) ?_
            intro v3 wb hO3 hg3 _
            have HEb := Lib.hid (ext_grown HEa.out hg3 (fun k hk => by have h0 : some e5 = some k := hk; have := Option.some.inj h0; omega))
            rw [Nat.zero_add] at hO3
            have HO3 := Lib.hid hO3
            clear hO3 hg3
            refine wpList_nil ?_
            refine ⟨⟨Ext2.blk HEb.out ZN.out, Ext2.blk HEb.out ZT.out⟩, ?_⟩
            refine wpT_one ?_
            simp only [picks, List.drop_succ_cons, List.drop_zero]
            go_wp2_with (fail)
            refine and_name (fun wc hwc => ?_)
            have hxwc : Ext2 wb wc := by rw [hwc]; exact below_alloc' _ _
            obtain ⟨b6, hb6⟩ : ∃ n, n = wb.heap.size := ⟨_, rfl⟩
            have na6 : wc.heap[b6]? = some (.cells #[.int .i64 (to : Int), .int .i64 0] 44 (0, 0)) := by rw [hwc, hb6]; exact blk_new _ _
            have HEc := Lib.hid (ext_trans HEb.out hxwc)
            rw [← hb6]
            clear hwc hb6
            refine ⟨⟨Ext2.blk HEc.out ZN.out, Ext2.blk HEc.out ZT.out⟩, ?_⟩
            have HO3b := Lib.hid (HO3.out.below hxwc)
            refine wpT_one ?_
            simp only [picks, List.drop_succ_cons, List.drop_zero]
            refine app_one_at [.int .i64 (to : Int), .int .i64 0] elSty rfl _ _ rfl W3.heap.size rfl HO3b.out b6 1 rfl na6 (by simp [Value.oneCell']) (by omega) HEc.out.size ?_
            intro v4 wq hO4 hg4 _
            have HEq := Lib.hid (ext_grown HEc.out hg4 (own_block HO3b.out))
            obtain ⟨g4, c4, hv4, hle4, -⟩ := own_some hO4 (by omega)
            subst hv4
            have HO4 := Lib.hid hO4
            clear hO4 hg4
            refine wpList_nil ?_
            refine ⟨⟨Ext2.blk HEq.out ZN.out, Ext2.blk HEq.out ZT.out⟩, wpT_one ?_⟩
            have HWq := Lib.hid (HW3.out.ext HEq.out)
            have xh := HWq.out.hours; have xy := HWq.out.stays
            have nhy : ¬ x.h = x.y := by omega
            have nyh : ¬ x.y = x.h := by omega
            have qhc := cell_blk xh
            have qhf := frz_blk xh
            have qyc := cell_blk xy
            have qyf := frz_blk xy
            clear xh xy
            simp only [picks, List.drop_succ_cons, List.drop_zero]
            go_wp2_with (fail)
            refine ⟨⟨blk_set_ne (Ext2.blk HEq.out ZN.out) (by omega), blk_set_ne (Ext2.blk HEq.out ZT.out) (by omega)⟩, wpT_one ?_⟩
            simp only [picks, List.drop_succ_cons, List.drop_zero]
            go_wp2_with (fail)
            refine ⟨⟨blk_set_ne (blk_set_ne (Ext2.blk HEq.out ZN.out) (by omega)) (by omega), blk_set_ne (blk_set_ne (Ext2.blk HEq.out ZT.out) (by omega)) (by omega)⟩, wpT_leaf ?_⟩
            go_wp2_with (fail)
            have hgl : g4 ≠ gn := by
              rcases HW3.out.nowO.forms with ⟨h0, -⟩ | ⟨g, cap, h0, -, -, -, hr4, -⟩
              · cases h0
              · cases h0; have := hr4.1; omega
            have hOf : OwnR wq w0.heap.size 44 2 (.slice (some ⟨g4, 0, none⟩) (now ++ [(⟨(to : Int), 0⟩ : Sty)]).length c4) (now ++ [(⟨(to : Int), 0⟩ : Sty)]).length (syC (now ++ [(⟨(to : Int), 0⟩ : Sty)])) := by
              rw [List.length_append, List.length_singleton]
              exact (HO4.out.base HW3.out.bel.size).congr fun i j hi hj => syC_one (x := ⟨(to : Int), 0⟩) hi hj
            have hbs := HWq.out.best HX.out (sum := sum) hOf hgl
            rw [List.length_append, List.length_singleton] at hbs
            refine bodyPost_ret (v := .tuple #[]) ?_ rfl ⟨rfl, (Sd.ext (ext_trans HE1.out (ext_trans HE3.out HEq.out)) HW.out.bel.size).trans (HWq.out.best_sd HX.out _ _), gn, cn, ⟨some ⟨g4, 0, none⟩, c4⟩, ?_⟩
            · simp [results, Tryd.results59, go_sem]
            rw [HM0.out, srch_end HNP.out, if_pos HRT.out]
            exact hbs
          case q6 =>
            simp only [picks, List.drop_succ_cons, List.drop_zero]
            go_wp2_with (fail)
            refine and_name (fun wb hwb => ?_)
            have hxwb : Ext2 wa wb := by rw [hwb]; exact below_alloc' _ _
            obtain ⟨b6, hb6⟩ : ∃ n, n = wa.heap.size := ⟨_, rfl⟩
            have na6 : wb.heap[b6]? = some (.cells #[.int .i64 (to : Int), .int .i64 0] 44 (0, 0)) := by rw [hwb, hb6]; exact blk_new _ _
            have HEb := Lib.hid (ext_trans HEa.out hxwb)
            rw [← hb6]
            have hbe : b6 ≠ e5 := by rw [hb6]; exact fun h => by have := blk_lt ne5; omega
            clear hwb hb6
            refine ⟨⟨Ext2.blk HEb.out ZN.out, Ext2.blk HEb.out ZT.out⟩, ?_⟩
            have ne6 := Ext2.blk hxwb ne5
            refine wpT_one ?_
            simp only [picks, List.drop_succ_cons, List.drop_zero]
            refine app_rows_at elSty (c2 := syC now) rfl _ _ rfl W3.heap.size rfl (own_empty (c := syC now) ne6 le5) gn 0 now.length cn rfl (now_rows (HW3.out.ext HEb.out)) (syC_cell now) (by omega) HEb.out.size (fun i j hi _ => absurd hi (Nat.not_lt_zero i)) (fun i j _ _ => by rw [Nat.zero_add]) ?_
            intro v3 wc hO3 hg3 _
            have HEc := Lib.hid (ext_grown HEb.out hg3 (fun k hk => by have h0 : some e5 = some k := hk; have := Option.some.inj h0; omega))
            rw [Nat.zero_add] at hO3
            have HO3 := Lib.hid hO3
            have nb := Eq.trans (hg3.block _ (blk_lt na6) (by intro h0; have h1 : some b6 = some e5 := h0; have := Option.some.inj h1; omega)) na6
            clear hO3 hg3
            refine wpList_nil ?_
            refine ⟨⟨Ext2.blk HEc.out ZN.out, Ext2.blk HEc.out ZT.out⟩, ?_⟩
            refine wpT_one ?_
            simp only [picks, List.drop_succ_cons, List.drop_zero]
            refine app_one_at [.int .i64 (to : Int), .int .i64 0] elSty rfl _ _ rfl W3.heap.size rfl HO3.out b6 1 rfl nb (by simp [Value.oneCell']) (by omega) HEc.out.size ?_
            intro v4 wq hO4 hg4 _
            have HEq := Lib.hid (ext_grown HEc.out hg4 (own_block HO3.out))
            obtain ⟨g4, c4, hv4, hle4, -⟩ := own_some hO4 (by omega)
            subst hv4
            have HO4 := Lib.hid hO4
            clear hO4 hg4
            refine wpList_nil ?_
            refine ⟨⟨Ext2.blk HEq.out ZN.out, Ext2.blk HEq.out ZT.out⟩, wpT_one ?_⟩
            have HWq := Lib.hid (HW3.out.ext HEq.out)
            have xh := HWq.out.hours; have xy := HWq.out.stays
            have nhy : ¬ x.h = x.y := by omega
            have nyh : ¬ x.y = x.h := by omega
            have qhc := cell_blk xh
            have qhf := frz_blk xh
            have qyc := cell_blk xy
            have qyf := frz_blk xy
            clear xh xy
            simp only [picks, List.drop_succ_cons, List.drop_zero]
            go_wp2_with (fail)
            refine ⟨⟨blk_set_ne (Ext2.blk HEq.out ZN.out) (by omega), blk_set_ne (Ext2.blk HEq.out ZT.out) (by omega)⟩, wpT_one ?_⟩
            simp only [picks, List.drop_succ_cons, List.drop_zero]
            go_wp2_with (fail)
            refine ⟨⟨blk_set_ne (blk_set_ne (Ext2.blk HEq.out ZN.out) (by omega)) (by omega), blk_set_ne (blk_set_ne (Ext2.blk HEq.out ZT.out) (by omega)) (by omega)⟩, wpT_leaf ?_⟩
            go_wp2_with (fail)
            have hgl : g4 ≠ gn := by
              rcases HW3.out.nowO.forms with ⟨h0, -⟩ | ⟨g, cap, h0, -, -, -, hr4, -⟩
              · cases h0
              · cases h0; have := hr4.1; omega
            have hOf : OwnR wq w0.heap.size 44 2 (.slice (some ⟨g4, 0, none⟩) (now ++ [(⟨(to : Int), 0⟩ : Sty)]).length c4) (now ++ [(⟨(to : Int), 0⟩ : Sty)]).length (syC (now ++ [(⟨(to : Int), 0⟩ : Sty)])) := by
              rw [List.length_append, List.length_singleton]
              exact (HO4.out.base HW3.out.bel.size).congr fun i j hi hj => syC_one (x := ⟨(to : Int), 0⟩) hi hj
            have hbs := HWq.out.best HX.out (sum := sum) hOf hgl
            rw [List.length_append, List.length_singleton] at hbs
            refine bodyPost_ret (v := .tuple #[]) ?_ rfl ⟨rfl, (Sd.ext (ext_trans HE1.out (ext_trans HE3.out HEq.out)) HW.out.bel.size).trans (HWq.out.best_sd HX.out _ _), gn, cn, ⟨some ⟨g4, 0, none⟩, c4⟩, ?_⟩
            · simp [results, Tryd.results59, go_sem]
            rw [HM0.out, srch_end HNP.out, if_pos HRT.out]
            exact hbs
        case p6 =>
          simp only [picks, List.drop_succ_cons, List.drop_zero]
          go_wp2_with (fail)
          refine and_name (fun wa hwa => ?_)
          have hxwa : Ext2 W3 wa := by rw [hwa]; exact below_alloc' _ _
          obtain ⟨b6, hb6⟩ : ∃ n, n = W3.heap.size := ⟨_, rfl⟩
          have na5 : wa.heap[b6]? = some (.cells #[.int .i64 (to : Int), .int .i64 0] 44 (0, 0)) := by rw [hwa, hb6]; exact blk_new _ _
          have HEa := Lib.hid (ext_trans HE0.out hxwa)
          rw [← hb6]
          clear hwa hb6
          refine ⟨⟨Ext2.blk HEa.out ZN.out, Ext2.blk HEa.out ZT.out⟩, ?_⟩
          refine wpT_one ?_
          simp only [picks, List.drop_succ_cons, List.drop_zero]
          go_wp2_with (fail)
          refine and_name (fun wb hwb => ?_)
          have hxwb : Ext2 wa wb := by rw [hwb]; exact below_alloc' _ _
          obtain ⟨e5, he5⟩ : ∃ n, n = wa.heap.size := ⟨_, rfl⟩
          have ne5 : wb.heap[e5]? = some (.cells #[] 44 (0, 0)) := by rw [hwb, he5]; exact blk_new _ _
          have HEb := Lib.hid (ext_trans HEa.out hxwb)
          have le5 : W3.heap.size ≤ e5 := by rw [he5]; exact HEa.out.size
          rw [← he5]
          have hbe : b6 ≠ e5 := by rw [he5]; exact fun h => by have := blk_lt na5; omega
          clear hwb he5
          refine ⟨⟨Ext2.blk HEb.out ZN.out, Ext2.blk HEb.out ZT.out⟩, ?_⟩
          have na6 := Ext2.blk hxwb na5
          refine wpT_one ?_
          simp only [picks, List.drop_succ_cons, List.drop_zero]
          refine app_rows_at elSty (c2 := syC now) rfl _ _ rfl W3.heap.size rfl (own_empty (c := syC now) ne5 le5) gn 0 now.length cn rfl (now_rows (HW3.out.ext HEb.out)) (syC_cell now) (by omega) HEb.out.size (fun i j hi _ => absurd hi (Nat.not_lt_zero i)) (fun i j _ _ => by rw [Nat.zero_add]) ?_
          intro v3 wc hO3 hg3 _
          have HEc := Lib.hid (ext_grown HEb.out hg3 (fun k hk => by have h0 : some e5 = some k := hk; have := Option.some.inj h0; omega))
          rw [Nat.zero_add] at hO3
          have HO3 := Lib.hid hO3
          have nb := Eq.trans (hg3.block _ (blk_lt na6) (by intro h0; have h1 : some b6 = some e5 := h0; have := Option.some.inj h1; omega)) na6
          clear hO3 hg3
          refine wpList_nil ?_
          refine ⟨⟨Ext2.blk HEc.out ZN.out, Ext2.blk HEc.out ZT.out⟩, ?_⟩
          refine wpT_one ?_
          simp only [picks, List.drop_succ_cons, List.drop_zero]
          refine app_one_at [.int .i64 (to : Int), .int .i64 0] elSty rfl _ _ rfl W3.heap.size rfl HO3.out b6 1 rfl nb (by simp [Value.oneCell']) (by omega) HEc.out.size ?_
          intro v4 wq hO4 hg4 _
          have HEq := Lib.hid (ext_grown HEc.out hg4 (own_block HO3.out))
          obtain ⟨g4, c4, hv4, hle4, -⟩ := own_some hO4 (by omega)
          subst hv4
          have HO4 := Lib.hid hO4
          clear hO4 hg4
          refine wpList_nil ?_
          refine ⟨⟨Ext2.blk HEq.out ZN.out, Ext2.blk HEq.out ZT.out⟩, wpT_one ?_⟩
          have HWq := Lib.hid (HW3.out.ext HEq.out)
          have xh := HWq.out.hours; have xy := HWq.out.stays
          have nhy : ¬ x.h = x.y := by omega
          have nyh : ¬ x.y = x.h := by omega
          have qhc := cell_blk xh
          have qhf := frz_blk xh
          have qyc := cell_blk xy
          have qyf := frz_blk xy
          clear xh xy
          simp only [picks, List.drop_succ_cons, List.drop_zero]
          go_wp2_with (fail)
          refine ⟨⟨blk_set_ne (Ext2.blk HEq.out ZN.out) (by omega), blk_set_ne (Ext2.blk HEq.out ZT.out) (by omega)⟩, wpT_one ?_⟩
          simp only [picks, List.drop_succ_cons, List.drop_zero]
          go_wp2_with (fail)
          refine ⟨⟨blk_set_ne (blk_set_ne (Ext2.blk HEq.out ZN.out) (by omega)) (by omega), blk_set_ne (blk_set_ne (Ext2.blk HEq.out ZT.out) (by omega)) (by omega)⟩, wpT_leaf ?_⟩
          go_wp2_with (fail)
          have hgl : g4 ≠ gn := by
            rcases HW3.out.nowO.forms with ⟨h0, -⟩ | ⟨g, cap, h0, -, -, -, hr4, -⟩
            · cases h0
            · cases h0; have := hr4.1; omega
          have hOf : OwnR wq w0.heap.size 44 2 (.slice (some ⟨g4, 0, none⟩) (now ++ [(⟨(to : Int), 0⟩ : Sty)]).length c4) (now ++ [(⟨(to : Int), 0⟩ : Sty)]).length (syC (now ++ [(⟨(to : Int), 0⟩ : Sty)])) := by
            rw [List.length_append, List.length_singleton]
            exact (HO4.out.base HW3.out.bel.size).congr fun i j hi hj => syC_one (x := ⟨(to : Int), 0⟩) hi hj
          have hbs := HWq.out.best HX.out (sum := sum) hOf hgl
          rw [List.length_append, List.length_singleton] at hbs
          refine bodyPost_ret (v := .tuple #[]) ?_ rfl ⟨rfl, (Sd.ext (ext_trans HE1.out (ext_trans HE3.out HEq.out)) HW.out.bel.size).trans (HWq.out.best_sd HX.out _ _), gn, cn, ⟨some ⟨g4, 0, none⟩, c4⟩, ?_⟩
          · simp [results, Tryd.results59, go_sem]
          rw [HM0.out, srch_end HNP.out, if_pos HRT.out]
          exact hbs
      · have hm1 : ((m : Int) == 0) = false := by simp; omega
        obtain ⟨m', hm'⟩ : ∃ m', m = m' + 1 := ⟨m - 1, by omega⟩
        have HM' := Lib.hid hm'
        clear hm' hm0
        go_enter Tryd.func59, Tryd.ntmps59
        go_wp2_with (fail)
        refine bodyPost_ret (v := .tuple #[]) ?_ rfl ⟨rfl, Sd.ext HE1.out HW.out.bel.size, gn, cn, ky, by rw [HM'.out, srch_there HNP.out HRT.out]; exact HW.out.ext HE1.out⟩
        simp [results, Tryd.results59, go_sem]
    have hb : ((room : Int) == (to : Int)) = false := by simp; omega
    have HRT := Lib.hid hrt
    clear hrt
    rcases Nat.eq_zero_or_pos m with hm0 | hm0
    · have hm1 : ((m : Int) == 0) = true := by simp [hm0]
      have HM0 := Lib.hid hm0
      clear hm0
      go_enter Tryd.func59, Tryd.ntmps59
      go_wp2_with (fail)
      refine bodyPost_ret (v := .tuple #[]) ?_ rfl ⟨rfl, Sd.ext HE1.out HW.out.bel.size, gn, cn, ky, by rw [HM0.out, srch_end HNP.out, if_neg HRT.out]; exact HW.out.ext HE1.out⟩
      simp [results, Tryd.results59, go_sem]
    have hm1 : ((m : Int) == 0) = false := by simp; omega
    obtain ⟨m', hm'⟩ : ∃ m', m = m' + 1 := ⟨m - 1, by omega⟩
    have HM' := Lib.hid hm'
    clear hm' hm0
    have xb := HW.out.beenB
    have lb := blk_lt xb
    have nb : ¬ x.b = W.heap.size := by omega
    obtain ⟨cur, xg⟩ := ownR_cells HW.out.beenO (k := x.g) rfl
    have cg := HW.out.beenO.cell1 hr
    have cg1 := cg.1; have cg2 := cg.2.1
    have lg : x.g < W.heap.size := cg.2.2.1
    have ng : ¬ x.g = W.heap.size := by omega
    have i0 : (0 : Int) ≤ (room : Int) := by omega
    have i1 : (room : Int) < (S.rooms.length : Int) := by omega
    obtain ⟨bR, oR, haR, -⟩ := rm_cells HS.out.rm hr
    have xs := HW.out.site
    rw [haR] at xs
    have HAR := Lib.hid haR
    have ls := blk_lt xs
    have ns : ¬ x.s = W.heap.size := by omega
    have ngs : ¬ x.g = x.s := by omega
    have ngs' : ¬ x.s = x.g := by omega
    have qbc := cell_blk xb
    have qbf := frz_blk xb
    have qsc := cell_blk xs
    have qsf := frz_blk xs
    clear xb xs cg xg
    clear haR
    go_enter Tryd.func59, Tryd.ntmps59
    go_wp2_with (fail)
    refine wp_name ?_
    intro w2 hw2
    obtain ⟨n13, hn13⟩ : ∃ n, n = W.heap.size := ⟨_, rfl⟩
    have hW2 : SrW w0 S s base to x (room :: been) now st gn cn ky w2 := by
      rw [hw2]
      refine (SrW.mark HW.out HX.out hr (fun i _ => ?_)).ext (below_alloc' _ _)
      by_cases hir : i = room
      · rw [if_pos hir, hir]; simp
      · rw [if_neg hir, List.contains_cons]; simp [hir]
    have x13 : w2.heap[n13]? = some (Obj.cells #[.int .i64 t.lo, .int .i64 t.hi] 25) := by rw [hw2, hn13]; exact blk_new' _ _ (World.size_setCell _ _ _).symm
    have lf13 : x.f < n13 := by omega
    have HSD2 : Hid (Sd w0.heap.size SrT W w2) := Lib.hid (by rw [hw2]; exact (HW.out.mark_sd HX.out _ _).trans (Sd.alloc _ (by rw [World.size_setCell]; exact HW.out.bel.size)))
    have HW2 := Lib.hid hW2; have X13 := Lib.hid x13
    rw [← hn13]
    clear hw2 hW2 x13 hn13 HE1 HW lh lt_ lf nh nt lb nb lg ng ls ns qhc qhf qtc qtf qbc qbf qsc qsf cg1 cg2 i0 i1 hb hm1 hd0 hd1
    try clear hd2
    go_loopw [50] (fun z wr => ∃ k : Nat, z = .int .i64 (k : Int) ∧ k ≤ S.rooms.length ∧ wr.heap[n13]? = some (Obj.cells #[.int .i64 t.lo, .int .i64 t.hi] 25) ∧ Sd w0.heap.size SrT W wr ∧ ∃ gn cn ky, SrW w0 S s base to x (room :: been) now (srK S base to m' been now t room sum st k) gn cn ky wr) (fun z _ => S.rooms.length - (intOf z).toNat)
    case atStart => exact ⟨0, rfl, by omega, X13.out, HSD2.out, gn, cn, ky, HW2.out⟩
    case round =>
      obtain ⟨k, rfl, hk, x13, hsd, gn, cn, ky, hW⟩ := hrel
      have HWr := Lib.hid hW; have Y13 := Lib.hid x13; have HSD := Lib.hid hsd
      clear hW x13 hsd
      by_cases hlt : k < S.rooms.length
      · go_light
        obtain ⟨bR', oR', haR', c0, c1, c2, c3, c4, c5, c6, c7, c8, c9⟩ := rm_cells (HS.out.below HWr.out.bel).rm hlt
        have e := haR'
        rw [HAR.out] at e
        obtain ⟨rfl, rfl⟩ : bR = bR' ∧ oR = oR' := by simpa using e
        obtain ⟨R, hR⟩ : ∃ R, R = rmD S.rooms k := ⟨_, rfl⟩
        rw [← hR] at c0 c1 c2 c3 c4 c5 c6 c7 c8 c9
        have HR := Lib.hid hR
        clear e haR' hR
        have xb := HWr.out.beenB; have xba := HWr.out.base_
        have lb := blk_lt xb; have lba := blk_lt xba
        have nb : ¬ x.b = wr.heap.size := by omega
        have nba : ¬ x.ba = wr.heap.size := by omega
        have cgk := HWr.out.beenO.cell1 hlt
        have cg1 := cgk.1
        have lg : x.g < wr.heap.size := cgk.2.2.1
        have ng : ¬ x.g = wr.heap.size := by omega
        have y13 := Y13.out
        have l13 := blk_lt y13
        have n13' : ¬ n13 = wr.heap.size := by omega
        obtain ⟨cb, hcb⟩ : ∃ c, c = (room :: been).contains k := ⟨_, rfl⟩
        rw [← hcb] at cg1
        have HCB := Lib.hid hcb
        have i0 : (0 : Int) ≤ (k : Int) := by omega
        have i1 : (k : Int) < (S.rooms.length : Int) := by omega
        have w3' : IntKind.i64.wrap ((k : Int) + 1) = (k : Int) + 1 := IntWalk.i64_in _ (by omega)
        have HLT := Lib.hid hlt
        have HEr : Hid (Ext2 wr (wr.alloc (Obj.cells #[.string R.name, .int .i64 R.tlo, .int .i64 R.thi, .int .i64 R.dlo, .int .i64 R.dhi, .bool R.people, .bool R.allows, .int .i64 R.most, .int .i64 R.x, .int .i64 R.y] 41))) := Lib.hid (below_alloc' _ _)
        have qbc := cell_blk xb
        have qbf := frz_blk xb
        have qac := cell_blk xba
        have qaf := frz_blk xba
        have qtc := cell_blk y13
        have qtf := frz_blk y13
        clear xb xba y13 hcb cgk
        cases cb
        case true =>
          go_wp2_with (fail)
          go_roundw
          case rel => exact ⟨k + 1, by go_num, by omega, HEr.out.blk Y13.out, HSD.out.trans (Sd.ext HEr.out HWr.out.bel.size), gn, cn, ky, by rw [srK_succ, srStep_skip (by rw [← HCB.out]; rfl)]; exact HWr.out.ext HEr.out⟩
          case measure => simp [intOf]; omega
        by_cases hbar : base = 1 ∧ R.allows = false
        · obtain ⟨hb1, hb2⟩ := hbar
          have hbb : (base == 1) = true := by simp [hb1]
          have HBAR : Hid (barred S base k = true) := Lib.hid (by unfold barred; rw [← HR.out, hb1, hb2]; rfl)
          rw [hb2] at c6
          clear hb1
          go_wp2_with (fail)
          go_roundw
          case rel => exact ⟨k + 1, by go_num, by omega, by rw [← hb2]; exact HEr.out.blk Y13.out, by rw [← hb2]; exact HSD.out.trans (Sd.ext HEr.out HWr.out.bel.size), gn, cn, ky, by rw [srK_succ, srStep_skip (by rw [HBAR.out, Bool.or_true]), ← hb2]; exact HWr.out.ext HEr.out⟩
          case measure => simp [intOf]; omega
        have HBAR : Hid (((room :: been).contains k || barred S base k) = false) := Lib.hid (by
          rw [← HCB.out, Bool.false_or]
          unfold barred
          rw [← HR.out]
          by_cases h1 : base = 1
          · have h2 : R.allows = true := by
              by_cases h3 : R.allows = true
              · exact h3
              · exact absurd ⟨h1, by simpa using h3⟩ hbar
            rw [h2]; simp
          · simp [h1])
        rcases Decidable.em (base = 1) with hb1 | hb1
        case' inl =>
          have hbb : (base == 1) = true := by simp [hb1]
          have hal : R.allows = true := by
            by_cases h3 : R.allows = true
            · exact h3
            · exact absurd ⟨hb1, by simpa using h3⟩ hbar
          rw [hal] at c6
          clear hb1 hbar hal
          go_wp2_with (fail)
        case' inr =>
          have hbb : (base == 1) = false := by simp [hb1]
          clear hb1 hbar
          go_wp2_with (fail)
        all_goals
          refine calls_name ?_
          intro w3 hw3
          have hE3 : Ext2 wr w3 := by rw [hw3]; exact below_alloc' _ _
          refine (waitM_any ((HWr.out.ext hE3).vlt_ HS.out) HC.out hr hlt HT.out).mono ?_
          rintro e w4 ⟨rfl, hb4⟩
          have HW4 := Lib.hid ((HWr.out.ext hE3).ext hb4)
          have Z13 := Lib.hid (Ext2.blk hb4 (Ext2.blk hE3 Y13.out))
          have HSD4 : Hid (Sd w0.heap.size SrT W w4) := Lib.hid (HSD.out.trans (Sd.ext (ext_trans hE3 hb4) HWr.out.bel.size))
          clear hw3 hE3
          obtain ⟨ow, how⟩ : ∃ o, o = waitV S room k t := ⟨_, rfl⟩
          rw [← how]
          have HOW := Lib.hid how
          clear how hb4 hbb qbc qbf qac qaf qtc qtf cg1 c0 c1 c2 c3 c4 c5 c6 c7 c8 c9 lb lba nb nba lg ng l13 n13' i0 i1
          cases ow
          case none =>
            simp only [waitR]
            go_wp2_with (fail)
            go_roundw
            case rel => exact ⟨k + 1, by go_num, by omega, blk_alloc Z13.out _, HSD4.out.trans (Sd.alloc _ HW4.out.bel.size), gn, cn, ky, by rw [srK_succ, srStep_none HOW.out.symm]; exact HW4.out.ext (below_alloc' _ _)⟩
            case measure => simp [intOf]; omega
          case some p =>
            obtain ⟨n, u⟩ := p
            simp only [waitR]
            have hnu : n ≤ 500 ∧ TIn u := by
              have h1 := HOW.out.symm
              unfold waitV at h1
              have h2 := waitF_in HC.out.rates (HC.out.room hr).1 501 0 HT.out h1
              exact ⟨by omega, h2.1⟩
            obtain ⟨hn5, hui⟩ := hnu
            have HUI := Lib.hid hui
            have hstk : StOk (srK S base to m' been now t room sum st k) := srK_ok HST.out hs0 (by have := HM'.out; omega) (by have := HM'.out; omega)
            obtain ⟨stk, hsk⟩ : ∃ z, z = srK S base to m' been now t room sum st k := ⟨_, rfl⟩
            rw [← hsk] at hstk
            have HSTK := Lib.hid hstk
            have HSK := Lib.hid hsk
            have HW4' := HW4.out
            rw [← hsk] at HW4'
            have HW5 := Lib.hid HW4'
            have xn := HW4'.nowB
            have ln := blk_lt xn
            have nn : ¬ x.n = w4.heap.size := by omega
            clear hui hstk hsk HW4'
            have qnc := cell_blk xn
            have qnf := frz_blk xn
            have HW6 := Lib.hid (HW5.out.ext (below_alloc' w4 (Obj.cells #[.int .i64 u.lo, .int .i64 u.hi] 25)))
            have hsz : w0.heap.size ≤ ((w4.alloc (Obj.cells #[.int .i64 u.lo, .int .i64 u.hi] 25)).alloc (.cells #[.int .i64 (room : Int), .int .i64 (n : Int)] 44 (0, 0))).heap.size := by have := HW5.out.bel.size; simp only [World.size_alloc]; omega
            have hnle : now.length ≤ 1000000000 := by omega
            have hmw : IntKind.i64.wrap ((m : Int) - 1) = (m' : Int) := by rw [IntWalk.i64_in _ (by have := HM'.out; omega)]; have := HM'.out; omega
            have hsw : IntKind.i64.wrap (sum + (n : Int)) = sum + (n : Int) := IntWalk.i64_in _ (by omega)
            have nn2 : ¬ w4.heap.size = x.n := by omega
            have nf1 : ¬ x.n = x.f := by omega
            have nf2 : ¬ x.f = x.n := by omega
            go_wp2_with (at_builtin; refine app_one_at [.int .i64 (room : Int), .int .i64 (n : Int)] elSty rfl _ _ rfl w0.heap.size rfl (HW6.out.nowO.below (below_alloc' _ _)) _ 1 rfl (blk_new' _ _ (by simp)) (by simp [Value.oneCell']) hnle hsz ?_; intro v1 w6 hO6 hg6 hw6; obtain ⟨g1, c1, hv1, -⟩ := own_some hO6 (by omega); subst hv1; have HO6 := Lib.hid hO6; have HG6 := Lib.hid (srchRow hg6); have HD6 := Lib.hid (srchNew hw6); clear hO6 hg6 hw6; have x6 := app_blk HW6.out.nowO HG6.out HW6.out.nowB (by decide); have q6c := cell_blk x6; have q6f := frz_blk x6; have xf6 := app_blk HW6.out.nowO HG6.out HW6.out.srch (by decide); unfold bxPtrs at xf6; have qfc := cell_blk xf6; have qff := frz_blk xf6; have x20 := app_blk HW6.out.nowO HG6.out (blk_new w4 (Obj.cells #[.int .i64 u.lo, .int .i64 u.hi] 25)) (by decide); have q20c := cell_blk x20; have q20f := frz_blk x20; clear x6 xf6 x20)
            have Z136 := Lib.hid (app_blk HW6.out.nowO HG6.out (blk_alloc Z13.out _) (by decide))
            have HPS := Lib.hid (SrW.push HW6.out HX.out (a := ⟨(room : Int), (n : Int)⟩) HG6.out HO6.out HD6.out)
            have HPD := Lib.hid (HSD4.out.trans ((Sd.alloc (Obj.cells #[.int .i64 u.lo, .int .i64 u.hi] 25) HW5.out.bel.size).trans (HW6.out.push_sd HX.out HG6.out (.slice (some ⟨g1, 0, none⟩) (now.length + 1) c1))))
            refine (HIH.out m' HM'.out HPS.out hlt HCB.out.symm HUI.out (by omega) (by have := HM'.out; omega) (by rw [List.length_append, List.length_singleton]; have := HM'.out; omega) HSTK.out).mono ?_
            rintro e w7 ⟨rfl, hsd7, g2, c2, ky2, h7⟩
            have HW7 := Lib.hid h7
            have HSD7 := Lib.hid (HPD.out.trans hsd7)
            have Z137 := Lib.hid (hsd7.keep _ _ _ _ (blk_set_ne Z136.out (by omega)) (by decide))
            have xn7 := h7.nowB
            rw [List.length_append, List.length_singleton] at xn7
            have hle7 : now.length ≤ c2 := by
              rcases h7.nowO.forms with ⟨h0, -⟩ | ⟨g, cap, h0, -, hle, -⟩
              · cases h0
              · cases h0; rw [List.length_append, List.length_singleton] at hle; omega
            have hle8 : (now.length : Int) ≤ (c2 : Int) := by omega
            have w7' : IntKind.i64.wrap (now.length : Int) = (now.length : Int) := IntWalk.i64_in _ (by omega)
            have w8' : IntKind.i64.wrap (((now.length + 1 : Nat) : Int) - 1) = (now.length : Int) := by rw [IntWalk.i64_in _ (by omega)]; omega
            have i9 : (0 : Int) ≤ (now.length : Int) := by omega
            clear h7 hsd7 q6c q6f qfc qff q20c q20f qnc qnf nn nn2 nf1 nf2 ln
            have qnc := cell_blk xn7
            have qnf := frz_blk xn7
            clear xn7
            go_wp2_with (fail)
            exact ⟨⟨k + 1, by go_num, by omega, blk_set_ne Z137.out (by omega), HSD7.out.trans (HW7.out.pop_sd HX.out _), g2, c2, ky2, by rw [srK_succ, srStep_some HBAR.out HOW.out.symm, ← HSK.out]; exact HW7.out.pop HX.out⟩, by simp [intOf]; omega⟩
      · obtain rfl : k = S.rooms.length := by omega
        have r1 : ¬ (S.rooms.length : Int) < (S.rooms.length : Int) := by omega
        have xb := HWr.out.beenB
        have cg := HWr.out.beenO.cell1 hr
        have cg1 := cg.1; have cg2 := cg.2.1
        have i0 : (0 : Int) ≤ (room : Int) := by omega
        have i1 : (room : Int) < (S.rooms.length : Int) := by omega
        have qbc := cell_blk xb
        have qbf := frz_blk xb
        clear xb cg
        go_wp2_with (fail)
        go_end0
        refine ⟨rfl, HSD.out.trans (HWr.out.mark_sd HX.out _ _), gn, cn, ky, ?_⟩
        rw [HM'.out, srch_on HNP.out HRT.out]
        refine HWr.out.mark HX.out hr (fun i _ => ?_)
        by_cases hir : i = room
        · rw [if_pos hir, hir]; exact HBR.out
        · rw [if_neg hir, List.contains_cons]; simp [hir]
theorem srch_any {w0 : World} {S : Site} {s : SSl} {base : Int} {to : Nat} {x : Bx} (hS : SiteAt w0 S s) (hC : Chk S) (hx : BxOk w0.heap.size x) (hto : to < S.rooms.length) : ∀ m, SrC w0 S s base to x m
  | 0 => srch_lev hS hC hx hto (fun m' h => by omega)
  | m + 1 => srch_lev hS hC hx hto (fun m' h => by obtain rfl : m = m' := by omega
                                                   exact srch_any hS hC hx hto m)
end Go.Proofs.YtkidicfpfknfoaaDoor
