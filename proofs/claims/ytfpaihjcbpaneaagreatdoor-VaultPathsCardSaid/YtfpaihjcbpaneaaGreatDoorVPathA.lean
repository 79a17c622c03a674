/-
  The search of Path.
  asked: the error of a site, a temperature and some rooms.
  Path: the fastest way.
  Wait: for how many hours a can has to stay in a room, until it does not sweat in another one.
  Sweats: does a can sweat in a room, surely and perhaps?
  Warm: the temperature of a can after some hours in a room.
  Near: the rooms that are too near.
-/
import Derived.Test.YtfpaihjcbpaneaaGreatDoorVPthA
import Derived.Test.YtfpaihjcbpaneaaGreatDoorVCheck
import Derived.Test.YtfpaihjcbpaneaaGreatDoorVAirA
namespace Go.Proofs.YtfpaihjcbpaneaaGreatDoor
open Go.RowKit D
set_option linter.unusedVariables false
set_option linter.unusedSimpArgs false
attribute [local go_sem high] run_minI run_maxI
attribute [local go_sem] upon2 cls_cell cls_frozen forall_const exists_eq_left'
attribute [local go_sem] FirstUpon at2_cell at2_cell'
theorem elSty : Elem Tryz.prog 51 93 (.agg #[.int .i64 0, .int .i64 0]) 2 16 := ⟨by kernel_rfl, by kernel_rfl, rfl, by omega, by omega⟩
/-- What the search does. -/
def SrC (w0 : World) (S : Site) (s : SSl) (base : Int) (to : Nat) (x : Bx) (m : Nat) : Prop :=
  ∀ {been : List Nat} {now : List Sty} {t : Span} {room : Nat} {sum : Int} {st : Int × List Sty} {gn cn : Nat} {ky : Sl} {W : World}, SrW w0 S s base to x been now st gn cn ky W → room < S.rooms.length → been.contains room = false → TIn t → 0 ≤ sum → sum + 500 * m ≤ 5000 → now.length + m ≤ 5 → StOk st →
    Calls Tryz.prog 50 #[.agg #[.int .i64 t.lo, .int .i64 t.hi], .int .i64 (room : Int), .int .i64 sum, .int .i64 (m : Int), .pointer (some ⟨x.h, 0, none⟩), .pointer (some ⟨x.t, 0, none⟩), .pointer (some ⟨x.n, 0, none⟩), .pointer (some ⟨x.y, 0, none⟩), .pointer (some ⟨x.b, 0, none⟩), .pointer (some ⟨x.s, 0, none⟩), .pointer (some ⟨x.ba, 0, none⟩), .pointer (some ⟨x.v, 0, none⟩), .pointer (some ⟨x.f, 0, none⟩)] W
      fun e W' => e = .returned (.tuple #[]) ∧ Sd w0.heap.size SrT W W' ∧ ∃ gn' cn' ky', SrW w0 S s base to x been now (srch S base to m been now t room sum st) gn' cn' ky' W'
theorem srchRow {w w' : World} {gn n cn : Nat} (h : w.grownBy w' (Value.slice (some ⟨gn, 0, none⟩) n cn).ownBlock) : w.grownBy w' (some gn) := h
theorem srchNew {w : World} {g n c gn n' cn : Nat} (h : (Value.slice (some ⟨g, 0, none⟩) n c).ownBlock = (Value.slice (some ⟨gn, 0, none⟩) n' cn).ownBlock ∨ (Value.slice (some ⟨g, 0, none⟩) n c).ownBlock = some w.heap.size) : g = gn ∨ g = w.heap.size := by
  rcases h with h | h
  · exact .inl (Option.some.inj h)
  · exact .inr (Option.some.inj h)
theorem ext_grown {W3 w w' : World} {row : Option Nat} (h : Ext2 W3 w) (hg : w.grownBy w' row) (hr : ∀ k, row = some k → W3.heap.size ≤ k) : Ext2 W3 w' := by
  refine ⟨hg.os.trans h.os, hg.tape.trans h.tape, hg.output.trans h.output, Nat.le_trans h.size hg.size, fun k hk => ?_⟩
  rw [hg.block k (Nat.lt_of_lt_of_le hk h.size) ?_, h.block k hk]
  intro he
  have := hr k he.symm
  omega
theorem syC_one {l : List Sty} {x : Sty} {i j : Nat} (hi : i < l.length + 1) (hj : j < 2) : upd (syC l) l.length [.int .i64 x.room, .int .i64 x.hours] i j = syC (l ++ [x]) i j := by
  by_cases h : i = l.length
  · subst h
    rw [upd_at]
    have e : syD (l ++ [x]) l.length = x := by simp [syD]
    rcases (by omega : j = 0 ∨ j = 1) with rfl | rfl <;> simp [syC, e]
  · rw [upd_lt (by omega)]
    have e : syD (l ++ [x]) i = syD l i := by unfold syD; rw [List.getD_eq_getElem?_getD, List.getD_eq_getElem?_getD, List.getElem?_append_left (by omega)]
    rcases (by omega : j = 0 ∨ j = 1) with rfl | rfl <;> simp [syC, e]
theorem syC_cell (l : List Sty) (i j : Nat) : (syC l i j).oneCell' = true := by
  unfold syC; split <;> rfl
theorem now_rows {w0 W : World} {S : Site} {s : SSl} {base : Int} {to : Nat} {x : Bx} {been : List Nat} {now : List Sty} {st : Int × List Sty} {gn cn : Nat} {ky : Sl} (h : SrW w0 S s base to x been now st gn cn ky W) : ∀ i j, i < now.length → j < 2 → W.cell? ⟨gn, 0 + i * 2 + j, none⟩ = some (syC now i j) := by
  rcases h.nowO.forms with ⟨h0, -⟩ | ⟨g, cap, h0, -, -, -, hr, -⟩
  · cases h0
  · cases h0; exact hr.2
set_option maxRecDepth 100000 in
set_option maxHeartbeats 8000000 in
theorem srch_lev {w0 : World} {S : Site} {s : SSl} {base : Int} {to : Nat} {x : Bx} {m : Nat} (hS : SiteAt w0 S s) (hC : Chk S) (hx : BxOk w0.heap.size x) (hto : to < S.rooms.length) (ih : ∀ m', m = m' + 1 → SrC w0 S s base to x m') : SrC w0 S s base to x m := by
  intro been now t room sum st gn cn ky W hW hr hbr ht hs0 hs1 hnl hst
  have HS := Lib.hid hS; have HC := Lib.hid hC; have HX := Lib.hid hx; have HIH := Lib.hid ih; have HW := Lib.hid hW; have HBR := Lib.hid hbr; have HT := Lib.hid ht; have HST := Lib.hid hst
  have hrl := hS.rm.le; have hrm := hS.rm.max
  obtain ⟨o1, o2, o3, o4, o5, o6, o7, o8, o9, o10⟩ := hx
  clear hS hC ih hW hbr ht hst
  have xh := HW.out.hours; have xt := HW.out.to_
  obtain ⟨hI, hhI⟩ : ∃ h, h = st.1 := ⟨_, rfl⟩
  rw [← hhI] at xh
  have HHI := Lib.hid hhI
  have lh := blk_lt xh; have lt_ := blk_lt xt; have lf := blk_lt HW.out.srch
  have nh : ¬ x.h = W.heap.size := by omega
  have nt : ¬ x.t = W.heap.size := by omega
  clear hhI
  have qhc := cell_blk xh
  have qhf := frz_blk xh
  have qtc := cell_blk xt
  have qtf := frz_blk xt
  clear xh xt
  have HE1 : Hid (Ext2 W (W.alloc (Obj.cells #[.int .i64 t.lo, .int .i64 t.hi] 25))) := Lib.hid (below_alloc' _ _)
  by_cases hpr : 0 ≤ hI ∧ hI ≤ sum
  · obtain ⟨hp1, hp2⟩ := hpr
    have hd1 : decide (0 ≤ hI) = true := decide_eq_true hp1
    have hd2 : decide (hI ≤ sum) = true := decide_eq_true hp2
    have HPR : Hid (0 ≤ st.1 ∧ st.1 ≤ sum) := Lib.hid (by rw [← HHI.out]; exact ⟨hp1, hp2⟩)
    go_enter Tryz.func50, Tryz.ntmps50
    go_wp2_with (fail)
    refine bodyPost_ret (v := .tuple #[]) ?_ rfl ⟨rfl, Sd.ext HE1.out HW.out.bel.size, gn, cn, ky, by rw [srch_pruned HPR.out]; exact HW.out.ext HE1.out⟩
    simp [results, Tryz.results50, go_sem]
  have HNP : Hid (¬ (0 ≤ st.1 ∧ st.1 ≤ sum)) := Lib.hid (by rw [← HHI.out]; exact hpr)
  rcases (show hI < 0 ∨ (0 ≤ hI ∧ sum < hI) by omega) with hp | ⟨hp1, hp2⟩
  case' inl =>
    have hd1 : decide (0 ≤ hI) = false := decide_eq_false (by omega)
    have hd0 : ¬ 0 ≤ hI := by omega
  case' inr =>
    have hd1 : decide (0 ≤ hI) = true := decide_eq_true hp1
    have hd2 : decide (hI ≤ sum) = false := decide_eq_false (by omega)
    have hd0 : ¬ hI ≤ sum := by omega
  all_goals
    clear hpr
    by_cases hrt : room = to
    · have hb : ((room : Int) == (to : Int)) = true := by simp [hrt]
      have HRT := Lib.hid hrt
      clear hrt
      rcases Nat.eq_zero_or_pos m with hm0 | hm0
      · have hm1 : ((m : Int) == 0) = true := by simp [hm0]
        have HM0 := Lib.hid hm0
        clear hm0
        go_enter Tryz.func50, Tryz.ntmps50
        go_wp2_with (fail)
        refine wp_name ?_
        intro w2 hw2
        have hE2 : Ext2 W w2 := by rw [hw2]; exact HE1.out
        have HE1 := Lib.hid hE2
        have HW2 := Lib.hid (HW.out.ext hE2)
        have xn := HW2.out.nowB; have xt := HW2.out.to_
        clear hw2 hE2
        haveI hcls := At2.ne xn xt
        refine region_tree (At2 x.n #[.slice (some ⟨gn, 0, none⟩) now.length cn] 51 x.t #[.int .i64 (to : Int)] 3) [0, 2, 4, 5] (.two 1 (.two 3 (.one 6 (.one 7 (.one 8 (.one 9 .leaf)))) 6 (.one 3 (.one 7 (.one 8 (.one 9 .leaf))))) 6 (.one 1 (.one 3 (.one 7 (.one 8 (.one 9 .leaf)))))) (At2.ext xn xt) (by kernel_rfl) (by kernel_rfl) (by intro c a d v w h; cases d <;> exact h) ?_
        simp only [picks, List.drop_succ_cons, List.drop_zero]
        repeat ((with_reducible refine wpQS_step (fun K hK => ?_)); go_simp; ((with_reducible refine hK _ ?_); clear hK K))
        (with_reducible refine wpQS_nil ?_)
        intro W3 hW3
        have HE3 := Lib.hid hW3
        have HW3 := Lib.hid (HW2.out.ext hW3)
        have ZN := Lib.hid (Ext2.blk hW3 xn); have ZT := Lib.hid (Ext2.blk hW3 xt)
        have HE0 := Lib.hid (Ext2.refl W3)
        clear hcls xn xt hW3 qhc qhf qtc qtf
        refine wpT_two ?p1 ?p6
        case p1 =>
          simp only [picks, List.drop_succ_cons, List.drop_zero]
          go_wp2_with (fail)
          refine and_name (fun wa hwa => ?_)
          have hxwa : Ext2 W3 wa := by rw [hwa]; exact below_alloc' _ _
          obtain ⟨e5, he5⟩ : ∃ n, n = W3.heap.size := ⟨_, rfl⟩
          have ne5 : wa.heap[e5]? = some (.cells #[] 93 (0, 0)) := by rw [hwa, he5]; exact blk_new _ _
          have HEa := Lib.hid (ext_trans HE0.out hxwa)
          have le5 : W3.heap.size ≤ e5 := by rw [he5]; exact HE0.out.size
          rw [← he5]
          clear hwa he5
          refine ⟨⟨Ext2.blk HEa.out ZN.out, Ext2.blk HEa.out ZT.out⟩, ?_⟩
          refine wpT_two ?q3 ?q6
          case q3 =>
            simp only [picks, List.drop_succ_cons, List.drop_zero]
            refine app_rows_at elSty (c2 := syC now) rfl _ _ rfl W3.heap.size rfl (own_empty (c := syC now) ne5 le5) gn 0 now.length cn rfl (now_rows (HW3.out.ext HEa.out)) (syC_cell now) (by omega) HEa.out.size (fun i j hi _ => absurd hi (Nat.not_lt_zero i)) (fun i j _ _ => by rw [Nat.zero_add]) ?_
            intro v3 wb hO3 hg3 _
            have HEb := Lib.hid (ext_grown HEa.out hg3 (fun k hk => by have h0 : some e5 = some k := hk; have := Option.some.inj h0; omega))
            rw [Nat.zero_add] at hO3
            have HO3 := Lib.hid hO3
            clear hO3 hg3
            refine wpList_nil ?_
            refine ⟨⟨Ext2.blk HEb.out ZN.out, Ext2.blk HEb.out ZT.out⟩, ?_⟩
            refine wpT_one ?_
            simp only [picks, List.drop_succ_cons, List.drop_zero]
            go_wp2_with (fail)
            refine and_name (fun wc hwc => ?_)
            have hxwc : Ext2 wb wc := by rw [hwc]; exact below_alloc' _ _
            obtain ⟨b6, hb6⟩ : ∃ n, n = wb.heap.size := ⟨_, rfl⟩
            have na6 : wc.heap[b6]? = some (.cells #[.int .i64 (to : Int), .int .i64 0] 93 (0, 0)) := by rw [hwc, hb6]; exact blk_new _ _
            have HEc := Lib.hid (ext_trans HEb.out hxwc)
            rw [← hb6]
            clear hwc hb6
            refine ⟨⟨Ext2.blk HEc.out ZN.out, Ext2.blk HEc.out ZT.out⟩, ?_⟩
            have HO3b := Lib.hid (HO3.out.below hxwc)
            refine wpT_one ?_
            simp only [picks, List.drop_succ_cons, List.drop_zero]
            refine app_one_at [.int .i64 (to : Int), .int .i64 0] elSty rfl _ _ rfl W3.heap.size rfl HO3b.out b6 1 rfl na6 (by simp [Value.oneCell']) (by omega) HEc.out.size ?_
            intro v4 wq hO4 hg4 _
            have HEq := Lib.hid (ext_grown HEc.out hg4 (own_block HO3b.out))
            obtain ⟨g4, c4, hv4, hle4, -⟩ := own_some hO4 (by omega)
            subst hv4
            have HO4 := Lib.hid hO4
            clear hO4 hg4
            refine wpList_nil ?_
            refine ⟨⟨Ext2.blk HEq.out ZN.out, Ext2.blk HEq.out ZT.out⟩, wpT_one ?_⟩
            have HWq := Lib.hid (HW3.out.ext HEq.out)
            have xh := HWq.out.hours; have xy := HWq.out.stays
            have nhy : ¬ x.h = x.y := by omega
            have nyh : ¬ x.y = x.h := by omega
            have qhc := cell_blk xh
            have qhf := frz_blk xh
            have qyc := cell_blk xy
            have qyf := frz_blk xy
            clear xh xy
            simp only [picks, List.drop_succ_cons, List.drop_zero]
            go_wp2_with (fail)
            refine ⟨⟨blk_set_ne (Ext2.blk HEq.out ZN.out) (by omega), blk_set_ne (Ext2.blk HEq.out ZT.out) (by omega)⟩, wpT_one ?_⟩
            simp only [picks, List.drop_succ_cons, List.drop_zero]
            go_wp2_with (fail)
            refine ⟨⟨blk_set_ne (blk_set_ne (Ext2.blk HEq.out ZN.out) (by omega)) (by omega), blk_set_ne (blk_set_ne (Ext2.blk HEq.out ZT.out) (by omega)) (by omega)⟩, wpT_leaf ?_⟩
            go_wp2_with (fail)
            have hgl : g4 ≠ gn := by
              rcases HW3.out.nowO.forms with ⟨h0, -⟩ | ⟨g, cap, h0, -, -, -, hr4, -⟩
              · cases h0
              · cases h0; have := hr4.1; omega
            have hOf : OwnR wq w0.heap.size 93 2 (.slice (some ⟨g4, 0, none⟩) (now ++ [(⟨(to : Int), 0⟩ : Sty)]).length c4) (now ++ [(⟨(to : Int), 0⟩ : Sty)]).length (syC (now ++ [(⟨(to : Int), 0⟩ : Sty)])) := by
              rw [List.length_append, List.length_singleton]
              exact (HO4.out.base HW3.out.bel.size).congr fun i j hi hj => syC_one (x := ⟨(to : Int), 0⟩) hi hj
            have hbs := HWq.out.best HX.out (sum := sum) hOf hgl
            rw [List.length_append, List.length_singleton] at hbs
            refine bodyPost_ret (v := .tuple #[]) ?_ rfl ⟨rfl, (Sd.ext (ext_trans HE1.out (ext_trans HE3.out HEq.out)) HW.out.bel.size).trans (HWq.out.best_sd HX.out _ _), gn, cn, ⟨some ⟨g4, 0, none⟩, c4⟩, ?_⟩
            · simp [results, Tryz.results50, go_sem]
            rw [HM0.out, srch_end HNP.out, if_pos HRT.out]
            exact hbs
          case q6 =>
            simp only [picks, List.drop_succ_cons, List.drop_zero]
            go_wp2_with (fail)
            refine and_name (fun wb hwb => ?_)
            have hxwb : Ext2 wa wb := by rw [hwb]; exact below_alloc' _ _
            obtain ⟨b6, hb6⟩ : ∃ n, n = wa.heap.size := ⟨_, rfl⟩
            have na6 : wb.heap[b6]? = some (.cells #[.int .i64 (to : Int), .int .i64 0] 93 (0, 0)) := by rw [hwb, hb6]; exact blk_new _ _
            have HEb := Lib.hid (ext_trans HEa.out hxwb)
            rw [← hb6]
            have hbe : b6 ≠ e5 := by rw [hb6]; exact fun h => by have := blk_lt ne5; omega
            clear hwb hb6
            refine ⟨⟨Ext2.blk HEb.out ZN.out, Ext2.blk HEb.out ZT.out⟩, ?_⟩
            have ne6 := Ext2.blk hxwb ne5
            refine wpT_one ?_
            simp only [picks, List.drop_succ_cons, List.drop_zero]
            refine app_rows_at elSty (c2 := syC now) rfl _ _ rfl W3.heap.size rfl (own_empty (c := syC now) ne6 le5) gn 0 now.length cn rfl (now_rows (HW3.out.ext HEb.out)) (syC_cell now) (by omega) HEb.out.size (fun i j hi _ => absurd hi (Nat.not_lt_zero i)) (fun i j _ _ => by rw [Nat.zero_add]) ?_
            intro v3 wc hO3 hg3 _
            have HEc := Lib.hid (ext_grown HEb.out hg3 (fun k hk => by have h0 : some e5 = some k := hk; have := Option.some.inj h0; omega))
            rw [Nat.zero_add] at hO3
            have HO3 := Lib.hid hO3
            have nb := Eq.trans (hg3.block _ (blk_lt na6) (by intro h0; have h1 : some b6 = some e5 := h0; have := Option.some.inj h1; omega)) na6
            clear hO3 hg3
            refine wpList_nil ?_
            refine ⟨⟨Ext2.blk HEc.out ZN.out, Ext2.blk HEc.out ZT.out⟩, ?_⟩
            refine wpT_one ?_
            simp only [picks, List.drop_succ_cons, List.drop_zero]
            refine app_one_at [.int .i64 (to : Int), .int .i64 0] elSty rfl _ _ rfl W3.heap.size rfl HO3.out b6 1 rfl nb (by simp [Value.oneCell']) (by omega) HEc.out.size ?_
            intro v4 wq hO4 hg4 _
            have HEq := Lib.hid (ext_grown HEc.out hg4 (own_block HO3.out))
            obtain ⟨g4, c4, hv4, hle4, -⟩ := own_some hO4 (by omega)
            subst hv4
            have HO4 := Lib.hid hO4
            clear hO4 hg4
            refine wpList_nil ?_
            refine ⟨⟨Ext2.blk HEq.out ZN.out, Ext2.blk HEq.out ZT.out⟩, wpT_one ?_⟩
            have HWq := Lib.hid (HW3.out.ext HEq.out)
            have xh := HWq.out.hours; have xy := HWq.out.stays
            have nhy : ¬ x.h = x.y := by omega
            have nyh : ¬ x.y = x.h := by omega
            have qhc := cell_blk xh
            have qhf := frz_blk xh
            have qyc := cell_blk xy
            have qyf := frz_blk xy
            clear xh xy
            simp only [picks, List.drop_succ_cons, List.drop_zero]
            go_wp2_with (fail)
            refine ⟨⟨blk_set_ne (Ext2.blk HEq.out ZN.out) (by omega), blk_set_ne (Ext2.blk HEq.out ZT.out) (by omega)⟩, wpT_one ?_⟩
            simp only [picks, List.drop_succ_cons, List.drop_zero]
            go_wp2_with (fail)
            refine ⟨⟨blk_set_ne (blk_set_ne (Ext2.blk HEq.out ZN.out) (by omega)) (by omega), blk_set_ne (blk_set_ne (Ext2.blk HEq.out ZT.out) (by omega)) (by omega)⟩, wpT_leaf ?_⟩
            go_wp2_with (fail)
            have hgl : g4 ≠ gn := by
              rcases HW3.out.nowO.forms with ⟨h0, -⟩ | ⟨g, cap, h0, -, -, -, hr4, -⟩
              · cases h0
              · cases h0; have := hr4.1; omega
            have hOf : OwnR wq w0.heap.size 93 2 (.slice (some ⟨g4, 0, none⟩) (now ++ [(⟨(to : Int), 0⟩ : Sty)]).length c4) (now ++ [(⟨(to : Int), 0⟩ : Sty)]).length (syC (now ++ [(⟨(to : Int), 0⟩ : Sty)])) := by
              rw [List.length_append, List.length_singleton]
              exact (HO4.out.base HW3.out.bel.size).congr fun i j hi hj => syC_one (x := ⟨(to : Int), 0⟩) hi hj
            have hbs := HWq.out.best HX.out (sum := sum) hOf hgl
            rw [List.length_append, List.length_singleton] at hbs
            refine bodyPost_ret (v := .tuple #[]) ?_ rfl ⟨rfl, (Sd.ext (ext_trans HE1.out (ext_trans HE3.out HEq.out)) HW.out.bel.size).trans (HWq.out.best_sd HX.out _ _), gn, cn, ⟨some ⟨g4, 0, none⟩, c4⟩, ?_⟩
            · simp [results, Tryz.results50, go_sem]
            rw [HM0.out, srch_end HNP.out, if_pos HRT.out]
            exact hbs
        case p6 =>
          simp only [picks, List.drop_succ_cons, List.drop_zero]
          go_wp2_with (fail)
          refine and_name (fun wa hwa => ?_)
          have hxwa : Ext2 W3 wa := by rw [hwa]; exact below_alloc' _ _
          obtain ⟨b6, hb6⟩ : ∃ n, n = W3.heap.size := ⟨_, rfl⟩
          have na5 : wa.heap[b6]? = some (.cells #[.int .i64 (to : Int), .int .i64 0] 93 (0, 0)) := by rw [hwa, hb6]; exact blk_new _ _
          have HEa := Lib.hid (ext_trans HE0.out hxwa)
          rw [← hb6]
          clear hwa hb6
          refine ⟨⟨Ext2.blk HEa.out ZN.out, Ext2.blk HEa.out ZT.out⟩, ?_⟩
          refine wpT_one ?_
          simp only [picks, List.drop_succ_cons, List.drop_zero]
          go_wp2_with (fail)
          refine and_name (fun wb hwb => ?_)
          have hxwb : Ext2 wa wb := by rw [hwb]; exact below_alloc' _ _
          obtain ⟨e5, he5⟩ : ∃ n, n = wa.heap.size := ⟨_, rfl⟩
          have ne5 : wb.heap[e5]? = some (.cells #[] 93 (0, 0)) := by rw [hwb, he5]; exact blk_new _ _
          have HEb := Lib.hid (ext_trans HEa.out hxwb)
          have le5 : W3.heap.size ≤ e5 := by rw [he5]; exact HEa.out.size
          rw [← he5]
          have hbe : b6 ≠ e5 := by rw [he5]; exact fun h => by have := blk_lt na5; omega
          clear hwb he5
          refine ⟨⟨Ext2.blk HEb.out ZN.out, Ext2.blk HEb.out ZT.out⟩, ?_⟩
          have na6 := Ext2.blk hxwb na5
          refine wpT_one ?_
          simp only [picks, List.drop_succ_cons, List.drop_zero]
          refine app_rows_at elSty (c2 := syC now) rfl _ _ rfl W3.heap.size rfl (own_empty (c := syC now) ne5 le5) gn 0 now.length cn rfl (now_rows (HW3.out.ext HEb.out)) (syC_cell now) (by omega) HEb.out.size (fun i j hi _ => absurd hi (Nat.not_lt_zero i)) (fun i j _ _ => by rw [Nat.zero_add]) ?_
          intro v3 wc hO3 hg3 _
          have HEc := Lib.hid (ext_grown HEb.out hg3 (fun k hk => by have h0 : some e5 = some k := hk; have := Option.some.inj h0; omega))
          rw [Nat.zero_add] at hO3
          have HO3 := Lib.hid hO3
          have nb := Eq.trans (hg3.block _ (blk_lt na6) (by intro h0; have h1 : some b6 = some e5 := h0; have := Option.some.inj h1; omega)) na6
          clear hO3 hg3
          refine wpList_nil ?_
          refine ⟨⟨Ext2.blk HEc.out ZN.out, Ext2.blk HEc.out ZT.out⟩, ?_⟩
          refine wpT_one ?_
          simp only [picks, List.drop_succ_cons, List.drop_zero]
          refine app_one_at [.int .i64 (to : Int), .int .i64 0] elSty rfl _ _ rfl W3.heap.size rfl HO3.out b6 1 rfl nb (by simp [Value.oneCell']) (by omega) HEc.out.size ?_
          intro v4 wq hO4 hg4 _
          have HEq := Lib.hid (ext_grown HEc.out hg4 (own_block HO3.out))
          obtain ⟨g4, c4, hv4, hle4, -⟩ := own_some hO4 (by omega)
          subst hv4
          have HO4 := Lib.hid hO4
          clear hO4 hg4
          refine wpList_nil ?_
          refine ⟨⟨Ext2.blk HEq.out ZN.out, Ext2.blk HEq.out ZT.out⟩, wpT_one ?_⟩
          have HWq := Lib.hid (HW3.out.ext HEq.out)
          have xh := HWq.out.hours; have xy := HWq.out.stays
          have nhy : ¬ x.h = x.y := by omega
          have nyh : ¬ x.y = x.h := by omega
          have qhc := cell_blk xh
          have qhf := frz_blk xh
          have qyc := cell_blk xy
          have qyf := frz_blk xy
          clear xh xy
          simp only [picks, List.drop_succ_cons, List.drop_zero]
          go_wp2_with (fail)
          refine ⟨⟨blk_set_ne (Ext2.blk HEq.out ZN.out) (by omega), blk_set_ne (Ext2.blk HEq.out ZT.out) (by omega)⟩, wpT_one ?_⟩
          simp only [picks, List.drop_succ_cons, List.drop_zero]
          go_wp2_with (fail)
          refine ⟨⟨blk_set_ne (blk_set_ne (Ext2.blk HEq.out ZN.out) (by omega)) (by omega), blk_set_ne (blk_set_ne (Ext2.blk HEq.out ZT.out) (by omega)) (by omega)⟩, wpT_leaf ?_⟩
          go_wp2_with (fail)
          have hgl : g4 ≠ gn := by
            rcases HW3.out.nowO.forms with ⟨h0, -⟩ | ⟨g, cap, h0, -, -, -, hr4, -⟩
            · cases h0
            · cases h0; have := hr4.1; omega
          have hOf : OwnR wq w0.heap.size 93 2 (.slice (some ⟨g4, 0, none⟩) (now ++ [(⟨(to : Int), 0⟩ : Sty)]).length c4) (now ++ [(⟨(to : Int), 0⟩ : Sty)]).length (syC (now ++ [(⟨(to : Int), 0⟩ : Sty)])) := by
            rw [List.length_append, List.length_singleton]
            exact (HO4.out.base HW3.out.bel.size).congr fun i j hi hj => syC_one (x := ⟨(to : Int), 0⟩) hi hj
          have hbs := HWq.out.best HX.out (sum := sum) hOf hgl
          rw [List.length_append, List.length_singleton] at hbs
          refine bodyPost_ret (v := .tuple #[]) ?_ rfl ⟨rfl, (Sd.ext (ext_trans HE1.out (ext_trans HE3.out HEq.out)) HW.out.bel.size).trans (HWq.out.best_sd HX.out _ _), gn, cn, ⟨some ⟨g4, 0, none⟩, c4⟩, ?_⟩
          · simp [results, Tryz.results50, go_sem]
          rw [HM0.out, srch_end HNP.out, if_pos HRT.out]
          exact hbs
      · have hm1 : ((m : Int) == 0) = false := by simp; omega
        obtain ⟨m', hm'⟩ : ∃ m', m = m' + 1 := ⟨m - 1, by omega⟩
        have HM' := Lib.hid hm'
        clear hm' hm0
        go_enter Tryz.func50, Tryz.ntmps50
        go_wp2_with (fail)
        refine bodyPost_ret (v := .tuple #[]) ?_ rfl ⟨rfl, Sd.ext HE1.out HW.out.bel.size, gn, cn, ky, by rw [HM'.out, srch_there HNP.out HRT.out]; exact HW.out.ext HE1.out⟩
        simp [results, Tryz.results50, go_sem]
    have hb : ((room : Int) == (to : Int)) = false := by simp; omega
    have HRT := Lib.hid hrt
    clear hrt
    rcases Nat.eq_zero_or_pos m with hm0 | hm0
    · have hm1 : ((m : Int) == 0) = true := by simp [hm0]
      have HM0 := Lib.hid hm0
      clear hm0
      go_enter Tryz.func50, Tryz.ntmps50
      go_wp2_with (fail)
      refine bodyPost_ret (v := .tuple #[]) ?_ rfl ⟨rfl, Sd.ext HE1.out HW.out.bel.size, gn, cn, ky, by rw [HM0.out, srch_end HNP.out, if_neg HRT.out]; exact HW.out.ext HE1.out⟩
      simp [results, Tryz.results50, go_sem]
    have hm1 : ((m : Int) == 0) = false := by simp; omega
    obtain ⟨m', hm'⟩ : ∃ m', m = m' + 1 := ⟨m - 1, by omega⟩
    have HM' := Lib.hid hm'
    clear hm' hm0
    have xb := HW.out.beenB
    have lb := blk_lt xb
    have nb : ¬ x.b = W.heap.size := by omega
    obtain ⟨cur, xg⟩ := ownR_cells HW.out.beenO (k := x.g) rfl
    have cg := HW.out.beenO.cell1 hr
    have cg1 := cg.1; have cg2 := cg.2.1
    have lg : x.g < W.heap.size := cg.2.2.1
    have ng : ¬ x.g = W.heap.size := by omega
    have i0 : (0 : Int) ≤ (room : Int) := by omega
    have i1 : (room : Int) < (S.rooms.length : Int) := by omega
    obtain ⟨bR, oR, haR, -⟩ := rm_cells HS.out.rm hr
    have xs := HW.out.site
    rw [haR] at xs
    have HAR := Lib.hid haR
    have ls := blk_lt xs
    have ns : ¬ x.s = W.heap.size := by omega
    have ngs : ¬ x.g = x.s := by omega
    have ngs' : ¬ x.s = x.g := by omega
    have qbc := cell_blk xb
    have qbf := frz_blk xb
    have qsc := cell_blk xs
    have qsf := frz_blk xs
    clear xb xs cg xg
    clear haR
    go_enter Tryz.func50, Tryz.ntmps50
    go_wp2_with (fail)
    refine wp_name ?_
    intro w2 hw2
    obtain ⟨n13, hn13⟩ : ∃ n, n = W.heap.size := ⟨_, rfl⟩
    have hW2 : SrW w0 S s base to x (room :: been) now st gn cn ky w2 := by
      rw [hw2]
      refine (SrW.mark HW.out HX.out hr (fun i _ => ?_)).ext (below_alloc' _ _)
      by_cases hir : i = room
      · rw [if_pos hir, hir]; simp
      · rw [if_neg hir, List.contains_cons]; simp [hir]
    have x13 : w2.heap[n13]? = some (Obj.cells #[.int .i64 t.lo, .int .i64 t.hi] 25) := by rw [hw2, hn13]; exact blk_new' _ _ (World.size_setCell _ _ _).symm
    have lf13 : x.f < n13 := by omega
    have HSD2 : Hid (Sd w0.heap.size SrT W w2) := Lib.hid (by rw [hw2]; exact (HW.out.mark_sd HX.out _ _).trans (Sd.alloc _ (by rw [World.size_setCell]; exact HW.out.bel.size)))
    have HW2 := Lib.hid hW2; have X13 := Lib.hid x13
    rw [← hn13]
    clear hw2 hW2 x13 hn13 HE1 HW lh lt_ lf nh nt lb nb lg ng ls ns qhc qhf qtc qtf qbc qbf qsc qsf cg1 cg2 i0 i1 hb hm1 hd0 hd1
    try clear hd2
    go_loopw [50] (fun z wr => ∃ k : Nat, z = .int .i64 (k : Int) ∧ k ≤ S.rooms.length ∧ wr.heap[n13]? = some (Obj.cells #[.int .i64 t.lo, .int .i64 t.hi] 25) ∧ Sd w0.heap.size SrT W wr ∧ ∃ gn cn ky, SrW w0 S s base to x (room :: been) now (srK S base to m' been now t room sum st k) gn cn ky wr) (fun z _ => S.rooms.length - (intOf z).toNat)
    case atStart => exact ⟨0, rfl, by omega, X13.out, HSD2.out, gn, cn, ky, HW2.out⟩
    case round =>
      obtain ⟨k, rfl, hk, x13, hsd, gn, cn, ky, hW⟩ := hrel
      have HWr := Lib.hid hW; have Y13 := Lib.hid x13; have HSD := Lib.hid hsd
      clear hW x13 hsd
      by_cases hlt : k < S.rooms.length
      · go_light
        obtain ⟨bR', oR', haR', c0, c1, c2, c3, c4, c5, c6, c7, c8, c9⟩ := rm_cells (HS.out.below HWr.out.bel).rm hlt
        have e := haR'
        rw [HAR.out] at e
        obtain ⟨rfl, rfl⟩ : bR = bR' ∧ oR = oR' := by simpa using e
        obtain ⟨R, hR⟩ : ∃ R, R = rmD S.rooms k := ⟨_, rfl⟩
        rw [← hR] at c0 c1 c2 c3 c4 c5 c6 c7 c8 c9
        have HR := Lib.hid hR
        clear e haR' hR
        have xb := HWr.out.beenB; have xba := HWr.out.base_
        have lb := blk_lt xb; have lba := blk_lt xba
        have nb : ¬ x.b = wr.heap.size := by omega
        have nba : ¬ x.ba = wr.heap.size := by omega
        have cgk := HWr.out.beenO.cell1 hlt
        have cg1 := cgk.1
        have lg : x.g < wr.heap.size := cgk.2.2.1
        have ng : ¬ x.g = wr.heap.size := by omega
        have y13 := Y13.out
        have l13 := blk_lt y13
        have n13' : ¬ n13 = wr.heap.size := by omega
        obtain ⟨cb, hcb⟩ : ∃ c, c = (room :: been).contains k := ⟨_, rfl⟩
        rw [← hcb] at cg1
        have HCB := Lib.hid hcb
        have i0 : (0 : Int) ≤ (k : Int) := by omega
        have i1 : (k : Int) < (S.rooms.length : Int) := by omega
        have w3' : IntKind.i64.wrap ((k : Int) + 1) = (k : Int) + 1 := IntWalk.i64_in _ (by omega)
        have HLT := Lib.hid hlt
        have HEr : Hid (Ext2 wr (wr.alloc (Obj.cells #[.string R.name, .int .i64 R.tlo, .int .i64 R.thi, .int .i64 R.dlo, .int .i64 R.dhi, .bool R.people, .bool R.allows, .int .i64 R.most, .int .i64 R.x, .int .i64 R.y] 74))) := Lib.hid (below_alloc' _ _)
        have qbc := cell_blk xb
        have qbf := frz_blk xb
        have qac := cell_blk xba
        have qaf := frz_blk xba
        have qtc := cell_blk y13
        have qtf := frz_blk y13
        clear xb xba y13 hcb cgk
        cases cb
        case true =>
          go_wp2_with (fail)
          go_roundw
          case rel => exact ⟨k + 1, by go_num, by omega, HEr.out.blk Y13.out, HSD.out.trans (Sd.ext HEr.out HWr.out.bel.size), gn, cn, ky, by rw [srK_succ, srStep_skip (by rw [← HCB.out]; rfl)]; exact HWr.out.ext HEr.out⟩
          case measure => simp [intOf]; omega
        by_cases hbar : base = 1 ∧ R.allows = false
        · obtain ⟨hb1, hb2⟩ := hbar
          have hbb : (base == 1) = true := by simp [hb1]
          have HBAR : Hid (barred S base k = true) := Lib.hid (by unfold barred; rw [← HR.out, hb1, hb2]; rfl)
          rw [hb2] at c6
          clear hb1
          go_wp2_with (fail)
          go_roundw
          case rel => exact ⟨k + 1, by go_num, by omega, by rw [← hb2]; exact HEr.out.blk Y13.out, by rw [← hb2]; exact HSD.out.trans (Sd.ext HEr.out HWr.out.bel.size), gn, cn, ky, by rw [srK_succ, srStep_skip (by rw [HBAR.out, Bool.or_true]), ← hb2]; exact HWr.out.ext HEr.out⟩
          case measure => simp [intOf]; omega
        have HBAR : Hid (((room :: been).contains k || barred S base k) = false) := Lib.hid (by
          rw [← HCB.out, Bool.false_or]
          unfold barred
          rw [← HR.out]
          by_cases h1 : base = 1
          · have h2 : R.allows = true := by
              by_cases h3 : R.allows = true
              · exact h3
              · exact absurd ⟨h1, by simpa using h3⟩ hbar
            rw [h2]; simp
          · simp [h1])
        rcases Decidable.em (base = 1) with hb1 | hb1
        case' inl =>
          have hbb : (base == 1) = true := by simp [hb1]
          have hal : R.allows = true := by
            by_cases h3 : R.allows = true
            · exact h3
            · exact absurd ⟨hb1, by simpa using h3⟩ hbar
          rw [hal] at c6
          clear hb1 hbar hal
          go_wp2_with (fail)
        case' inr =>
          have hbb : (base == 1) = false := by simp [hb1]
          clear hb1 hbar
          go_wp2_with (fail)
        all_goals
          refine calls_name ?_
          intro w3 hw3
          have hE3 : Ext2 wr w3 := by rw [hw3]; exact below_alloc' _ _
          refine (waitM_any ((HWr.out.ext hE3).vlt_ HS.out) HC.out hr hlt HT.out).mono ?_
          rintro e w4 ⟨rfl, hb4⟩
          have HW4 := Lib.hid ((HWr.out.ext hE3).ext hb4)
          have Z13 := Lib.hid (Ext2.blk hb4 (Ext2.blk hE3 Y13.out))
          have HSD4 : Hid (Sd w0.heap.size SrT W w4) := Lib.hid (HSD.out.trans (Sd.ext (ext_trans hE3 hb4) HWr.out.bel.size))
          clear hw3 hE3
          obtain ⟨ow, how⟩ : ∃ o, o = waitV S room k t := ⟨_, rfl⟩
          rw [← how]
          have HOW := Lib.hid how
          clear how hb4 hbb qbc qbf qac qaf qtc qtf cg1 c0 c1 c2 c3 c4 c5 c6 c7 c8 c9 lb lba nb nba lg ng l13 n13' i0 i1
          cases ow
          case none =>
            simp only [waitR]
            go_wp2_with (fail)
            go_roundw
            case rel => exact ⟨k + 1, by go_num, by omega, blk_alloc Z13.out _, HSD4.out.trans (Sd.alloc _ HW4.out.bel.size), gn, cn, ky, by rw [srK_succ, srStep_none HOW.out.symm]; exact HW4.out.ext (below_alloc' _ _)⟩
            case measure => simp [intOf]; omega
          case some p =>
            obtain ⟨n, u⟩ := p
            simp only [waitR]
            have hnu : n ≤ 500 ∧ TIn u := by
              have h1 := HOW.out.symm
              unfold waitV at h1
              have h2 := waitF_in HC.out.rates (HC.out.room hr).1 501 0 HT.out h1
              exact ⟨by omega, h2.1⟩
            obtain ⟨hn5, hui⟩ := hnu
            have HUI := Lib.hid hui
            have hstk : StOk (srK S base to m' been now t room sum st k) := srK_ok HST.out hs0 (by have := HM'.out; omega) (by have := HM'.out; omega)
            obtain ⟨stk, hsk⟩ : ∃ z, z = srK S base to m' been now t room sum st k := ⟨_, rfl⟩
            rw [← hsk] at hstk
            have HSTK := Lib.hid hstk
            have HSK := Lib.hid hsk
            have HW4' := HW4.out
            rw [← hsk] at HW4'
            have HW5 := Lib.hid HW4'
            have xn := HW4'.nowB
            have ln := blk_lt xn
            have nn : ¬ x.n = w4.heap.size := by omega
            clear hui hstk hsk HW4'
            have qnc := cell_blk xn
            have qnf := frz_blk xn
            have HW6 := Lib.hid (HW5.out.ext (below_alloc' w4 (Obj.cells #[.int .i64 u.lo, .int .i64 u.hi] 25)))
            have hsz : w0.heap.size ≤ ((w4.alloc (Obj.cells #[.int .i64 u.lo, .int .i64 u.hi] 25)).alloc (.cells #[.int .i64 (room : Int), .int .i64 (n : Int)] 93 (0, 0))).heap.size := by have := HW5.out.bel.size; simp only [World.size_alloc]; omega
            have hnle : now.length ≤ 1000000000 := by omega
            have hmw : IntKind.i64.wrap ((m : Int) - 1) = (m' : Int) := by rw [IntWalk.i64_in _ (by have := HM'.out; omega)]; have := HM'.out; omega
            have hsw : IntKind.i64.wrap (sum + (n : Int)) = sum + (n : Int) := IntWalk.i64_in _ (by omega)
            have nn2 : ¬ w4.heap.size = x.n := by omega
            have nf1 : ¬ x.n = x.f := by omega
            have nf2 : ¬ x.f = x.n := by omega
            go_wp2_with (at_builtin; refine app_one_at [.int .i64 (room : Int), .int .i64 (n : Int)] elSty rfl _ _ rfl w0.heap.size rfl (HW6.out.nowO.below (below_alloc' _ _)) _ 1 rfl (blk_new' _ _ (by simp)) (by simp [Value.oneCell']) hnle hsz ?_; intro v1 w6 hO6 hg6 hw6; obtain ⟨g1, c1, hv1, -⟩ := own_some hO6 (by omega); subst hv1; have HO6 := Lib.hid hO6; have HG6 := Lib.hid (srchRow hg6); have HD6 := Lib.hid (srchNew hw6); clear hO6 hg6 hw6; have x6 := app_blk HW6.out.nowO HG6.out HW6.out.nowB (by decide); have q6c := cell_blk x6; have q6f := frz_blk x6; have xf6 := app_blk HW6.out.nowO HG6.out HW6.out.srch (by decide); unfold bxPtrs at xf6; have qfc := cell_blk xf6; have qff := frz_blk xf6; have x20 := app_blk HW6.out.nowO HG6.out (blk_new w4 (Obj.cells #[.int .i64 u.lo, .int .i64 u.hi] 25)) (by decide); have q20c := cell_blk x20; have q20f := frz_blk x20; clear x6 xf6 x20)
            have Z136 := Lib.hid (app_blk HW6.out.nowO HG6.out (blk_alloc Z13.out _) (by decide))
            have HPS := Lib.hid (SrW.push HW6.out HX.out (a := ⟨(room : Int), (n : Int)⟩) HG6.out HO6.out HD6.out)
            have HPD := Lib.hid (HSD4.out.trans ((Sd.alloc (Obj.cells #[.int .i64 u.lo, .int .i64 u.hi] 25) HW5.out.bel.size).trans (HW6.out.push_sd HX.out HG6.out (.slice (some ⟨g1, 0, none⟩) (now.length + 1) c1))))
            refine (HIH.out m' HM'.out HPS.out hlt HCB.out.symm HUI.out (by omega) (by have := HM'.out; omega) (by rw [List.length_append, List.length_singleton]; have := HM'.out; omega) HSTK.out).mono ?_
            rintro e w7 ⟨rfl, hsd7, g2, c2, ky2, h7⟩
            have HW7 := Lib.hid h7
            have HSD7 := Lib.hid (HPD.out.trans hsd7)
            have Z137 := Lib.hid (hsd7.keep _ _ _ _ (blk_set_ne Z136.out (by omega)) (by decide))
            have xn7 := h7.nowB
            rw [List.length_append, List.length_singleton] at xn7
            have hle7 : now.length ≤ c2 := by
              rcases h7.nowO.forms with ⟨h0, -⟩ | ⟨g, cap, h0, -, hle, -⟩
              · cases h0
              · cases h0; rw [List.length_append, List.length_singleton] at hle; omega
            have hle8 : (now.length : Int) ≤ (c2 : Int) := by omega
            have w7' : IntKind.i64.wrap (now.length : Int) = (now.length : Int) := IntWalk.i64_in _ (by omega)
            have w8' : IntKind.i64.wrap (((now.length + 1 : Nat) : Int) - 1) = (now.length : Int) := by rw [IntWalk.i64_in _ (by omega)]; omega
            have i9 : (0 : Int) ≤ (now.length : Int) := by omega
            clear h7 hsd7 q6c q6f qfc qff q20c q20f qnc qnf nn nn2 nf1 nf2 ln
            have qnc := cell_blk xn7
            have qnf := frz_blk xn7
            clear xn7
            go_wp2_with (fail)
            exact ⟨⟨k + 1, by go_num, by omega, blk_set_ne Z137.out (by omega), HSD7.out.trans (HW7.out.pop_sd HX.out _), g2, c2, ky2, by rw [srK_succ, srStep_some HBAR.out HOW.out.symm, ← HSK.out]; exact HW7.out.pop HX.out⟩, by simp [intOf]; omega⟩
      · obtain rfl : k = S.rooms.length := by omega
        have r1 : ¬ (S.rooms.length : Int) < (S.rooms.length : Int) := by omega
        have xb := HWr.out.beenB
        have cg := HWr.out.beenO.cell1 hr
        have cg1 := cg.1; have cg2 := cg.2.1
        have i0 : (0 : Int) ≤ (room : Int) := by omega
        have i1 : (room : Int) < (S.rooms.length : Int) := by omega
        have qbc := cell_blk xb
        have qbf := frz_blk xb
        clear xb cg
        go_wp2_with (fail)
        go_end0
        refine ⟨rfl, HSD.out.trans (HWr.out.mark_sd HX.out _ _), gn, cn, ky, ?_⟩
        rw [HM'.out, srch_on HNP.out HRT.out]
        refine HWr.out.mark HX.out hr (fun i _ => ?_)
        by_cases hir : i = room
        · rw [if_pos hir, hir]; exact HBR.out
        · rw [if_neg hir, List.contains_cons]; simp [hir]
theorem srch_any {w0 : World} {S : Site} {s : SSl} {base : Int} {to : Nat} {x : Bx} (hS : SiteAt w0 S s) (hC : Chk S) (hx : BxOk w0.heap.size x) (hto : to < S.rooms.length) : ∀ m, SrC w0 S s base to x m
  | 0 => srch_lev hS hC hx hto (fun m' h => by omega)
  | m + 1 => srch_lev hS hC hx hto (fun m' h => by obtain rfl : m = m' := by omega
                                                   exact srch_any hS hC hx hto m)
end Go.Proofs.YtfpaihjcbpaneaaGreatDoor
namespace Go.Proofs.YtfpaihjcbpaneaaGreatDoor.D
def outR (S : Site) (n : Int) : Bool := outB n 0 ((S.rooms.length : Int) - 1)
def askE (S : Site) (t : Span) (l : List Int) : Int := if (checkV S).2.2 ≠ 0 then (checkV S).2.2 else if spanE t ≠ 0 then spanE t else if anyF (fun i => outR S (intD l i)) l.length then 4 else 0
theorem oddV_span (t : Span) : oddV t.lo t.hi (-300) 600 = spanE t := by
  unfold oddV spanE
  rw [outB_in, outB_in]
  cases inB t.lo (-300) 600 <;> cases inB t.hi (-300) 600 <;> simp
end Go.Proofs.YtfpaihjcbpaneaaGreatDoor.D
namespace Go.Proofs.YtfpaihjcbpaneaaGreatDoor
open Go.RowKit D
set_option linter.unusedVariables false
set_option linter.unusedSimpArgs false
attribute [local go_sem high] run_minI run_maxI
attribute [local go_sem] upon2 cls_cell cls_frozen forall_const exists_eq_left'
attribute [local go_sem] FirstUpon
set_option maxRecDepth 100000 in
set_option maxHeartbeats 8000000 in
theorem asked_any {S : Site} {s : SSl} {t : Span} {l : List Int} {sl : Sl} {w : World} (hS : SiteAt w S s) (hL : IntsS w sl l) (hm : MaxAt w) :
    Calls Tryz.prog 49 #[.agg #[.slice s.r.a S.rooms.length s.r.cap, .slice s.c.a S.cans.length s.c.cap, .int .i64 S.rlo, .int .i64 S.rhi, .slice s.p.a S.steps.length s.p.cap], .agg #[.int .i64 t.lo, .int .i64 t.hi], .slice sl.a l.length sl.cap] w fun e w' => e = .returned (.int .i64 (askE S t l)) ∧ Below w.heap.size w w' := by
  have HS := Lib.hid hS; have HL := Lib.hid hL; have HM := Lib.hid hm
  have hll := hL.le; have hlm := hL.max
  have hrl := hS.rm.le; have hrm := hS.rm.max
  obtain ⟨p1, p2, p3, hp⟩ : ∃ a b c, checkV S = (a, b, c) := ⟨_, _, _, rfl⟩
  have HP := Lib.hid hp
  clear hS hL hm hp
  go_enter Tryz.func49, Tryz.ntmps49
  go_wp2_with (fail)
  refine calls_name ?_
  intro w1 hw1
  obtain ⟨n3, hn3⟩ : ∃ n, n = w.heap.size := ⟨_, rfl⟩
  obtain ⟨n4, hn4⟩ : ∃ n, n = n3 + 1 := ⟨_, rfl⟩
  have hE1 : Ext2 w w1 := by rw [hw1]; exact ext_trans (below_alloc' _ _) (below_alloc' _ _)
  have x3 : w1.heap[n3]? = some (Obj.cells #[.slice s.r.a S.rooms.length s.r.cap, .slice s.c.a S.cans.length s.c.cap, .int .i64 S.rlo, .int .i64 S.rhi, .slice s.p.a S.steps.length s.p.cap] 28) := by rw [hw1, hn3]; exact blk_alloc (blk_new _ _) _
  have x4 : w1.heap[n4]? = some (Obj.cells #[.int .i64 t.lo, .int .i64 t.hi] 25) := by rw [hw1, hn4, hn3]; exact blk_new' _ _ (by simp)
  rw [← hn3, ← hn4]
  clear hw1 hn3 hn4
  refine (check_any (HS.out.below hE1) (HM.out.below hE1)).mono ?_
  rintro e w2 ⟨rfl, hb2⟩
  rw [HP.out]
  dsimp only
  have x3 := Ext2.blk hb2 x3; have x4 := Ext2.blk hb2 x4
  have X3 := Lib.hid x3; have X4 := Lib.hid x4; have HE2 := Lib.hid (ext_trans hE1 hb2)
  clear hb2 hE1 x3 x4
  by_cases hp3 : p3 = 0
  case neg =>
    have hd : (p3 != 0) = true := by simp [hp3]
    have HPN := Lib.hid hp3
    clear hp3
    go_wp2_with (fail)
    go_ret
    exact ⟨ret_int (by unfold askE; rw [HP.out, if_pos HPN.out]), HE2.out⟩
  subst hp3
  have hd : ((0 : Int) != 0) = false := rfl
  have x4 := X4.out
  have q4c := cell_blk x4
  have q4f := frz_blk x4
  clear x4
  go_wp2_with (fail)
  refine (odd_any _ _ _ _ _).mono ?_
  rintro e w3 ⟨rfl, hb3⟩
  rw [oddV_span]
  obtain ⟨x, hx⟩ : ∃ x, x = spanE t := ⟨_, rfl⟩
  rw [← hx]
  have HX := Lib.hid hx
  have HE3 := Lib.hid (ext_trans HE2.out hb3)
  have Y3 := Lib.hid (Ext2.blk hb3 X3.out)
  clear hb3 q4c q4f hx hd
  by_cases hx0 : x = 0
  case neg =>
    have hd : (x != 0) = true := by simp [hx0]
    have HXN := Lib.hid hx0
    clear hx0
    go_wp2_with (fail)
    go_ret
    exact ⟨ret_int (by unfold askE; rw [HP.out, if_neg (by simp), ← HX.out, if_pos HXN.out]), HE3.out⟩
  subst hx0
  have hd : ((0 : Int) != 0) = false := rfl
  go_wp2_with (fail)
  obtain ⟨la, lc⟩ := sl
  dsimp only at hll hlm
  clear hd
  go_loopw [6, 29] (fun f6 z wr => f6 = .int .i64 0 ∧ ∃ k : Nat, z = .int .i64 (k : Int) ∧ k ≤ l.length ∧ Ext2 w wr ∧ wr.heap[n3]? = some (Obj.cells #[.slice s.r.a S.rooms.length s.r.cap, .slice s.c.a S.cans.length s.c.cap, .int .i64 S.rlo, .int .i64 S.rhi, .slice s.p.a S.steps.length s.p.cap] 28) ∧ ∀ j, j < k → outR S (intD l j) = false) (fun _ z _ => l.length - (intOf z).toNat)
  case atStart => exact ⟨rfl, 0, rfl, by omega, HE3.out, Y3.out, fun j h => absurd h (by omega)⟩
  case round =>
    obtain ⟨rfl, k, rfl, hk, hB, x3, hall⟩ := hrel
    have HA := Lib.hid hall; have HB := Lib.hid hB; have Z3 := Lib.hid x3
    clear hall hB
    by_cases hlt : k < l.length
    · go_light
      obtain ⟨b, off, h1, y0⟩ := int_cell (HL.out.below HB.out) hlt
      dsimp only at h1
      subst h1
      have i0 : (0 : Int) ≤ (k : Int) := by omega
      have i1 : (k : Int) < (l.length : Int) := by omega
      have w3' : IntKind.i64.wrap ((k : Int) + 1) = (k : Int) + 1 := IntWalk.i64_in _ (by omega)
      have w5' : IntKind.i64.wrap ((S.rooms.length : Int) - 1) = (S.rooms.length : Int) - 1 := IntWalk.i64_in _ (by omega)
      obtain ⟨v, hv⟩ : ∃ v, v = intD l k := ⟨_, rfl⟩
      rw [← hv] at y0
      have HV := Lib.hid hv
      have HK := Lib.hid hlt
      clear hv
      have q3c := cell_blk x3
      have q3f := frz_blk x3
      clear x3
      rcases (Bool.eq_false_or_eq_true (outB v 0 ((S.rooms.length : Int) - 1))).symm with ho | ho
      case inr =>
        have HO := Lib.hid ho
        go_wp2_with (go_at_call 33; (with_reducible refine (out_any _ _ _ _).mono ?_); rintro e w' ⟨rfl, rfl⟩)
        go_ret
        refine ⟨ret_int ?_, HB.out⟩
        have e : anyF (fun i => outR S (intD l i)) l.length = true := by
          unfold anyF
          rw [firstN_at (k := k) HA.out (by unfold outR; rw [← HV.out]; exact HO.out) HK.out]
          exact decide_eq_true HK.out
        unfold askE
        rw [HP.out, if_neg (by simp), ← HX.out, if_neg (by simp), if_pos e]
      have HO := Lib.hid ho
      go_wp2_with (go_at_call 33; (with_reducible refine (out_any _ _ _ _).mono ?_); rintro e w' ⟨rfl, rfl⟩)
      go_roundw
      case rel => exact ⟨rfl, k + 1, by go_num, by omega, HB.out, Z3.out, fun j hj => by
        by_cases hjk : j = k
        · rw [hjk, ← HV.out]; exact HO.out
        · exact HA.out j (by omega)⟩
      case measure => simp [intOf]; omega
    · obtain rfl : k = l.length := by omega
      have r1 : ¬ (l.length : Int) < (l.length : Int) := by omega
      clear x3
      go_wp2_with (fail)
      go_ret
      refine ⟨ret_int ?_, HB.out⟩
      unfold askE
      rw [HP.out, if_neg (by simp), ← HX.out, if_neg (by simp), if_neg]
      unfold anyF
      rw [firstN_none HA.out]
      simp
end Go.Proofs.YtfpaihjcbpaneaaGreatDoor
namespace Go.Proofs.YtfpaihjcbpaneaaGreatDoor.D
set_option linter.unusedVariables false
def pathX (S : Site) (base : Int) (t : Span) (fr to : Int) : Int := if pathE S base t fr to ≠ 0 then pathE S base t fr to else if (bestP S base t fr.toNat to.toNat).1 < 0 then 9 else 0
def pathL (S : Site) (base : Int) (t : Span) (fr to : Int) : List Sty := if pathX S base t fr to = 0 then (bestP S base t fr.toNat to.toNat).2 else []
def pathH (S : Site) (base : Int) (t : Span) (fr to : Int) : Int := if pathX S base t fr to = 0 then (bestP S base t fr.toNat to.toNat).1 else 0
theorem pathE_ask {S : Site} {base : Int} {t : Span} {fr to : Int} (hc : (checkV S).2.2 = 0) (hb : inB base 1 3 = true) : pathE S base t fr to = askE S t [fr, to] := by
  unfold pathE askE
  have h1 : ¬ (checkV S).2.2 ≠ 0 := by omega
  have h2 : ¬ (inB base 1 3 = false) := by rw [hb]; decide
  rw [if_neg h1, if_neg h2, if_neg h1]
  have e : anyF (fun i => outR S (intD [fr, to] i)) [fr, to].length = !(inB fr 0 ((S.rooms.length : Int) - 1) && inB to 0 ((S.rooms.length : Int) - 1)) := by
    have h0 : intD [fr, to] 0 = fr := rfl
    have h1 : intD [fr, to] 1 = to := rfl
    unfold anyF
    show decide (firstN _ 2 < 2) = _
    simp only [firstN, h0, h1, outR, outB_in]
    cases inB fr 0 ((S.rooms.length : Int) - 1) <;> cases inB to 0 ((S.rooms.length : Int) - 1) <;> rfl
  rw [e]
  cases inB fr 0 ((S.rooms.length : Int) - 1) <;> cases inB to 0 ((S.rooms.length : Int) - 1) <;> rfl
theorem pathE_ok {S : Site} {base : Int} {t : Span} {fr to : Int} (h : pathE S base t fr to = 0) : Chk S ∧ inB base 1 3 = true ∧ spanE t = 0 ∧ (0 ≤ fr ∧ fr < S.rooms.length) ∧ 0 ≤ to ∧ to < S.rooms.length := by
  unfold pathE at h
  split at h
  · rename_i h1; exact absurd h h1
  rename_i h1
  split at h
  · cases h
  rename_i h2
  split at h
  · rename_i h3; exact absurd h h3
  rename_i h3
  split at h
  · cases h
  rename_i h4
  have h5 : (inB fr 0 ((S.rooms.length : Int) - 1) && inB to 0 ((S.rooms.length : Int) - 1)) = true := by simpa using h4
  rw [Bool.and_eq_true, inB_iff, inB_iff] at h5
  exact ⟨chk_iff.1 (Decidable.not_not.1 h1), by simpa using h2, Decidable.not_not.1 h3, by omega, by omega⟩
theorem spanE_in {t : Span} (h : spanE t = 0) : TIn t := by
  unfold spanE at h
  split at h
  · cases h
  · rename_i h1
    have h2 : (inB t.lo (-300) 600 && inB t.hi (-300) 600) = true := by simpa using h1
    rw [Bool.and_eq_true, inB_iff, inB_iff] at h2
    exact ⟨h2.1.1, h2.1.2, h2.2.1, h2.2.2⟩
def bstK (S : Site) (base : Int) (t : Span) (fr to k : Nat) : Int × List Sty := (List.range k).foldl (fun st k => srch S base to k [] [] t fr 0 st) (-1, [])
theorem bstK_succ {S : Site} {base : Int} {t : Span} {fr to k : Nat} : bstK S base t fr to (k + 1) = srch S base to k [] [] t fr 0 (bstK S base t fr to k) := by
  unfold bstK; rw [List.range_succ, List.foldl_append]; rfl
theorem bstK_ok {S : Site} {base : Int} {t : Span} {fr to : Nat} : ∀ {k : Nat}, k ≤ 5 → StOk (bstK S base t fr to k)
  | 0, _ => ⟨by show (-1 : Int) ≤ -1; omega, by show (-1 : Int) ≤ 5000; omega, by show 0 ≤ 6; omega⟩
  | k + 1, h => by rw [bstK_succ]; exact srch_ok (bstK_ok (by omega)) (by omega) (by omega) (by simp; omega)
end Go.Proofs.YtfpaihjcbpaneaaGreatDoor.D
namespace Go.Proofs.YtfpaihjcbpaneaaGreatDoor
open Go.RowKit D
set_option linter.unusedVariables false
set_option linter.unusedSimpArgs false
attribute [local go_sem high] run_minI run_maxI
attribute [local go_sem] upon2 cls_cell cls_frozen forall_const exists_eq_left'
attribute [local go_sem] FirstUpon
theorem elBool : Elem Tryz.prog 100 4 (.bool false) 1 1 := ⟨by kernel_rfl, by kernel_rfl, rfl, by omega, by omega⟩
theorem ints_two {w : World} {b : Nat} {a c : Int} {t : TypeId} (h : w.heap[b]? = some (.cells #[.int .i64 a, .int .i64 c] t (0, 0))) : IntsS w ⟨some ⟨b, 0, none⟩, 2⟩ [a, c] :=
  ⟨Nat.le_refl _, by show 2 ≤ 9223372036854775807; omega, fun i j hi hj => ⟨b, 0, rfl, by
    have hi : i < 2 := hi
    rcases (by omega : i = 0 ∨ i = 1) with rfl | rfl <;> (obtain rfl : j = 0 := by omega) <;> rw [cell_blk h] <;> rfl⟩⟩
def PathOut (w : World) (S : Site) (base : Int) (t : Span) (fr to : Int) (e : Ending) (w' : World) : Prop :=
  ∃ sl : Sl, e = .returned (.tuple #[.slice sl.a (pathL S base t fr to).length sl.cap, .int .i64 (pathH S base t fr to), .int .i64 (pathX S base t fr to)]) ∧ RowS w' sl 2 (pathL S base t fr to).length (syC (pathL S base t fr to)) ∧ Below w.heap.size w w'
/-- Path is left with an error. -/
theorem pathNo {w W : World} {S : Site} {base : Int} {t : Span} {fr to : Int} {n10 n11 : Nat} {T : Array Value} {e : Int} (hx : pathX S base t fr to = e) (h0 : e ≠ 0) (hB : Below w.heap.size w W) (l10 : w.heap.size ≤ n10) (l11 : n10 < n11)
    (x10 : ∃ v, W.heap[n10]? = some (.cells #[v] 51 (0, 0))) (x11 : ∃ v, W.heap[n11]? = some (.cells #[v] 3 (0, 0))) (t10 : T.getD 10 undef = .pointer (some ⟨n10, 0, none⟩)) (t11 : T.getD 11 undef = .pointer (some ⟨n11, 0, none⟩)) (t12 : T.getD 12 undef = .int .i64 e) :
    bodyPost Tryz.prog Tryz.f20 (PathOut w S base t fr to) .ret { tmps := T, defers := [] } ((W.setCell ⟨n10, 0, none⟩ (.slice none 0 0)).setCell ⟨n11, 0, none⟩ (.int .i64 0)) := by
  obtain ⟨v, x11⟩ := x11
  obtain ⟨v', x10⟩ := x10
  have y10 := blk_set_ne (b' := n11) (o := 0) (v := .int .i64 0) (Eq.trans (blk_set x10 0 (.slice none 0 0)) rfl) (by omega)
  have y11 := Eq.trans (blk_set (blk_set_ne (b' := n10) (o := 0) (v := .slice none 0 0) x11 (by omega)) 0 (.int .i64 0)) rfl
  have c10 := cell_blk y10; have c11 := cell_blk y11
  have u10 : T[10]?.getD undef = .pointer (some ⟨n10, 0, none⟩) := by rw [← t10, Array.getD_eq_getD_getElem?]
  have u11 : T[11]?.getD undef = .pointer (some ⟨n11, 0, none⟩) := by rw [← t11, Array.getD_eq_getD_getElem?]
  have u12 : T[12]?.getD undef = .int .i64 e := by rw [← t12, Array.getD_eq_getD_getElem?]
  have e1 : pathL S base t fr to = [] := if_neg (by rw [hx]; exact h0)
  have e2 : pathH S base t fr to = 0 := if_neg (by rw [hx]; exact h0)
  refine bodyPost_ret (v := .tuple #[.slice none 0 0, .int .i64 0, .int .i64 e]) ?_ rfl ⟨⟨none, 0⟩, by rw [e1, e2, hx]; rfl, by rw [e1]; exact ⟨Nat.le_refl _, by decide, fun i j hi _ => absurd hi (Nat.not_lt_zero i)⟩, below_set (below_set hB l10) (by omega)⟩
  simp [results, Tryz.results20, go_sem, c10, c11, t10, t11, t12, u10, u11, u12]
set_option maxRecDepth 100000 in
set_option maxHeartbeats 8000000 in
theorem path_any {S : Site} {s : SSl} {base : Int} {t : Span} {fr to : Int} {w : World} (hS : SiteAt w S s) (hm : MaxAt w) :
    Calls Tryz.prog 20 #[.agg #[.slice s.r.a S.rooms.length s.r.cap, .slice s.c.a S.cans.length s.c.cap, .int .i64 S.rlo, .int .i64 S.rhi, .slice s.p.a S.steps.length s.p.cap], .int .i64 base, .agg #[.int .i64 t.lo, .int .i64 t.hi], .int .i64 fr, .int .i64 to] w (PathOut w S base t fr to) := by
  have HS := Lib.hid hS; have HM := Lib.hid hm
  have hrl := hS.rm.le; have hrm := hS.rm.max
  obtain ⟨p1, p2, p3, hp⟩ : ∃ a b c, checkV S = (a, b, c) := ⟨_, _, _, rfl⟩
  have HP := Lib.hid hp
  clear hS hm hp
  go_enter Tryz.func20, Tryz.ntmps20
  go_wp2_with (fail)
  refine calls_name ?_
  intro w1 hw1
  obtain ⟨n5, hn5⟩ : ∃ n, n = w.heap.size := ⟨_, rfl⟩
  obtain ⟨n6, hn6⟩ : ∃ n, n = n5 + 1 := ⟨_, rfl⟩
  obtain ⟨n7, hn7⟩ : ∃ n, n = n6 + 1 := ⟨_, rfl⟩
  obtain ⟨n9, hn9⟩ : ∃ n, n = n7 + 1 := ⟨_, rfl⟩
  obtain ⟨n10, hn10⟩ : ∃ n, n = n9 + 1 := ⟨_, rfl⟩
  obtain ⟨n11, hn11⟩ : ∃ n, n = n10 + 1 := ⟨_, rfl⟩
  have hE1 : Ext2 w w1 := by rw [hw1]; exact ext_trans (ext_trans (ext_trans (ext_trans (ext_trans (below_alloc' _ _) (below_alloc' _ _)) (below_alloc' _ _)) (below_alloc' _ _)) (below_alloc' _ _)) (below_alloc' _ _)
  have x5 : w1.heap[n5]? = some (Obj.cells #[.slice s.r.a S.rooms.length s.r.cap, .slice s.c.a S.cans.length s.c.cap, .int .i64 S.rlo, .int .i64 S.rhi, .slice s.p.a S.steps.length s.p.cap] 28) := by rw [hw1, hn5]; exact blk_alloc (blk_alloc (blk_alloc (blk_alloc (blk_alloc (blk_new _ _) _) _) _) _) _
  have x6 : w1.heap[n6]? = some (.cells #[.int .i64 base] 3 (0, 0)) := by rw [hw1, hn6, hn5]; exact blk_alloc (blk_alloc (blk_alloc (blk_alloc (blk_new' _ _ (by simp)) _) _) _) _
  have x7 : w1.heap[n7]? = some (Obj.cells #[.int .i64 t.lo, .int .i64 t.hi] 25) := by rw [hw1, hn7, hn6, hn5]; exact blk_alloc (blk_alloc (blk_alloc (blk_new' _ _ (by simp)) _) _) _
  have x9 : w1.heap[n9]? = some (.cells #[.int .i64 to] 3 (0, 0)) := by rw [hw1, hn9, hn7, hn6, hn5]; exact blk_alloc (blk_alloc (blk_new' _ _ (by simp)) _) _
  have x10 : w1.heap[n10]? = some (.cells #[.slice none 0 0] 51 (0, 0)) := by rw [hw1, hn10, hn9, hn7, hn6, hn5]; exact blk_alloc (blk_new' _ _ (by simp)) _
  have x11 : w1.heap[n11]? = some (.cells #[.int .i64 0] 3 (0, 0)) := by rw [hw1, hn11, hn10, hn9, hn7, hn6, hn5]; exact blk_new' _ _ (by simp)
  have hsz : w1.heap.size = w.heap.size + 6 := by rw [hw1]; simp
  rw [← hn5, ← hn6, ← hn7, ← hn9, ← hn10, ← hn11]
  have l5 : w.heap.size ≤ n5 := by omega
  have l56 : n5 < n6 := by omega
  have l67 : n6 < n7 := by omega
  have l79 : n7 < n9 := by omega
  have l910 : n9 < n10 := by omega
  have l1011 : n10 < n11 := by omega
  have l11 : n11 < w1.heap.size := by omega
  clear hw1 hn5 hn6 hn7 hn9 hn10 hn11 hsz
  refine (check_any (HS.out.below hE1) (HM.out.below hE1)).mono ?_
  rintro e w2 ⟨rfl, hb2⟩
  rw [HP.out]
  dsimp only
  have HE2 := Lib.hid (ext_trans hE1 hb2)
  have X5 := Lib.hid (Ext2.blk hb2 x5); have X6 := Lib.hid (Ext2.blk hb2 x6); have X7 := Lib.hid (Ext2.blk hb2 x7); have X9 := Lib.hid (Ext2.blk hb2 x9); have X10 := Lib.hid (Ext2.blk hb2 x10); have X11 := Lib.hid (Ext2.blk hb2 x11)
  clear hb2 hE1 x5 x6 x7 x9 x10 x11 l11
  have n1011 : ¬ n10 = n11 := by omega
  have n1110 : ¬ n11 = n10 := by omega
  by_cases hp3 : p3 = 0
  case neg =>
    have hd : (p3 != 0) = true := by simp [hp3]
    have HPN := Lib.hid hp3
    have x10 := X10.out; have x11 := X11.out
    have qyc := cell_blk x10
    have qyf := frz_blk x10
    have qhc := cell_blk x11
    have qhf := frz_blk x11
    clear hp3 x10 x11
    go_wp2_with (fail)
    have e1 : pathE S base t fr to = p3 := by unfold pathE; rw [HP.out, if_pos HPN.out]
    exact pathNo (e := p3) (by unfold pathX; rw [e1, if_pos HPN.out]) HPN.out HE2.out (by omega) l1011 ⟨_, X10.out⟩ ⟨_, X11.out⟩ rfl rfl rfl
  subst hp3
  have hd : ((0 : Int) != 0) = false := rfl
  have HCV : Hid ((checkV S).2.2 = 0) := Lib.hid (by rw [HP.out])
  have x6 := X6.out
  have qac := cell_blk x6
  have qaf := frz_blk x6
  clear x6
  rcases (Bool.eq_false_or_eq_true (outB base 1 3)).symm with ho | ho
  case inr =>
    have HO := Lib.hid ho
    have x10 := X10.out; have x11 := X11.out
    have qyc := cell_blk x10
    have qyf := frz_blk x10
    have qhc := cell_blk x11
    have qhf := frz_blk x11
    clear x10 x11
    go_wp2_with (go_at_call 33; (with_reducible refine (out_any _ _ _ _).mono ?_); rintro e w' ⟨rfl, rfl⟩)
    have e1 : pathE S base t fr to = 2 := by unfold pathE; rw [if_neg (by rw [HCV.out]; decide), if_pos (by have := HO.out; rw [outB_in] at this; simpa using this)]
    exact pathNo (e := 2) (by unfold pathX; rw [e1, if_pos (by decide)]) (by decide) HE2.out (by omega) l1011 ⟨_, X10.out⟩ ⟨_, X11.out⟩ rfl rfl rfl
  have HBI : Hid (inB base 1 3 = true) := Lib.hid (by have := ho; rw [outB_in] at this; simpa using this)
  have x5 := X5.out; have x7 := X7.out; have x9 := X9.out
  have qsc := cell_blk x5
  have qsf := frz_blk x5
  have qtc := cell_blk x7
  have qtf := frz_blk x7
  have qoc := cell_blk x9
  have qof := frz_blk x9
  clear x5 x7 x9
  go_wp2_with (go_at_call 33; (with_reducible refine (out_any _ _ _ _).mono ?_); rintro e w' ⟨rfl, rfl⟩)
  refine calls_name ?_
  intro w3 hw3
  obtain ⟨bq, hbq⟩ : ∃ b, b = w2.heap.size := ⟨_, rfl⟩
  have hE3 : Ext2 w2 w3 := by rw [hw3]; exact below_alloc' _ _
  have nq : w3.heap[bq]? = some (.cells #[.int .i64 fr, .int .i64 to] 3 (0, 0)) := by rw [hw3, hbq]; exact blk_new _ _
  rw [← hbq]
  clear hw3 hbq qac qaf qsc qsf qtc qtf qoc qof hd ho
  refine (asked_any (l := [fr, to]) (HS.out.below (ext_trans HE2.out hE3)) (ints_two nq) (HM.out.below (ext_trans HE2.out hE3))).mono ?_
  rintro e w4 ⟨rfl, hb4⟩
  rw [← pathE_ask HCV.out HBI.out]
  obtain ⟨pe, hpe⟩ : ∃ x, x = pathE S base t fr to := ⟨_, rfl⟩
  rw [← hpe]
  have HPE := Lib.hid hpe
  have hE4 := ext_trans hE3 hb4
  have HE4 := Lib.hid (ext_trans HE2.out hE4)
  have Y5 := Lib.hid (Ext2.blk hE4 X5.out); have Y6 := Lib.hid (Ext2.blk hE4 X6.out); have Y7 := Lib.hid (Ext2.blk hE4 X7.out); have Y9 := Lib.hid (Ext2.blk hE4 X9.out); have Y10 := Lib.hid (Ext2.blk hE4 X10.out); have Y11 := Lib.hid (Ext2.blk hE4 X11.out)
  clear hpe hE3 hb4 hE4 nq
  by_cases hp0 : pe = 0
  case neg =>
    have hd : (pe != 0) = true := by simp [hp0]
    have HPN := Lib.hid hp0
    have x10 := Y10.out; have x11 := Y11.out
    have qyc := cell_blk x10
    have qyf := frz_blk x10
    have qhc := cell_blk x11
    have qhf := frz_blk x11
    clear hp0 x10 x11
    go_wp2_with (fail)
    exact pathNo (e := pe) (by unfold pathX; rw [← HPE.out, if_pos HPN.out]) HPN.out HE4.out (by omega) l1011 ⟨_, Y10.out⟩ ⟨_, Y11.out⟩ rfl rfl rfl
  subst hp0
  have hd : ((0 : Int) != 0) = false := rfl
  obtain ⟨hck, -, hsp, ⟨hf0, hf1⟩, ht0, ht1⟩ := pathE_ok HPE.out.symm
  have hti := spanE_in hsp
  have HCK := Lib.hid hck; have HTI := Lib.hid hti
  have hrn := hck.len.1.2
  obtain ⟨fn, hfn⟩ : ∃ n : Nat, n = fr.toNat := ⟨_, rfl⟩
  obtain ⟨tn, htn⟩ : ∃ n : Nat, n = to.toNat := ⟨_, rfl⟩
  have ef : fr = (fn : Int) := by omega
  have et : to = (tn : Int) := by omega
  have HFN := Lib.hid hfn; have HTN := Lib.hid htn
  have hfl : fn < S.rooms.length := by omega
  have htl : tn < S.rooms.length := by omega
  clear hck hsp hti hfn htn hf0 hf1 ht0 ht1
  have HEF := Lib.hid ef; have HET := Lib.hid et
  have x5 := Y5.out; have x11 := Y11.out
  have l5' := blk_lt x5
  have l11' := blk_lt x11
  have n5' : ¬ n5 = w4.heap.size := by omega
  have n11' : ¬ n11 = w4.heap.size := by omega
  have m1 : n11 < w4.heap.size + 1 := by omega
  have k1 : ¬ n11 = w4.heap.size + 1 := by omega
  have m2 : n11 < w4.heap.size + 1 + 1 := by omega
  have k2 : ¬ n11 = w4.heap.size + 1 + 1 := by omega
  have m3 : n11 < w4.heap.size + 1 + 1 + 1 := by omega
  have k3 : ¬ n11 = w4.heap.size + 1 + 1 + 1 := by omega
  have m4 : n11 < w4.heap.size + 1 + 1 + 1 + 1 := by omega
  have k4 : ¬ n11 = w4.heap.size + 1 + 1 + 1 + 1 := by omega
  have m5 : n11 < w4.heap.size + 1 + 1 + 1 + 1 + 1 := by omega
  have k5 : ¬ n11 = w4.heap.size + 1 + 1 + 1 + 1 + 1 := by omega
  have m6 : n11 < w4.heap.size + 1 + 1 + 1 + 1 + 1 + 1 := by omega
  have k6 : ¬ n11 = w4.heap.size + 1 + 1 + 1 + 1 + 1 + 1 := by omega
  have qsc := cell_blk x5
  have qsf := frz_blk x5
  have qhc := cell_blk x11
  have qhf := frz_blk x11
  clear x5 x11 ef et
  have hsf := fun (a : Addr) (c : Array Value) (w : World) => run_store Tryz.prog w a (.func (.func 50) #[] c) .plain rfl
  go_wp2_with (at_make; refine wpList_mk elBool rfl _ rfl S.rooms.length rfl (by omega) ?_)
  refine wp_name ?_
  intro w5 hw5
  obtain ⟨bv, hbv⟩ : ∃ n, n = w4.heap.size := ⟨_, rfl⟩
  obtain ⟨bg, hbg⟩ : ∃ n, n = bv + 1 := ⟨_, rfl⟩
  obtain ⟨bb, hbb⟩ : ∃ n, n = bg + 1 := ⟨_, rfl⟩
  obtain ⟨be, hbe⟩ : ∃ n, n = bb + 1 := ⟨_, rfl⟩
  obtain ⟨bn, hbn⟩ : ∃ n, n = be + 1 := ⟨_, rfl⟩
  obtain ⟨bf, hbf⟩ : ∃ n, n = bn + 1 := ⟨_, rfl⟩
  rw [← hbv, ← hbg, ← hbb, ← hbe, ← hbn, ← hbf] at hw5 ⊢
  have hz : Ext2 (w4.setCell ⟨n11, 0, none⟩ (.int .i64 (-1))) w5 := by rw [hw5]; exact ext_trans (ext_trans (ext_trans (ext_trans (ext_trans (below_alloc' _ _) (below_alloc' _ _)) (below_alloc' _ _)) (below_alloc' _ _)) (below_alloc' _ _)) (below_alloc' _ _)
  have xv : w5.heap[bv]? = some (Obj.cells #[.slice s.r.a S.rooms.length s.r.cap, .slice s.c.a S.cans.length s.c.cap, .int .i64 S.rlo, .int .i64 S.rhi, .slice s.p.a S.steps.length s.p.cap, (.slice none 0 0)] 76) := by rw [hw5, hbv]; exact blk_alloc (blk_alloc (blk_alloc (blk_alloc (blk_alloc (blk_new' _ _ (World.size_setCell _ _ _).symm) _) _) _) _) _
  have xg : w5.heap[bg]? = some (.cells (madeCells #[.bool false] (S.rooms.length * 1)) 4 (0, 0)) := by rw [hw5, Nat.mul_one]; exact blk_alloc (blk_alloc (blk_alloc (blk_alloc (blk_new' _ _ (by simp [hbg, hbv])) _) _) _) _
  have xb : w5.heap[bb]? = some (.cells #[.slice (some ⟨bg, 0, none⟩) S.rooms.length S.rooms.length] 100 (0, 0)) := by rw [hw5]; exact blk_alloc (blk_alloc (blk_alloc (blk_new' _ _ (by simp [hbb, hbg, hbv])) _) _) _
  have xe : w5.heap[be]? = some (.cells #[] 93 (0, 0)) := by rw [hw5]; exact blk_alloc (blk_alloc (blk_new' _ _ (by simp [hbe, hbb, hbg, hbv])) _) _
  have xn : w5.heap[bn]? = some (.cells #[.slice (some ⟨be, 0, none⟩) 0 0] 51 (0, 0)) := by rw [hw5]; exact blk_alloc (blk_new' _ _ (by simp [hbn, hbe, hbb, hbg, hbv])) _
  have xf : w5.heap[bf]? = some (.cells #[.func (.func 50) #[] (bxPtrs ⟨n11, n9, bn, n10, bb, n5, n6, bv, bf, bg⟩)] 101 (0, 0)) := by rw [hw5]; exact blk_new' _ _ (by simp [hbf, hbn, hbe, hbb, hbg, hbv])
  have hxo : BxOk w.heap.size ⟨n11, n9, bn, n10, bb, n5, n6, bv, bf, bg⟩ := ⟨l5, l56, by show n6 < n9; omega, l910, l1011, by show n11 < bv; omega, by show bv < bg; omega, by show bg < bb; omega, by show bb < bn; omega, by show bn < bf; omega⟩
  have hbel : Below w.heap.size w w5 := below_ext (below_set (o := 0) (v := .int .i64 (-1)) HE4.out (show w.heap.size ≤ n11 by omega)) hz
  have hW5 : SrW w S s base tn ⟨n11, n9, bn, n10, bb, n5, n6, bv, bf, bg⟩ [] [] (-1, []) be 0 ⟨none, 0⟩ w5 :=
    ⟨hbel, hz.blk (Eq.trans (blk_set Y11.out 0 _) rfl), by rw [← HET.out]; exact hz.blk (blk_set_ne Y9.out (show n11 ≠ n9 by omega)), xn, own_empty xe (by omega), hz.blk (blk_set_ne Y10.out (show n11 ≠ n10 by omega)), own_nil _ _ _ _ _, by simp, xb,
      (own_made (sz := 1) (z := #[.bool false]) rfl Nat.one_pos (by unfold maxLen; omega) (by omega) xg).congr (fun i j hi hj => by rcases (show j = 0 by omega) with rfl; rfl), hz.blk (blk_set_ne Y5.out (show n11 ≠ n5 by omega)), hz.blk (blk_set_ne Y6.out (show n11 ≠ n6 by omega)), xv, xf⟩
  have HW5 := Lib.hid hW5; have HXO := Lib.hid hxo
  have Z7 := Lib.hid (hz.blk (blk_set_ne (b' := n11) (o := 0) (v := .int .i64 (-1)) Y7.out (by omega)))
  have lbb : n11 < bb := by omega
  have lbn : n11 < bn := by omega
  have lbf : n11 < bf := by omega
  clear hw5 hz xv xg xb xe xn xf hxo hbel hW5 hbv hbg hbb hbe hbn hbf qsc qsf qhc qhf hsf l5' l11' n5' n11' m1 m2 m3 m4 m5 m6 k1 k2 k3 k4 k5 k6 hd
  go_loopw [46] (fun z wr => ∃ k : Nat, z = .int .i64 (k : Int) ∧ k ≤ 5 ∧ wr.heap[n7]? = some (Obj.cells #[.int .i64 t.lo, .int .i64 t.hi] 25) ∧ ∃ gn cn ky, SrW w S s base tn ⟨n11, n9, bn, n10, bb, n5, n6, bv, bf, bg⟩ [] [] (bstK S base t fn tn k) gn cn ky wr) (fun z _ => 5 - (intOf z).toNat)
  case atStart => exact ⟨0, rfl, by omega, Z7.out, be, 0, ⟨none, 0⟩, HW5.out⟩
  case round =>
    obtain ⟨k, rfl, hk, x7, gn, cn, ky, hW⟩ := hrel
    have HWr := Lib.hid hW; have X7' := Lib.hid x7
    by_cases hlt : k < 5
    · go_light
      have i2 : (k : Int) < 5 := by omega
      have w3' : IntKind.i64.wrap ((k : Int) + 1) = (k : Int) + 1 := IntWalk.i64_in _ (by omega)
      have xf := hW.srch
      unfold bxPtrs at xf
      have qfc := cell_blk xf
      have qff := frz_blk xf
      have qtc := cell_blk x7
      have qtf := frz_blk x7
      clear hW x7 xf
      go_wp2_with (fail)
      have h := srch_any HS.out HCK.out HXO.out htl k HWr.out hfl rfl HTI.out (Int.le_refl 0) (by omega) (by simp; omega) (bstK_ok hk)
      rw [← HEF.out] at h
      refine h.mono ?_
      clear h
      rintro e w6 ⟨rfl, hsd, g', c', ky', h6⟩
      have H6 := Lib.hid h6; have X76 := Lib.hid (hsd.keep _ _ _ _ X7'.out (by decide))
      clear hsd h6 qfc qff qtc qtf
      go_wp2_with (fail)
      go_roundw
      case rel => exact ⟨k + 1, by go_num, by omega, X76.out, g', c', ky', by rw [bstK_succ]; exact H6.out⟩
      case measure => simp [intOf]; omega
    · obtain rfl : k = 5 := by omega
      have r1 : ¬ (5 : Int) < 5 := by omega
      have HB5 : Hid (bestP S base t fr.toNat to.toNat = bstK S base t fn tn 5) := Lib.hid (by rw [← HFN.out, ← HTN.out]; rfl)
      obtain ⟨st, hst⟩ : ∃ z, z = bstK S base t fn tn 5 := ⟨_, rfl⟩
      rw [← hst] at hW
      have HST := Lib.hid hst
      have HWs := Lib.hid hW
      have xh := hW.hours; have xy := hW.stays
      dsimp only at xh xy
      obtain ⟨hI, hhI⟩ : ∃ x, x = st.1 := ⟨_, rfl⟩
      rw [← hhI] at xh
      have HHI := Lib.hid hhI
      have XH := Lib.hid xh; have XY := Lib.hid xy
      have qhc := cell_blk xh
      have qhf := frz_blk xh
      have qyc := cell_blk xy
      have qyf := frz_blk xy
      clear hst hW xh xy hhI x7
      rcases (show hI < 0 ∨ 0 ≤ hI by omega) with hneg | hneg
      · have hd1 : decide (hI < 0) = true := decide_eq_true hneg
        have HNG := Lib.hid hneg
        go_wp2_with (fail)
        exact pathNo (e := 9) (by unfold pathX; rw [if_neg (by rw [← HPE.out]; decide), HB5.out, ← HST.out, ← HHI.out, if_pos HNG.out]) (by decide) HWs.out.bel (by omega) l1011 ⟨_, XY.out⟩ ⟨_, XH.out⟩ rfl rfl rfl
      · have hd1 : decide (hI < 0) = false := decide_eq_false (by omega)
        have hn1 : ¬ hI < 0 := by omega
        have HX0 : Hid (pathX S base t fr to = 0) := Lib.hid (by unfold pathX; rw [if_neg (by rw [← HPE.out]; decide), HB5.out, ← HST.out, ← HHI.out, if_neg hn1])
        go_wp2_with (fail)
        go_region
        go_wp2_with (fail)
        have y10 := blk_set_ne (b' := n11) (o := 0) (v := .int .i64 hI) (Eq.trans (blk_set XY.out 0 (.slice ky.a st.2.length ky.cap)) rfl) (show n11 ≠ n10 by omega)
        have y11 := Eq.trans (blk_set (blk_set_ne (b' := n10) (o := 0) (v := .slice ky.a st.2.length ky.cap) XH.out (show n10 ≠ n11 by omega)) 0 (.int .i64 hI)) rfl
        have c10 := cell_blk (blk_drew y10); have c11 := cell_blk (blk_drew y11)
        have e1 : pathL S base t fr to = st.2 := by unfold pathL; rw [if_pos HX0.out, HB5.out, ← HST.out]
        have e2 : pathH S base t fr to = hI := by unfold pathH; rw [if_pos HX0.out, HB5.out, ← HST.out, HHI.out]
        have hsd := (Sd.set (B := w.heap.size) (ts := [3, 51]) (o := 0) XY.out (by simp) (show w.heap.size ≤ n10 by omega) (.slice ky.a st.2.length ky.cap)).trans (Sd.set (o := 0) (blk_set_ne (b' := n10) (o := 0) (v := .slice ky.a st.2.length ky.cap) XH.out (show n10 ≠ n11 by omega)) (by simp) (show w.heap.size ≤ n11 by omega) (.int .i64 hI))
        refine bodyPost_ret (v := .tuple #[.slice ky.a st.2.length ky.cap, .int .i64 hI, .int .i64 0]) ?_ rfl ⟨⟨ky.a, ky.cap⟩, by rw [e1, e2, HX0.out], ?_, ((HWs.out.bel.trans hsd.bel).drew)⟩
        · simp [results, Tryz.results20, go_sem, c10, c11]
        · rw [e1]
          obtain ⟨⟨a', c'⟩, h1, h2⟩ := (HWs.out.staysO.sd hsd (by decide)).sl
          have h3 : Value.slice ky.a st.2.length ky.cap = Value.slice a' st.2.length c' := h1
          injection h3 with h4 _ h5
          rw [← h4, ← h5] at h2
          exact h2.below (Ext2.drew _)
end Go.Proofs.YtfpaihjcbpaneaaGreatDoor
namespace Go.Proofs.YtfpaihjcbpaneaaGreatDoor.D
set_option linter.unusedVariables false
def waitO (S : Site) (t : Span) (r nx : Int) : Int × Span × Int :=
  if askE S t [r, nx] ≠ 0 then (0, ⟨0, 0⟩, askE S t [r, nx]) else match waitV S r.toNat nx.toNat t with | some (n, u) => ((n : Int), u, 0) | none => (0, ⟨0, 0⟩, 9)
theorem askE_ok {S : Site} {t : Span} {r nx : Int} (h : askE S t [r, nx] = 0) : Chk S ∧ spanE t = 0 ∧ (0 ≤ r ∧ r < S.rooms.length) ∧ 0 ≤ nx ∧ nx < S.rooms.length := by
  have hc : (checkV S).2.2 = 0 := by
    unfold askE at h
    split at h
    · rename_i h1; exact absurd h h1
    · rename_i h1; exact Decidable.not_not.1 h1
  have e := pathE_ask (base := 1) hc (show inB 1 1 3 = true by decide) (t := t) (fr := r) (to := nx)
  rw [h] at e
  have := pathE_ok e
  exact ⟨this.1, this.2.2.1, this.2.2.2.1, this.2.2.2.2⟩
end Go.Proofs.YtfpaihjcbpaneaaGreatDoor.D
namespace Go.Proofs.YtfpaihjcbpaneaaGreatDoor
open Go.RowKit D
set_option linter.unusedVariables false
set_option linter.unusedSimpArgs false
attribute [local go_sem high] run_minI run_maxI
attribute [local go_sem] upon2 cls_cell cls_frozen forall_const exists_eq_left'
attribute [local go_sem] FirstUpon
theorem waitEnd {w W : World} {S : Site} {t : Span} {r nx : Int} {n9 : Nat} {T : Array Value} {n : Int} {u : Span} {e : Int} (ho : waitO S t r nx = (n, u, e)) (hB : Below w.heap.size w W) (x9 : W.heap[n9]? = some (Obj.cells #[.int .i64 u.lo, .int .i64 u.hi] 25)) (t8 : T.getD 8 undef = .int .i64 n) (t9 : T.getD 9 undef = .pointer (some ⟨n9, 0, none⟩)) (t10 : T.getD 10 undef = .int .i64 e) :
    bodyPost Tryz.prog Tryz.f30 (fun e' w' => e' = .returned (.tuple #[.int .i64 (waitO S t r nx).1, .agg #[.int .i64 (waitO S t r nx).2.1.lo, .int .i64 (waitO S t r nx).2.1.hi], .int .i64 (waitO S t r nx).2.2]) ∧ Below w.heap.size w w') .ret { tmps := T, defers := [] } W := by
  have c9 := cell_blk x9
  have u8 : T[8]?.getD undef = .int .i64 n := by rw [← t8, Array.getD_eq_getD_getElem?]
  have u9 : T[9]?.getD undef = .pointer (some ⟨n9, 0, none⟩) := by rw [← t9, Array.getD_eq_getD_getElem?]
  have u10 : T[10]?.getD undef = .int .i64 e := by rw [← t10, Array.getD_eq_getD_getElem?]
  refine bodyPost_ret (v := .tuple #[.int .i64 n, .agg #[.int .i64 u.lo, .int .i64 u.hi], .int .i64 e]) ?_ rfl ⟨by rw [ho], hB⟩
  simp [results, Tryz.results30, go_sem, c9, t8, t9, t10, u8, u9, u10]
theorem four_sets {w W : World} {n9 : Nat} {a b : Value} {u v : Span} (hB : Below w.heap.size w W) (l : w.heap.size ≤ n9) (h : W.heap[n9]? = some (.cells #[a, b] 25 (0, 0))) : Below w.heap.size w ((((W.setCell ⟨n9, 0, none⟩ (.int .i64 u.lo)).setCell ⟨n9, 1, none⟩ (.int .i64 u.hi)).setCell ⟨n9, 0, none⟩ (.int .i64 v.lo)).setCell ⟨n9, 1, none⟩ (.int .i64 v.hi)) ∧ ((((W.setCell ⟨n9, 0, none⟩ (.int .i64 u.lo)).setCell ⟨n9, 1, none⟩ (.int .i64 u.hi)).setCell ⟨n9, 0, none⟩ (.int .i64 v.lo)).setCell ⟨n9, 1, none⟩ (.int .i64 v.hi)).heap[n9]? = some (Obj.cells #[.int .i64 v.lo, .int .i64 v.hi] 25) :=
  ⟨below_set (below_set (below_set (below_set hB l) l) l) l, Eq.trans (blk_set (blk_set (blk_set (blk_set h 0 (.int .i64 u.lo)) 1 (.int .i64 u.hi)) 0 (.int .i64 v.lo)) 1 (.int .i64 v.hi)) rfl⟩
set_option maxRecDepth 100000 in
set_option maxHeartbeats 8000000 in
theorem waitA_any {S : Site} {s : SSl} {t : Span} {r nx : Int} {w : World} (hS : SiteAt w S s) (hm : MaxAt w) :
    Calls Tryz.prog 30 #[.agg #[.slice s.r.a S.rooms.length s.r.cap, .slice s.c.a S.cans.length s.c.cap, .int .i64 S.rlo, .int .i64 S.rhi, .slice s.p.a S.steps.length s.p.cap], .agg #[.int .i64 t.lo, .int .i64 t.hi], .int .i64 r, .int .i64 nx] w fun e' w' => e' = .returned (.tuple #[.int .i64 (waitO S t r nx).1, .agg #[.int .i64 (waitO S t r nx).2.1.lo, .int .i64 (waitO S t r nx).2.1.hi], .int .i64 (waitO S t r nx).2.2]) ∧ Below w.heap.size w w' := by
  have HS := Lib.hid hS; have HM := Lib.hid hm
  clear hS hm
  go_enter Tryz.func30, Tryz.ntmps30
  go_wp2_with (fail)
  refine calls_name ?_
  intro w1 hw1
  obtain ⟨n4, hn4⟩ : ∃ n, n = w.heap.size := ⟨_, rfl⟩
  obtain ⟨n5, hn5⟩ : ∃ n, n = n4 + 1 := ⟨_, rfl⟩
  obtain ⟨n9, hn9⟩ : ∃ n, n = n5 + 1 := ⟨_, rfl⟩
  obtain ⟨bq, hbq⟩ : ∃ n, n = n9 + 1 := ⟨_, rfl⟩
  have hE1 : Ext2 w w1 := by rw [hw1]; exact ext_trans (ext_trans (ext_trans (below_alloc' _ _) (below_alloc' _ _)) (below_alloc' _ _)) (below_alloc' _ _)
  have X4 : Hid (w1.heap[n4]? = some (Obj.cells #[.slice s.r.a S.rooms.length s.r.cap, .slice s.c.a S.cans.length s.c.cap, .int .i64 S.rlo, .int .i64 S.rhi, .slice s.p.a S.steps.length s.p.cap] 28)) := Lib.hid (by rw [hw1, hn4]; exact (four_blk w _ _ _ _).1)
  have X5 : Hid (w1.heap[n5]? = some (Obj.cells #[.int .i64 t.lo, .int .i64 t.hi] 25)) := Lib.hid (by rw [hw1, hn5, hn4]; exact (four_blk w _ _ _ _).2.1)
  have X9 : Hid (w1.heap[n9]? = some (Obj.cells #[.int .i64 0, .int .i64 0] 25)) := Lib.hid (by rw [hw1, hn9, hn5, hn4]; exact (four_blk w _ _ _ _).2.2.1)
  have nq : w1.heap[bq]? = some (.cells #[.int .i64 r, .int .i64 nx] 3 (0, 0)) := by rw [hw1, hbq, hn9, hn5, hn4]; exact (four_blk w _ _ _ _).2.2.2.1
  rw [← hn4, ← hn5, ← hn9, ← hbq]
  have l4 : w.heap.size ≤ n4 := by omega
  have l45 : n4 < n5 := by omega
  have l59 : n5 < n9 := by omega
  refine (asked_any (l := [r, nx]) (HS.out.below hE1) (ints_two nq) (HM.out.below hE1)).mono ?_
  rintro e w2 ⟨rfl, hb2⟩
  have HE2 := Lib.hid (ext_trans hE1 hb2)
  have Y4 := Lib.hid (Ext2.blk hb2 X4.out); have Y5 := Lib.hid (Ext2.blk hb2 X5.out); have Y9 := Lib.hid (Ext2.blk hb2 X9.out)
  obtain ⟨x, hx⟩ : ∃ x, x = askE S t [r, nx] := ⟨_, rfl⟩
  rw [← hx]
  have HX := Lib.hid hx
  clear hw1 hn4 hn5 hn9 hbq hE1 nq hb2 hx
  by_cases hx0 : x = 0
  case neg =>
    have hd : (x != 0) = true := by simp [hx0]
    have HN := Lib.hid hx0
    have x9 := Y9.out
    have q9c := cell_blk x9
    have q9f := frz_blk x9
    clear hx0 x9
    go_wp2_with (fail)
    exact waitEnd (u := ⟨0, 0⟩) (by unfold waitO; rw [← HX.out, if_pos HN.out]) (below_set (below_set HE2.out (by omega)) (by omega)) (Eq.trans (blk_set (blk_set Y9.out 0 _) 1 _) rfl) rfl rfl rfl
  subst hx0
  have hd : ((0 : Int) != 0) = false := rfl
  obtain ⟨hck, hsp, ⟨hr0, hr1⟩, hn0, hn1⟩ := askE_ok HX.out.symm
  have hti := spanE_in hsp
  obtain ⟨rn, hrn⟩ : ∃ n : Nat, n = r.toNat := ⟨_, rfl⟩
  obtain ⟨nn, hnn⟩ : ∃ n : Nat, n = nx.toNat := ⟨_, rfl⟩
  have er : r = (rn : Int) := by omega
  have en : nx = (nn : Int) := by omega
  have HCK := Lib.hid hck; have HTI := Lib.hid hti; have HRN := Lib.hid hrn; have HNN := Lib.hid hnn; have HER := Lib.hid er; have HEN := Lib.hid en
  have hrl : rn < S.rooms.length := by omega
  have hnl : nn < S.rooms.length := by omega
  have x4 := Y4.out; have x5 := Y5.out
  have k5 := blk_lt x5
  have m5 : ¬ n5 = w2.heap.size := by omega
  have q4c := cell_blk x4
  have q4f := frz_blk x4
  have q5c := cell_blk x5
  have q5f := frz_blk x5
  clear hck hsp hti hr0 hr1 hn0 hn1 hrn hnn er en x4 x5
  go_wp2_with (fail)
  refine calls_name ?_
  intro w3 hw3
  obtain ⟨bv, hbv⟩ : ∃ b, b = w2.heap.size := ⟨_, rfl⟩
  have hE3 : Ext2 w2 w3 := by rw [hw3]; exact below_alloc' _ _
  have xv : w3.heap[bv]? = some (Obj.cells #[.slice s.r.a S.rooms.length s.r.cap, .slice s.c.a S.cans.length s.c.cap, .int .i64 S.rlo, .int .i64 S.rhi, .slice s.p.a S.steps.length s.p.cap, (.slice none 0 0)] 76) := by rw [hw3, hbv]; exact blk_new _ _
  have hVl : VltAt w3 S s bv [] ⟨none, 0⟩ := ⟨xv, HS.out.below (ext_trans HE2.out hE3), ⟨Nat.le_refl _, by decide, fun i j hi _ => absurd hi (Nat.not_lt_zero i)⟩⟩
  rw [← hbv]
  clear hw3 hbv q4c q4f q5c q5f xv k5 m5 hd
  have hWt := waitM_any hVl HCK.out hrl hnl HTI.out
  rw [← HER.out, ← HEN.out] at hWt
  refine hWt.mono ?_
  clear hWt hVl
  rintro e w4 ⟨rfl, hb4⟩
  have HE4 := Lib.hid (ext_trans HE2.out (ext_trans hE3 hb4))
  have Z9 := Lib.hid (Ext2.blk (ext_trans hE3 hb4) Y9.out)
  have x9 := Z9.out
  have q9c := cell_blk x9
  have q9f := frz_blk x9
  obtain ⟨o, ho⟩ : ∃ o, o = waitV S rn nn t := ⟨_, rfl⟩
  rw [← ho]
  have HO := Lib.hid ho
  clear hE3 hb4 x9 ho
  cases o
  case none =>
    simp only [waitR]
    go_wp2_with (fail)
    have e0 : waitO S t r nx = (0, ⟨0, 0⟩, 9) := by unfold waitO; rw [if_neg (by rw [← HX.out]; decide), ← HRN.out, ← HNN.out, ← HO.out]
    have h4 := four_sets (u := ⟨0, 0⟩) (v := ⟨0, 0⟩) HE4.out (show w.heap.size ≤ n9 by omega) Z9.out
    exact waitEnd e0 h4.1 h4.2 rfl rfl rfl
  case some p =>
    obtain ⟨n, u⟩ := p
    simp only [waitR]
    go_wp2_with (fail)
    go_region
    go_wp2_with (fail)
    have e0 : waitO S t r nx = ((n : Int), u, 0) := by unfold waitO; rw [if_neg (by rw [← HX.out]; decide), ← HRN.out, ← HNN.out, ← HO.out]
    have h4 := four_sets (u := u) (v := u) HE4.out (show w.heap.size ≤ n9 by omega) Z9.out
    exact waitEnd e0 h4.1.drew (blk_drew h4.2) rfl rfl rfl
end Go.Proofs.YtfpaihjcbpaneaaGreatDoor
namespace Go.Proofs.YtfpaihjcbpaneaaGreatDoor.D
set_option linter.unusedVariables false
theorem askE1 {S : Site} {t : Span} {r : Int} : askE S t [r] = if (checkV S).2.2 ≠ 0 then (checkV S).2.2 else if spanE t ≠ 0 then spanE t else if outR S r then 4 else 0 := by
  unfold askE
  have e : anyF (fun i => outR S (intD [r] i)) [r].length = outR S r := by
    have h0 : intD [r] 0 = r := rfl
    unfold anyF
    show decide (firstN _ 1 < 1) = _
    simp only [firstN, h0]
    cases outR S r <;> rfl
  rw [e]
theorem askE1_ok {S : Site} {t : Span} {r : Int} (h : askE S t [r] = 0) : Chk S ∧ spanE t = 0 ∧ 0 ≤ r ∧ r < S.rooms.length := by
  rw [askE1] at h
  split at h
  · rename_i h1; exact absurd h h1
  rename_i h1
  split at h
  · rename_i h2; exact absurd h h2
  rename_i h2
  split at h
  · cases h
  rename_i h3
  have h4 : outR S r = false := by simpa using h3
  unfold outR at h4
  rw [outB_in] at h4
  have h5 : inB r 0 ((S.rooms.length : Int) - 1) = true := by simpa using h4
  have h6 := inB_iff.1 h5
  exact ⟨chk_iff.1 (Decidable.not_not.1 h1), Decidable.not_not.1 h2, h6.1, by omega⟩
def sweatO (S : Site) (t : Span) (r : Int) : Bool × Bool × Int :=
  if askE S t [r] ≠ 0 then (false, false, askE S t [r]) else (wet t.hi (rmD S.rooms r.toNat).tlo (rmD S.rooms r.toNat).dlo, mayS t (rmD S.rooms r.toNat), 0)
end Go.Proofs.YtfpaihjcbpaneaaGreatDoor.D
namespace Go.Proofs.YtfpaihjcbpaneaaGreatDoor
open Go.RowKit D
set_option linter.unusedVariables false
set_option linter.unusedSimpArgs false
attribute [local go_sem high] run_minI run_maxI
attribute [local go_sem] upon2 cls_cell cls_frozen forall_const exists_eq_left'
attribute [local go_sem] FirstUpon
theorem ints_oneB {w : World} {b : Nat} {a : Int} {t : TypeId} (h : w.heap[b]? = some (.cells #[.int .i64 a] t (0, 0))) : IntsS w ⟨some ⟨b, 0, none⟩, 1⟩ [a] :=
  ⟨Nat.le_refl _, by show 1 ≤ 9223372036854775807; omega, fun i j hi hj => ⟨b, 0, rfl, by
    obtain rfl : i = 0 := by have hi : i < 1 := hi; omega
    obtain rfl : j = 0 := by omega
    rw [cell_blk h]; rfl⟩⟩
set_option maxRecDepth 100000 in
set_option maxHeartbeats 8000000 in
theorem sweats_any {S : Site} {s : SSl} {t : Span} {r : Int} {w : World} (hS : SiteAt w S s) (hm : MaxAt w) :
    Calls Tryz.prog 26 #[.agg #[.slice s.r.a S.rooms.length s.r.cap, .slice s.c.a S.cans.length s.c.cap, .int .i64 S.rlo, .int .i64 S.rhi, .slice s.p.a S.steps.length s.p.cap], .agg #[.int .i64 t.lo, .int .i64 t.hi], .int .i64 r] w fun e' w' => e' = .returned (.tuple #[.bool (sweatO S t r).1, .bool (sweatO S t r).2.1, .int .i64 (sweatO S t r).2.2]) ∧ Below w.heap.size w w' := by
  have HS := Lib.hid hS; have HM := Lib.hid hm
  clear hS hm
  go_enter Tryz.func26, Tryz.ntmps26
  go_wp2_with (fail)
  refine calls_name ?_
  intro w1 hw1
  obtain ⟨n3, hn3⟩ : ∃ n, n = w.heap.size := ⟨_, rfl⟩
  obtain ⟨n4, hn4⟩ : ∃ n, n = n3 + 1 := ⟨_, rfl⟩
  obtain ⟨bq, hbq⟩ : ∃ n, n = n4 + 1 := ⟨_, rfl⟩
  have hE1 : Ext2 w w1 := by rw [hw1]; exact ext_trans (ext_trans (below_alloc' _ _) (below_alloc' _ _)) (below_alloc' _ _)
  have X3 : Hid (w1.heap[n3]? = some (Obj.cells #[.slice s.r.a S.rooms.length s.r.cap, .slice s.c.a S.cans.length s.c.cap, .int .i64 S.rlo, .int .i64 S.rhi, .slice s.p.a S.steps.length s.p.cap] 28)) := Lib.hid (by rw [hw1, hn3]; exact blk_alloc (blk_alloc (blk_new _ _) _) _)
  have X4 : Hid (w1.heap[n4]? = some (Obj.cells #[.int .i64 t.lo, .int .i64 t.hi] 25)) := Lib.hid (by rw [hw1, hn4, hn3]; exact blk_alloc (blk_new' _ _ (by simp)) _)
  have nq : w1.heap[bq]? = some (.cells #[.int .i64 r] 3 (0, 0)) := by rw [hw1, hbq, hn4, hn3]; exact blk_new' _ _ (by simp)
  rw [← hn3, ← hn4, ← hbq]
  have l3 : w.heap.size ≤ n3 := by omega
  have l34 : n3 < n4 := by omega
  refine (asked_any (l := [r]) (HS.out.below hE1) (ints_oneB nq) (HM.out.below hE1)).mono ?_
  rintro e w2 ⟨rfl, hb2⟩
  have HE2 := Lib.hid (ext_trans hE1 hb2)
  have Y3 := Lib.hid (Ext2.blk hb2 X3.out); have Y4 := Lib.hid (Ext2.blk hb2 X4.out)
  obtain ⟨x, hx⟩ : ∃ x, x = askE S t [r] := ⟨_, rfl⟩
  rw [← hx]
  have HX := Lib.hid hx
  clear hw1 hn3 hn4 hbq hE1 nq hb2 hx
  by_cases hx0 : x = 0
  case neg =>
    have hd : (x != 0) = true := by simp [hx0]
    have HN := Lib.hid hx0
    clear hx0
    go_wp2_with (fail)
    have e0 : sweatO S t r = (false, false, x) := by unfold sweatO; rw [← HX.out, if_pos HN.out]
    refine bodyPost_ret (v := .tuple #[.bool false, .bool false, .int .i64 x]) ?_ rfl ⟨by rw [e0], HE2.out⟩
    simp [results, Tryz.results26, go_sem]
  subst hx0
  have hd : ((0 : Int) != 0) = false := rfl
  obtain ⟨hck, hsp, hr0, hr1⟩ := askE1_ok HX.out.symm
  have hti := spanE_in hsp
  obtain ⟨rn, hrn⟩ : ∃ n : Nat, n = r.toNat := ⟨_, rfl⟩
  have er : r = (rn : Int) := by omega
  have hrl : rn < S.rooms.length := by omega
  obtain ⟨bR, oR, haR, c0, c1, c2, c3, c4, c5, c6, c7, c8, c9⟩ := rm_cells (HS.out.below HE2.out).rm hrl
  have hri := (hck.room hrl).1
  obtain ⟨R, hR⟩ : ∃ R, R = rmD S.rooms rn := ⟨_, rfl⟩
  rw [← hR] at c0 c1 c2 c3 c4 c5 c6 c7 c8 c9 hri
  obtain ⟨wb, hwb⟩ : ∃ b, b = wet t.hi R.tlo R.dlo := ⟨_, rfl⟩
  obtain ⟨mb, hmb⟩ : ∃ b, b = mayS t R := ⟨_, rfl⟩
  have HW : Hid (∀ W, Calls Tryz.prog 60 #[.int .i64 t.hi, .int .i64 R.tlo, .int .i64 R.dlo] W fun e w' => e = .returned (.bool wb) ∧ Below W.heap.size W w') := Lib.hid fun W => by rw [hwb]; exact wet_any W hti.2.2.1 hti.2.2.2 hri.1 hri.2.1 hri.2.2.2.2.1 hri.2.2.2.2.2.1
  have HMy : Hid (∀ W, Calls Tryz.prog 61 #[.agg #[.int .i64 t.lo, .int .i64 t.hi], .agg #[.string R.name, .int .i64 R.tlo, .int .i64 R.thi, .int .i64 R.dlo, .int .i64 R.dhi, .bool R.people, .bool R.allows, .int .i64 R.most, .int .i64 R.x, .int .i64 R.y]] W fun e w' => e = .returned (.bool mb) ∧ Below W.heap.size W w') := Lib.hid fun W => by rw [hmb]; exact may_any W hti hri
  have e0 : sweatO S t r = (wb, mb, 0) := by unfold sweatO; rw [if_neg (by rw [← HX.out]; decide), ← hrn, ← hR, ← hwb, ← hmb]
  have HE0 := Lib.hid e0
  have x3 := Y3.out; have x4 := Y4.out
  rw [haR] at x3
  have k4 := blk_lt x4
  have m4 : ¬ n4 = w2.heap.size := by omega
  have i0 : (0 : Int) ≤ r := by omega
  have hrt : r.toNat = rn := hrn.symm
  have q3c := cell_blk x3
  have q3f := frz_blk x3
  have q4c := cell_blk x4
  have q4f := frz_blk x4
  clear hck hsp hti hri hrn hR hwb hmb e0 x3 x4 haR er
  go_wp2_with (fail)
  refine region_ev [] [0, 1, 2, 3, 4, 5, 6, 7, 8, 9, 10, 11, 12, 13, 14] [] [] (by kernel_rfl) (by kernel_rfl) (by intro c a d v w h; cases d <;> exact h) ?_
  simp only [picks, List.drop_succ_cons, List.drop_zero]
  repeat (refine wpQ0_step (fun K hK => ?_); go_simp; (refine hK _ ?_; clear hK K))
  refine wpQ0_nil ?_
  repeat ((with_reducible refine wpQ2_step (fun K hK => ?_)); go_simp; first | ((with_reducible refine hK _ ?_); clear hK K) | (apply Exists.intro; refine ⟨fun x => ?_, hK _ ?_⟩; (first | (with_reducible exact HW.out x.1) | (with_reducible exact HMy.out x.1)); clear hK K))
  refine wpQ2_nil ?_
  refine Events.none_ fun w5 hg5 => ?_
  simp only [picks, List.drop_succ_cons, List.drop_zero]
  go_wp2_with (fail)
  refine bodyPost_ret (v := .tuple #[.bool wb, .bool mb, .int .i64 0]) ?_ rfl ⟨by rw [HE0.out], ext_trans HE2.out (ext_trans (below_alloc' _ _) hg5)⟩
  simp [results, Tryz.results26, go_sem]
end Go.Proofs.YtfpaihjcbpaneaaGreatDoor
namespace Go.Proofs.YtfpaihjcbpaneaaGreatDoor.D
def warmO (S : Site) (t : Span) (r h : Int) : Span × Int :=
  if askE S t [r] ≠ 0 then (⟨0, 0⟩, askE S t [r]) else if inB h 0 2400 = false then (⟨0, 0⟩, 7) else (warmN S (rmD S.rooms r.toNat) h.toNat t, 0)
end Go.Proofs.YtfpaihjcbpaneaaGreatDoor.D
namespace Go.Proofs.YtfpaihjcbpaneaaGreatDoor
open Go.RowKit D
set_option linter.unusedVariables false
set_option linter.unusedSimpArgs false
attribute [local go_sem high] run_minI run_maxI
attribute [local go_sem] upon2 cls_cell cls_frozen forall_const exists_eq_left'
attribute [local go_sem] FirstUpon
theorem warmEnd {w W : World} {S : Site} {t : Span} {r h : Int} {n8 : Nat} {T : Array Value} {u : Span} {e : Int} (ho : warmO S t r h = (u, e)) (hB : Below w.heap.size w W) (l8 : w.heap.size ≤ n8) (x8 : ∃ a b, W.heap[n8]? = some (.cells #[a, b] 25 (0, 0))) (t8 : T.getD 8 undef = .pointer (some ⟨n8, 0, none⟩)) (t9 : T.getD 9 undef = .int .i64 e) :
    bodyPost Tryz.prog Tryz.f28 (fun e' w' => e' = .returned (.tuple #[.agg #[.int .i64 (warmO S t r h).1.lo, .int .i64 (warmO S t r h).1.hi], .int .i64 (warmO S t r h).2]) ∧ Below w.heap.size w w') .ret { tmps := T, defers := [] } ((W.setCell ⟨n8, 0, none⟩ (.int .i64 u.lo)).setCell ⟨n8, 1, none⟩ (.int .i64 u.hi)) := by
  obtain ⟨a, b, x8⟩ := x8
  have c8 := cell_blk (Eq.trans (blk_set (blk_set x8 0 (.int .i64 u.lo)) 1 (.int .i64 u.hi)) rfl)
  have u8 : T[8]?.getD undef = .pointer (some ⟨n8, 0, none⟩) := by rw [← t8, Array.getD_eq_getD_getElem?]
  have u9 : T[9]?.getD undef = .int .i64 e := by rw [← t9, Array.getD_eq_getD_getElem?]
  refine bodyPost_ret (v := .tuple #[.agg #[.int .i64 u.lo, .int .i64 u.hi], .int .i64 e]) ?_ rfl ⟨by rw [ho], below_set (below_set hB l8) l8⟩
  simp [results, Tryz.results28, go_sem, c8, t8, t9, u8, u9]
set_option maxRecDepth 100000 in
set_option maxHeartbeats 8000000 in
theorem warmA_any {S : Site} {s : SSl} {t : Span} {r h : Int} {w : World} (hS : SiteAt w S s) (hm : MaxAt w) :
    Calls Tryz.prog 28 #[.agg #[.slice s.r.a S.rooms.length s.r.cap, .slice s.c.a S.cans.length s.c.cap, .int .i64 S.rlo, .int .i64 S.rhi, .slice s.p.a S.steps.length s.p.cap], .agg #[.int .i64 t.lo, .int .i64 t.hi], .int .i64 r, .int .i64 h] w fun e' w' => e' = .returned (.tuple #[.agg #[.int .i64 (warmO S t r h).1.lo, .int .i64 (warmO S t r h).1.hi], .int .i64 (warmO S t r h).2]) ∧ Below w.heap.size w w' := by
  have HS := Lib.hid hS; have HM := Lib.hid hm
  clear hS hm
  go_enter Tryz.func28, Tryz.ntmps28
  go_wp2_with (fail)
  refine calls_name ?_
  intro w1 hw1
  obtain ⟨n4, hn4⟩ : ∃ n, n = w.heap.size := ⟨_, rfl⟩
  obtain ⟨n5, hn5⟩ : ∃ n, n = n4 + 1 := ⟨_, rfl⟩
  obtain ⟨n8, hn8⟩ : ∃ n, n = n5 + 1 := ⟨_, rfl⟩
  obtain ⟨bq, hbq⟩ : ∃ n, n = n8 + 1 := ⟨_, rfl⟩
  have hE1 : Ext2 w w1 := by rw [hw1]; exact ext_trans (ext_trans (ext_trans (below_alloc' _ _) (below_alloc' _ _)) (below_alloc' _ _)) (below_alloc' _ _)
  have X4 : Hid (w1.heap[n4]? = some (Obj.cells #[.slice s.r.a S.rooms.length s.r.cap, .slice s.c.a S.cans.length s.c.cap, .int .i64 S.rlo, .int .i64 S.rhi, .slice s.p.a S.steps.length s.p.cap] 28)) := Lib.hid (by rw [hw1, hn4]; exact (four_blk w _ _ _ _).1)
  have X5 : Hid (w1.heap[n5]? = some (Obj.cells #[.int .i64 t.lo, .int .i64 t.hi] 25)) := Lib.hid (by rw [hw1, hn5, hn4]; exact (four_blk w _ _ _ _).2.1)
  have X8 : Hid (w1.heap[n8]? = some (Obj.cells #[.int .i64 0, .int .i64 0] 25)) := Lib.hid (by rw [hw1, hn8, hn5, hn4]; exact (four_blk w _ _ _ _).2.2.1)
  have nq : w1.heap[bq]? = some (.cells #[.int .i64 r] 3 (0, 0)) := by rw [hw1, hbq, hn8, hn5, hn4]; exact (four_blk w _ _ _ _).2.2.2.1
  rw [← hn4, ← hn5, ← hn8, ← hbq]
  have l4 : w.heap.size ≤ n4 := by omega
  have l45 : n4 < n5 := by omega
  have l58 : n5 < n8 := by omega
  refine (asked_any (l := [r]) (HS.out.below hE1) (ints_oneB nq) (HM.out.below hE1)).mono ?_
  rintro e w2 ⟨rfl, hb2⟩
  have HE2 := Lib.hid (ext_trans hE1 hb2)
  have Y4 := Lib.hid (Ext2.blk hb2 X4.out); have Y5 := Lib.hid (Ext2.blk hb2 X5.out); have Y8 := Lib.hid (Ext2.blk hb2 X8.out)
  obtain ⟨x, hx⟩ : ∃ x, x = askE S t [r] := ⟨_, rfl⟩
  rw [← hx]
  have HX := Lib.hid hx
  have x8 := Y8.out
  have q8c := cell_blk x8
  have q8f := frz_blk x8
  clear hw1 hn4 hn5 hn8 hbq hE1 nq hb2 hx x8
  by_cases hx0 : x = 0
  case neg =>
    have hd : (x != 0) = true := by simp [hx0]
    have HN := Lib.hid hx0
    clear hx0
    go_wp2_with (fail)
    have e0 : warmO S t r h = (⟨0, 0⟩, x) := by unfold warmO; rw [← HX.out, if_pos HN.out]
    exact warmEnd e0 HE2.out (by omega) ⟨_, _, Y8.out⟩ rfl rfl
  subst hx0
  have hd : ((0 : Int) != 0) = false := rfl
  rcases (Bool.eq_false_or_eq_true (outB h 0 2400)).symm with ho | ho
  case inr =>
    have HO := Lib.hid ho
    go_wp2_with (go_at_call 33; (with_reducible refine (out_any _ _ _ _).mono ?_); rintro e w' ⟨rfl, rfl⟩)
    have e0 : warmO S t r h = (⟨0, 0⟩, 7) := by unfold warmO; rw [if_neg (by rw [← HX.out]; decide), if_pos (by have := HO.out; rw [outB_in] at this; simpa using this)]
    exact warmEnd e0 HE2.out (by omega) ⟨_, _, Y8.out⟩ rfl rfl
  have hih : inB h 0 2400 = true := by have := ho; rw [outB_in] at this; simpa using this
  obtain ⟨hck, hsp, hr0, hr1⟩ := askE1_ok HX.out.symm
  have hti := spanE_in hsp
  have g1 := inB_iff.1 hih
  obtain ⟨rn, hrn⟩ : ∃ n : Nat, n = r.toNat := ⟨_, rfl⟩
  obtain ⟨hn, hhn⟩ : ∃ n : Nat, n = h.toNat := ⟨_, rfl⟩
  have er : r = (rn : Int) := by omega
  have eh : h = (hn : Int) := by omega
  have hrl : rn < S.rooms.length := by omega
  have hh24 : hn ≤ 2400 := by omega
  have HCK := Lib.hid hck; have HTI := Lib.hid hti; have HER := Lib.hid er
  have HW0 : Hid (warmO S t r h = (warmN S (rmD S.rooms rn) hn t, 0)) := Lib.hid (by unfold warmO; rw [if_neg (by rw [← HX.out]; decide), if_neg (by rw [hih]; decide), ← hrn, ← hhn])
  subst eh
  have x4 := Y4.out
  have k5 := blk_lt Y5.out
  have q4c := cell_blk x4
  have q4f := frz_blk x4
  clear hck hsp hti g1 hrn hhn er hih hr0 hr1 x4 q8c q8f
  go_wp2_with (go_at_call 33; (with_reducible refine (out_any _ _ _ _).mono ?_); rintro e w' ⟨rfl, rfl⟩)
  refine wp_name ?_
  intro w3 hw3
  obtain ⟨bv, hbv⟩ : ∃ b, b = w2.heap.size := ⟨_, rfl⟩
  have hE3 : Ext2 w2 w3 := by rw [hw3]; exact below_alloc' _ _
  have xv : w3.heap[bv]? = some (Obj.cells #[.slice s.r.a S.rooms.length s.r.cap, .slice s.c.a S.cans.length s.c.cap, .int .i64 S.rlo, .int .i64 S.rhi, .slice s.p.a S.steps.length s.p.cap, (.slice none 0 0)] 76) := by rw [hw3, hbv]; exact blk_new _ _
  have l8v : n8 < bv := by have := blk_lt Y8.out; omega
  rw [← hbv]
  have HE3 := Lib.hid (ext_trans HE2.out hE3); have XV := Lib.hid xv
  have Z5 := Lib.hid (hE3.blk Y5.out); have Z8 := Lib.hid (hE3.blk Y8.out)
  clear hw3 hbv q4c q4f k5 xv hE3 ho
  go_loopw [27] (fun z wr => ∃ k : Nat, z = .int .i64 (k : Int) ∧ k ≤ hn ∧ Below w.heap.size w wr ∧ wr.heap[n5]? = some (Obj.cells #[.int .i64 (warmN S (rmD S.rooms rn) k t).lo, .int .i64 (warmN S (rmD S.rooms rn) k t).hi] 25) ∧ wr.heap[n8]? = some (Obj.cells #[.int .i64 0, .int .i64 0] 25) ∧ wr.heap[bv]? = some (Obj.cells #[.slice s.r.a S.rooms.length s.r.cap, .slice s.c.a S.cans.length s.c.cap, .int .i64 S.rlo, .int .i64 S.rhi, .slice s.p.a S.steps.length s.p.cap, (.slice none 0 0)] 76)) (fun z _ => hn - (intOf z).toNat)
  case atStart => exact ⟨0, rfl, by omega, HE3.out, Z5.out, Z8.out, XV.out⟩
  case round =>
    obtain ⟨k, rfl, hk, hB, x5, x8, xv⟩ := hrel
    have HB := Lib.hid hB; have X5' := Lib.hid x5; have X8' := Lib.hid x8; have XV' := Lib.hid xv
    by_cases hlt : k < hn
    · go_light
      have i2 : (k : Int) < (hn : Int) := by omega
      have w3' : IntKind.i64.wrap ((k : Int) + 1) = (k : Int) + 1 := IntWalk.i64_in _ (by omega)
      have q5c := cell_blk x5
      have q5f := frz_blk x5
      clear hB x5 x8 xv
      go_wp2_with (fail)
      have hVl : VltAt wr S s bv [] ⟨none, 0⟩ := ⟨XV'.out, HS.out.below HB.out, ⟨Nat.le_refl _, by decide, fun i j hi _ => absurd hi (Nat.not_lt_zero i)⟩⟩
      have h := warm_any hVl hrl HCK.out.rates (HCK.out.room hrl).1 (warmN_in HCK.out.rates (HCK.out.room hrl).1 k HTI.out)
      rw [← HER.out] at h
      refine h.mono ?_
      clear h hVl
      rintro e w6 ⟨rfl, hb6⟩
      have HB6 := Lib.hid (below_ext HB.out hb6)
      have X56 := Lib.hid (Ext2.blk hb6 X5'.out); have X86 := Lib.hid (Ext2.blk hb6 X8'.out); have XV6 := Lib.hid (Ext2.blk hb6 XV'.out)
      have x56 := X56.out
      have q6c := cell_blk x56
      have q6f := frz_blk x56
      clear hb6 q5c q5f x56
      go_wp2_with (fail)
      go_roundw
      case rel => exact ⟨k + 1, by go_num, by omega, below_set (below_set HB6.out (by omega)) (by omega), by rw [warmN_succ]; exact Eq.trans (blk_set (blk_set X56.out _ _) _ _) rfl, blk_set_ne (blk_set_ne X86.out (by omega)) (by omega), blk_set_ne (blk_set_ne XV6.out (by omega)) (by omega)⟩
      case measure => simp [intOf]; omega
    · obtain rfl : k = hn := by omega
      have r1 : ¬ (k : Int) < (k : Int) := by omega
      have q5c := cell_blk x5
      have q5f := frz_blk x5
      have q8c := cell_blk x8
      have q8f := frz_blk x8
      clear hB x5 x8 xv
      go_wp2_with (fail)
      have e0 : warmO S t r ((k : Nat) : Int) = (warmN S (rmD S.rooms rn) k t, 0) := HW0.out
      exact warmEnd e0 HB.out (by omega) ⟨_, _, X8'.out⟩ rfl rfl
end Go.Proofs.YtfpaihjcbpaneaaGreatDoor
namespace Go.Proofs.YtfpaihjcbpaneaaGreatDoor.D
def nearE (S : Site) (wh : List Int) : Int := if (checkV S).2.2 ≠ 0 then (checkV S).2.2 else if (wh.length : Int) ≠ S.cans.length then 2 else if anyF (fun i => outR S (intD wh i)) wh.length then 4 else 0
theorem nearE_ok {S : Site} {wh : List Int} (h : nearE S wh = 0) : Chk S ∧ wh.length = S.cans.length ∧ ∀ i, i < S.cans.length → 0 ≤ intD wh i ∧ intD wh i < S.rooms.length := by
  unfold nearE at h
  split at h
  · rename_i h1; exact absurd h h1
  · rename_i h1
    split at h
    · cases h
    · rename_i h2
      split at h
      · cases h
      · rename_i h3
        have h2 : wh.length = S.cans.length := by have := Decidable.not_not.1 h2; omega
        refine ⟨chk_iff.1 (Decidable.not_not.1 h1), h2, fun i hi => ?_⟩
        have h4 : firstN (fun i => outR S (intD wh i)) wh.length = wh.length := by
          have := firstN_le (fun i => outR S (intD wh i)) wh.length
          simp only [anyF, decide_eq_true_eq] at h3
          omega
        have h5 := (firstN_spec (p := fun i => outR S (intD wh i)) (n := wh.length)).1 i (by omega)
        have h6 : inB (intD wh i) 0 ((S.rooms.length : Int) - 1) = true := by
          have : outR S (intD wh i) = false := h5
          unfold outR at this
          rw [outB_in] at this
          simpa using this
        have := inB_iff.1 h6
        omega
end Go.Proofs.YtfpaihjcbpaneaaGreatDoor.D
namespace Go.Proofs.YtfpaihjcbpaneaaGreatDoor
open Go.RowKit D
set_option linter.unusedVariables false
set_option linter.unusedSimpArgs false
attribute [local go_sem high] run_minI run_maxI
attribute [local go_sem] upon2 cls_cell cls_frozen forall_const exists_eq_left'
attribute [local go_sem] FirstUpon
def NearOut (w : World) (S : Site) (wh : List Int) (e : Ending) (w' : World) : Prop :=
  ∃ v, e = .returned (.tuple #[v, .int .i64 (nearE S wh)]) ∧ OwnR w' w.heap.size 115 2 v (if nearE S wh = 0 then (nears S wh).length else 0) (nrC (nears S wh)) ∧ Below w.heap.size w w'
theorem nearNo {w W : World} {S : Site} {wh : List Int} {T : Array Value} {x : Int} (hx : nearE S wh = x) (h0 : x ≠ 0) (hB : Below w.heap.size w W) (t4 : T.getD 4 undef = .slice none 0 0) (t5 : T.getD 5 undef = .int .i64 x) :
    bodyPost Tryz.prog Tryz.f23 (NearOut w S wh) .ret { tmps := T, defers := [] } W := by
  have u4 : T[4]?.getD undef = .slice none 0 0 := by rw [← t4, Array.getD_eq_getD_getElem?]
  have u5 : T[5]?.getD undef = .int .i64 x := by rw [← t5, Array.getD_eq_getD_getElem?]
  refine bodyPost_ret (v := .tuple #[.slice none 0 0, .int .i64 x]) ?_ rfl ⟨_, by rw [hx], by rw [hx, if_neg h0]; exact own_nil _ _ _ _ _, hB⟩
  simp [results, Tryz.results23, go_sem, t4, t5, u4, u5]
set_option maxRecDepth 100000 in
set_option maxHeartbeats 2000000 in
theorem near1_any {S : Site} {s : SSl} {b : Nat} {r : Int} {w : World} (hS : SiteAt w S s) (hb : w.heap[b]? = some (Obj.cells #[.slice s.r.a S.rooms.length s.r.cap, .slice s.c.a S.cans.length s.c.cap, .int .i64 S.rlo, .int .i64 S.rhi, .slice s.p.a S.steps.length s.p.cap] 28)) :
    Calls Tryz.prog 57 #[.int .i64 r, .pointer (some ⟨b, 0, none⟩)] w fun e w' => e = .returned (.bool (outR S r)) ∧ Below w.heap.size w w' := by
  have hrl := hS.rm.le; have hrm := hS.rm.max
  have w5' : IntKind.i64.wrap ((S.rooms.length : Int) - 1) = (S.rooms.length : Int) - 1 := IntWalk.i64_in _ (by omega)
  have qc := cell_blk hb
  have qf := frz_blk hb
  clear hb hS
  go_enter Tryz.func57, Tryz.ntmps57
  go_wp2_with (go_at_call 33; (with_reducible refine (out_any _ _ _ _).mono ?_); rintro e w' ⟨rfl, rfl⟩)
  go_ret
  exact ⟨rfl, Below.refl _ _⟩
set_option maxRecDepth 100000 in
set_option maxHeartbeats 8000000 in
theorem nearA_any {S : Site} {s : SSl} {wh : List Int} {sl : Sl} {w : World} (hS : SiteAt w S s) (hL : IntsS w sl wh) (hm : MaxAt w) :
    Calls Tryz.prog 23 #[.agg #[.slice s.r.a S.rooms.length s.r.cap, .slice s.c.a S.cans.length s.c.cap, .int .i64 S.rlo, .int .i64 S.rhi, .slice s.p.a S.steps.length s.p.cap], .slice sl.a wh.length sl.cap] w (NearOut w S wh) := by
  have HS := Lib.hid hS; have HL := Lib.hid hL; have HM := Lib.hid hm
  have hll := hL.le; have hlm := hL.max
  have hrl := hS.rm.le; have hrm := hS.rm.max; have hcl := hS.cn.le; have hcm := hS.cn.max
  obtain ⟨p1, p2, p3, hp⟩ : ∃ a b c, checkV S = (a, b, c) := ⟨_, _, _, rfl⟩
  have HP := Lib.hid hp
  clear hS hL hm hp
  go_enter Tryz.func23, Tryz.ntmps23
  go_wp2_with (fail)
  refine calls_name ?_
  intro w1 hw1
  obtain ⟨n2, hn2⟩ : ∃ n, n = w.heap.size := ⟨_, rfl⟩
  have hE1 : Ext2 w w1 := by rw [hw1]; exact below_alloc' _ _
  have x2 : w1.heap[n2]? = some (Obj.cells #[.slice s.r.a S.rooms.length s.r.cap, .slice s.c.a S.cans.length s.c.cap, .int .i64 S.rlo, .int .i64 S.rhi, .slice s.p.a S.steps.length s.p.cap] 28) := by rw [hw1, hn2]; exact blk_new _ _
  rw [← hn2]
  clear hw1 hn2
  refine (check_any (HS.out.below hE1) (HM.out.below hE1)).mono ?_
  rintro e w2 ⟨rfl, hb2⟩
  rw [HP.out]
  dsimp only
  have x2 := Ext2.blk hb2 x2
  have X2 := Lib.hid x2; have HE2 := Lib.hid (ext_trans hE1 hb2)
  clear hb2 hE1 x2
  by_cases hp3 : p3 = 0
  case neg =>
    have hd : (p3 != 0) = true := by simp [hp3]
    have HPN := Lib.hid hp3
    clear hp3
    go_wp2_with (fail)
    exact nearNo (by unfold nearE; rw [HP.out, if_pos HPN.out]) HPN.out HE2.out rfl rfl
  subst hp3
  have hd : ((0 : Int) != 0) = false := rfl
  have x2 := X2.out
  have q2c := cell_blk x2
  have q2f := frz_blk x2
  clear x2
  by_cases hlen : wh.length = S.cans.length
  case neg =>
    have hdl : ((wh.length : Int) != (S.cans.length : Int)) = true := by simp; omega
    have hnl : ¬ (wh.length : Int) = (S.cans.length : Int) := by omega
    have HNL := Lib.hid hlen
    clear hlen
    go_wp2_with (fail)
    exact nearNo (x := 2) (by unfold nearE; rw [HP.out, if_neg (by simp), if_pos (by have := HNL.out; omega)]) (by omega) HE2.out rfl rfl
  have hdl : ((wh.length : Int) != (S.cans.length : Int)) = false := by rw [hlen]; simp
  have HLN := Lib.hid hlen
  have HC := Lib.hid (contI_any (g := 57) (lb := #[.pointer (some ⟨n2, 0, none⟩)]) (p := fun i => outR S (intD wh i)) (HL.out.below HE2.out) (fun _ _ => rfl) fun i W hi hW => near1_any (HS.out.below (ext_trans HE2.out hW)) (Ext2.blk hW X2.out))
  obtain ⟨v, hv⟩ : ∃ v, v = anyF (fun i => outR S (intD wh i)) wh.length := ⟨_, rfl⟩
  rw [← hv] at HC
  have HV := Lib.hid hv
  rw [hlen] at hdl HC ⊢
  clear hv hlen
  go_wp2_with (fail)
  refine HC.out.mono ?_
  rintro e w3 ⟨rfl, hb3⟩
  have HE3 := Lib.hid (ext_trans HE2.out hb3); have Y2 := Lib.hid (Ext2.blk hb3 X2.out)
  clear hb3 q2c q2f
  cases v
  case true =>
    go_wp2_with (fail)
    exact nearNo (x := 4) (by unfold nearE; rw [HP.out, if_neg (by simp), if_neg (by have := HLN.out; omega), if_pos HV.out.symm]) (by omega) HE3.out rfl rfl
  have HE0 : Hid (nearE S wh = 0) := Lib.hid (by unfold nearE; rw [HP.out, if_neg (by simp), if_neg (by have := HLN.out; omega), if_neg (by rw [← HV.out]; decide)])
  have x2 := Y2.out
  have q2c := cell_blk x2
  have q2f := frz_blk x2
  clear x2
  go_wp2_with (fail)
  refine calls_name ?_
  intro w4 hw4
  obtain ⟨bv, hbv⟩ : ∃ b, b = w3.heap.size := ⟨_, rfl⟩
  have hE4 : Ext2 w3 w4 := by rw [hw4]; exact below_alloc' _ _
  have xv : w4.heap[bv]? = some (Obj.cells #[.slice s.r.a S.rooms.length s.r.cap, .slice s.c.a S.cans.length s.c.cap, .int .i64 S.rlo, .int .i64 S.rhi, .slice s.p.a S.steps.length s.p.cap, (.slice none 0 0)] 76) := by rw [hw4, hbv]; exact blk_new _ _
  rw [← hbv]
  have HB4 := Lib.hid (ext_trans HE3.out hE4)
  have hVl : VltAt w4 S s bv [] ⟨none, 0⟩ := ⟨xv, HS.out.below HB4.out, ⟨Nat.le_refl _, by decide, fun i j hi _ => absurd hi (Nat.not_lt_zero i)⟩⟩
  obtain ⟨hck, hl, hr⟩ := nearE_ok HE0.out
  have h := near_any hVl hck.nrOk (HL.out.below HB4.out) hl hr
  refine h.mono ?_
  rintro e w5 ⟨v, rfl, hO, hb5⟩
  have HO := Lib.hid hO; have HB5 := Lib.hid (below_ext HB4.out hb5)
  have hz4 := HB4.out.size
  clear h hVl hck hl hr hO hb5 xv hw4 hbv hE4
  go_wp2_with (fail)
  refine bodyPost_ret (v := .tuple #[v, .int .i64 0]) ?_ rfl ⟨v, by rw [HE0.out], by rw [HE0.out, if_pos rfl]; exact HO.out.base hz4, HB5.out⟩
  simp [results, Tryz.results23, go_sem]
end Go.Proofs.YtfpaihjcbpaneaaGreatDoor
