/-
  decay.Strength, decay.Grow.
-/
import Derived.Test.YtfjbgcaogffiaaaDLevA
import Derived.Test.YtfjbgcaogffiaaaDRefStr
import Derived.Test.YtfjbgcaogffiaaaDRegB
import Derived.Test.YtfjbgcaogffiaaaDCaught
namespace Go.Proofs.Ytfjbgcaogffiaaa
open Go.RowKit D
set_option linter.unusedVariables false
set_option linter.unusedSimpArgs false
attribute [local go_sem high] run_minI run_maxI
attribute [local go_sem] upon2 cls_cell cls_frozen forall_const exists_eq_left'
attribute [local go_sem] FirstUpon atBlk_cell
theorem fault_new {w : World} {b : Nat} {c0 c1 c2 a0 a1 a2 : Int} (hb : w.heap[b]? = some (faultO c0 c1 c2)) : (((w.setCell ⟨b, 0, none⟩ (.int .i64 a0)).setCell ⟨b, 1, none⟩ (.int .i64 a1)).setCell ⟨b, 2, none⟩ (.int .i64 a2)).heap[b]? = some (faultO a0 a1 a2) := by
  simp [World.setCell, Array.getElem?_modify, hb, faultO]
/-- What a closure that checks does: the fault is left as it was, or it is set to the error. -/
def Caught (bf : Nat) (er : Int) (w : World) (e : Ending) (w' : World) : Prop :=
  e = .returned (.tuple #[]) ∧ w'.heap[bf]? = some (faultO 0 0 er) ∧ ∃ w2, Below w.heap.size w w2 ∧ (w' = w2 ∨ w' = ((w2.setCell ⟨bf, 0, none⟩ (.int .i64 0)).setCell ⟨bf, 1, none⟩ (.int .i64 0)).setCell ⟨bf, 2, none⟩ (.int .i64 er))
theorem caught_end {fn : Func} (hres : fn.results = #[]) {w w1 : World} {bf : Nat} {er : Int} {tmps : Array Value} (he : er ≠ 0) (hf : w.heap[bf]? = some (faultO 0 0 0)) (hb : Below w.heap.size w w1) :
    bodyPostD Try.prog fn (Caught bf er w) (Exit.panic [{ v := .iface 103 (.agg #[.int .i64 0, .int .i64 0, .int .i64 er]), recovered := false }])
      { tmps := tmps, defers := [{ target := Target.fn (Fn.func 68) #[], args := #[.pointer (some ⟨bf, 0, none⟩)] }] } w1 := by
  have h1 := Ext2.blk hb hf
  refine leaves_cons (f := 68) (args := #[.pointer (some ⟨bf, 0, none⟩)]) (by simp) (by simp [go_sem]) ?_
  refine (caught_panicking bf 0 0 er 0 0 0 [] w1 h1).mono ?_
  rintro e' u' w'' ⟨rfl, rfl, rfl⟩
  dsimp only
  rw [settle_done]
  refine ⟨.tuple #[], ?_, rfl, fault_new h1, w1, hb, .inr rfl⟩
  simp [results, hres, go_sem]
theorem caught_no {fn : Func} (hres : fn.results = #[]) {w w1 : World} {bf : Nat} {tmps : Array Value} (hf : w.heap[bf]? = some (faultO 0 0 0)) (hb : Below w.heap.size w w1) :
    Leaves Try.prog fn tmps (Caught bf 0 w) [{ target := Target.fn (Fn.func 68) #[], args := #[.pointer (some ⟨bf, 0, none⟩)] }] .returning w1 := by
  have h1 := Ext2.blk hb hf
  refine leaves_cons (f := 68) (args := #[.pointer (some ⟨bf, 0, none⟩)]) (by simp) (by simp [go_sem]) ?_
  refine (caught_idle _ w1).mono ?_
  rintro e' u' w'' ⟨rfl, rfl, rfl⟩
  refine ⟨.tuple #[], ?_, rfl, h1, w'', hb, .inl rfl⟩
  simp [results, hres, go_sem]
set_option maxRecDepth 100000 in
set_option maxHeartbeats 2000000 in
theorem strength1_any {bf bd : Nat} {d : Day} {w : World} (hf : w.heap[bf]? = some (faultO 0 0 0)) (hd : w.heap[bd]? = some (dayO d)) : Calls Try.prog 67 #[.pointer (some ⟨bf, 0, none⟩), .pointer (some ⟨bd, 0, none⟩)] w (Caught bf (climateE d) w) := by
  obtain ⟨er, her⟩ : ∃ er, er = climateE d := ⟨_, rfl⟩
  have HC : Hid (∀ W, Calls Try.prog 69 #[.agg #[.int .i64 0, .int .i64 0, .int .i64 0], .agg #[.int .i64 d.tlo, .int .i64 d.thi, .int .i64 d.dlo, .int .i64 d.dhi]] W fun e w' => e = doneOr 0 0 er ∧ Below W.heap.size W w') := Lib.hid fun W => by rw [her]; exact climateP 0 0 0 d W
  rw [← her]
  have hd1 := hd
  unfold dayO at hd1
  clear her
  have qdc := cell_blk hd1
  have qdf := frz_blk hd1
  go_enter_defers Try.func67, Try.ntmps67
  go_wp2_with (fail)
  (with_reducible refine (HC.out _).mono ?_)
  rintro e w1 ⟨rfl, hb1⟩
  by_cases h0 : er = 0
  · subst h0
    rw [doneOr_0]
    go_wp2_with (fail)
    exact caught_no Try.results67 hf hb1
  · rw [doneOr_n _ _ h0]
    unfold faultV
    go_wp2_with (fail)
    exact caught_end Try.results67 h0 hf hb1
set_option maxRecDepth 100000 in
set_option maxHeartbeats 2000000 in
theorem grow1_any {bf bd : Nat} {n : Span} {w : World} (hf : w.heap[bf]? = some (faultO 0 0 0)) (hd : w.heap[bd]? = some (spanO n.lo n.hi)) : Calls Try.prog 71 #[.pointer (some ⟨bf, 0, none⟩), .pointer (some ⟨bd, 0, none⟩)] w (Caught bf (levelsE n.lo n.hi) w) := by
  obtain ⟨er, her⟩ : ∃ er, er = levelsE n.lo n.hi := ⟨_, rfl⟩
  have HC : Hid (∀ W, Calls Try.prog 72 #[.agg #[.int .i64 0, .int .i64 0, .int .i64 0], .agg #[.int .i64 n.lo, .int .i64 n.hi]] W fun e w' => e = doneOr 0 0 er ∧ Below W.heap.size W w') := Lib.hid fun W => by rw [her]; exact levelsP 0 0 0 n.lo n.hi W
  rw [← her]
  have hd1 := hd
  unfold spanO at hd1
  clear her
  have qdc := cell_blk hd1
  have qdf := frz_blk hd1
  go_enter_defers Try.func71, Try.ntmps71
  go_wp2_with (fail)
  (with_reducible refine (HC.out _).mono ?_)
  rintro e w1 ⟨rfl, hb1⟩
  by_cases h0 : er = 0
  · subst h0
    rw [doneOr_0]
    go_wp2_with (fail)
    exact caught_no Try.results71 hf hb1
  · rw [doneOr_n _ _ h0]
    unfold faultV
    go_wp2_with (fail)
    exact caught_end Try.results71 h0 hf hb1
theorem Caught.keep {bf b : Nat} {er : Int} {w w' : World} {e : Ending} {x : Obj} (h : Caught bf er w e w') (hx : w.heap[b]? = some x) (hne : bf ≠ b) : w'.heap[b]? = some x := by
  obtain ⟨-, -, w2, hb, rfl | rfl⟩ := h
  · exact Ext2.blk hb hx
  · exact blk_set_ne (blk_set_ne (blk_set_ne (Ext2.blk hb hx) hne) hne) hne
theorem Caught.below {bf n : Nat} {er : Int} {w0 w w' : World} {e : Ending} (h : Caught bf er w e w') (hb : Below n w0 w) (hn : n ≤ bf) (hs : n ≤ w.heap.size) : Below n w0 w' := by
  obtain ⟨-, -, w2, h2, rfl | rfl⟩ := h
  · exact hb.trans (h2.mono hs)
  · exact below_set (below_set (below_set (hb.trans (h2.mono hs)) hn) hn) hn
theorem Caught.size {bf : Nat} {er : Int} {w w' : World} {e : Ending} (h : Caught bf er w e w') : w.heap.size ≤ w'.heap.size := by
  obtain ⟨-, -, w2, h2, rfl | rfl⟩ := h
  · exact h2.size
  · simp only [World.size_setCell]; exact h2.size
set_option maxRecDepth 100000 in
set_option maxHeartbeats 2000000 in
theorem StrengthP_any {R : Rule} {hh hv : Sl} {d : Day} {w : World} (hR : RuleAt w R hh hv) :
    Calls Try.prog 40 #[.agg #[.slice hh.a R.heat.length hh.cap, .slice hv.a R.wet.length hv.cap, .int .i64 R.own, .int .i64 R.feed, .int .i64 R.g0, .int .i64 R.g1, .int .i64 R.g2, .int .i64 R.lost], .agg #[.int .i64 d.tlo, .int .i64 d.thi, .int .i64 d.dlo, .int .i64 d.dhi]] w fun e w' => e = .returned (.tuple #[.agg #[.int .i64 (strengthV R d).1.lo, .int .i64 (strengthV R d).1.hi], .int .i64 (strengthV R d).2]) ∧ Below w.heap.size w w' := by
  obtain ⟨p1, p2, p3, hp⟩ : ∃ a b c, D.check R = (a, b, c) := ⟨_, _, _, rfl⟩
  obtain ⟨er, her⟩ : ∃ er, er = climateE d := ⟨_, rfl⟩
  have hs : strengthV R d = if p3 ≠ 0 then (⟨0, 0⟩, p3) else if er ≠ 0 then (⟨0, 0⟩, er) else (strength R d, 0) := by rw [strengthV, hp, her]
  have HC : Hid (∀ W, Below w.heap.size w W → Calls Try.prog 62 #[.agg #[.slice hh.a R.heat.length hh.cap, .slice hv.a R.wet.length hv.cap, .int .i64 R.own, .int .i64 R.feed, .int .i64 R.g0, .int .i64 R.g1, .int .i64 R.g2, .int .i64 R.lost]] W fun e w' => e = .returned (.agg #[.int .i64 p1, .int .i64 p2, .int .i64 p3]) ∧ Below W.heap.size W w') := Lib.hid fun W hW => by
    have h := rule_any (hR.below hW); rw [hp] at h; exact h
  have HCL : Hid (∀ bf bd W, W.heap[bf]? = some (faultO 0 0 0) → W.heap[bd]? = some (dayO d) → Calls Try.prog 67 #[.pointer (some ⟨bf, 0, none⟩), .pointer (some ⟨bd, 0, none⟩)] W (Caught bf er W)) := Lib.hid fun bf bd W h1 h2 => by rw [her]; exact strength1_any h1 h2
  have HSV := Lib.hid hs
  have HRR := Lib.hid hR; have HP := Lib.hid hp; have HER := Lib.hid her
  obtain ⟨V, hV⟩ : ∃ V, V = strengthV R d := ⟨_, rfl⟩
  rw [← hV] at HSV ⊢
  have hp30 : p3 = 0 → p1 = 0 ∧ p2 = 0 := fun h => by
    have h2 : (D.check R).2.2 = 0 := by rw [hp]; exact h
    have h3 := (check_ok h2).2
    rw [hp] at h3
    exact ⟨by simpa using congrArg (·.1) h3, by simpa using congrArg (·.2.1) h3⟩
  clear hR hp her hs hV
  go_enter Try.func40, Try.ntmps40
  go_wp2_with (fail)
  (with_reducible refine (HC.out _ ?_).mono ?_)
  · repeat' (first | exact Below.refl _ _ | assumption | refine below_drewN ?_ _ | refine Below.drew ?_ | refine Below.alloc ?_ (by first | assumption | omega | (simp <;> omega)) _ | refine Below.setCell ?_ (by first | assumption | omega | (simp <;> omega)) _ | refine Ext2.on (by assumption) ?_)
  rintro e w1 ⟨rfl, hb1⟩
  have x0 : w1.heap[w.heap.size]? = some (Obj.cells #[.slice hh.a R.heat.length hh.cap, .slice hv.a R.wet.length hv.cap, .int .i64 R.own, .int .i64 R.feed, .int .i64 R.g0, .int .i64 R.g1, .int .i64 R.g2, .int .i64 R.lost] 25) := below_blk hb1 (by repeat' (first | (with_reducible assumption) | (with_reducible refine blk_set_ne ?_ ?_) | (with_reducible exact blk_new _ _) | (with_reducible refine blk_new' _ _ (by first | (with_reducible rfl) | (simp; done) | (simp <;> omega))) | (with_reducible refine blk_alloc ?_ _) | (with_reducible refine blk_drew ?_) | (with_reducible refine blk_drewN ?_ _) | (with_reducible refine Ext2.blk (by assumption) ?_) | omega | (simp <;> omega) | exact blk_set (by assumption) _ _)) (by first | (simp; done) | (simp; omega))
  have x1 : w1.heap[w.heap.size + 1]? = some (Obj.cells #[.int .i64 d.tlo, .int .i64 d.thi, .int .i64 d.dlo, .int .i64 d.dhi] 48) := below_blk hb1 (by repeat' (first | (with_reducible assumption) | (with_reducible refine blk_set_ne ?_ ?_) | (with_reducible exact blk_new _ _) | (with_reducible refine blk_new' _ _ (by first | (with_reducible rfl) | (simp; done) | (simp <;> omega))) | (with_reducible refine blk_alloc ?_ _) | (with_reducible refine blk_drew ?_) | (with_reducible refine blk_drewN ?_ _) | (with_reducible refine Ext2.blk (by assumption) ?_) | omega | (simp <;> omega) | exact blk_set (by assumption) _ _)) (by first | (simp; done) | (simp; omega))
  have x2 : w1.heap[w.heap.size + 1 + 1]? = some (Obj.cells #[.int .i64 0, .int .i64 0] 28) := below_blk hb1 (by repeat' (first | (with_reducible assumption) | (with_reducible refine blk_set_ne ?_ ?_) | (with_reducible exact blk_new _ _) | (with_reducible refine blk_new' _ _ (by first | (with_reducible rfl) | (simp; done) | (simp <;> omega))) | (with_reducible refine blk_alloc ?_ _) | (with_reducible refine blk_drew ?_) | (with_reducible refine blk_drewN ?_ _) | (with_reducible refine Ext2.blk (by assumption) ?_) | omega | (simp <;> omega) | exact blk_set (by assumption) _ _)) (by simp)
  have hB1 : Below w.heap.size w w1 := Below.trans (by repeat' (first | exact Below.refl _ _ | assumption | refine below_drewN ?_ _ | refine Below.drew ?_ | refine Below.alloc ?_ (by first | assumption | omega | (simp <;> omega)) _ | refine Below.setCell ?_ (by first | assumption | omega | (simp <;> omega)) _ | refine Ext2.on (by assumption) ?_)) (hb1.mono (by first | (simp; done) | (simp; omega)))
  have hz1 := blk_lt x2
  clear hb1
  have HX0 := Lib.hid x0; have HX1 := Lib.hid x1
  by_cases z : p3 = 0
  · obtain ⟨rfl, rfl⟩ := hp30 z
    subst z
    have HSV := Lib.hid (show V = if er ≠ 0 then (⟨0, 0⟩, er) else (strength R d, 0) by have h := HSV.out; rwa [if_neg (fun h => h rfl)] at h)
    clear hp30 x0 x1
    go_wp2_with (fail)
    refine calls_name ?_
    intro w2 h2
    have f2 : w2.heap[w1.heap.size]? = some (faultO 0 0 0) := by rw [h2]; exact blk_new _ _
    have hE2 : Ext2 w1 w2 := by rw [h2]; exact below_alloc' _ _
    clear h2
    refine (HCL.out _ _ _ f2 (Ext2.blk hE2 HX1.out)).mono ?_
    rintro e w3 hc
    have he := hc.1
    subst he
    have hs2 := Ext2.size hE2
    have hs3 := hc.size
    have x0 := hc.keep (Ext2.blk hE2 HX0.out) (by omega)
    have x1 := hc.keep (Ext2.blk hE2 HX1.out) (by omega)
    have x2 := hc.keep (Ext2.blk hE2 x2) (by omega)
    have f3 := hc.2.1
    have hB3 : Below w.heap.size w w3 := hc.below (hB1.trans (Below.mono hE2 hB1.size)) (by omega) (by omega)
    have hfl := blk_lt f2
    unfold faultO at f3
    clear hc f2 hE2 hB1
    by_cases z : er = 0
    · subst z
      have HV2 : Hid (V = (strength R d, 0)) := Lib.hid (by rw [HSV.out, if_neg (fun h => h rfl)])
      have hok : RuleOk R ∧ DayOk d := by
        have h : (strengthV R d).2 = 0 := by rw [strengthV, HP.out, if_neg (fun h => h rfl), ← HER.out, if_neg (fun h => h rfl)]
        exact ⟨(strengthV_ok h).1, (strengthV_ok h).2.1⟩
      have HST : Hid (Calls Try.prog 70 #[.agg #[.slice hh.a R.heat.length hh.cap, .slice hv.a R.wet.length hv.cap, .int .i64 R.own, .int .i64 R.feed, .int .i64 R.g0, .int .i64 R.g1, .int .i64 R.g2, .int .i64 R.lost], .agg #[.int .i64 d.tlo, .int .i64 d.thi, .int .i64 d.dlo, .int .i64 d.dhi]] w3 fun e w' => e = .returned (.agg #[.int .i64 (strength R d).lo, .int .i64 (strength R d).hi]) ∧ Below w3.heap.size w3 w') := Lib.hid (strength_any (HRR.out.below hB3) hok.1 hok.2)
      obtain ⟨S, hS⟩ : ∃ S, S = strength R d := ⟨_, rfl⟩
      rw [← hS] at HST HV2
      clear hok hS
      have q0c := cell_blk x0
      have q0f := frz_blk x0
      have q1c := cell_blk x1
      have q1f := frz_blk x1
      have qfc := cell_blk f3
      have qff := frz_blk f3
      go_wp2_with (fail)
      (with_reducible refine HST.out.mono ?_)
      rintro e w4 ⟨rfl, hb4⟩
      have hB4 := hB3.trans (hb4.mono hB3.size)
      have x2 := Ext2.blk hb4 x2
      clear q0c q0f q1c q1f qfc qff hb4
      have q2c := cell_blk x2
      have q2f := frz_blk x2
      go_wp2_with (fail)
      have r1 : ((w4.setCell ⟨w.heap.size + 1 + 1, 0, none⟩ (.int .i64 S.lo)).setCell ⟨w.heap.size + 1 + 1, 1, none⟩ (.int .i64 S.hi)).heap[w.heap.size + 1 + 1]? = some (Obj.cells #[.int .i64 S.lo, .int .i64 S.hi] 28) := Eq.trans (blk_set (blk_set x2 _ _) _ _) rfl
      refine bodyPost_ret (v := .tuple #[.agg #[.int .i64 S.lo, .int .i64 S.hi], .int .i64 0]) ?_ rfl ⟨by rw [HV2.out], below_set (below_set hB4 (by omega)) (by omega)⟩
      have zc := cell_blk r1
      have zf := frz_blk r1
      simp [results, Try.results40, go_sem, zc]
    · have HV2 : Hid (V = (⟨0, 0⟩, er)) := Lib.hid (by rw [HSV.out, if_pos z])
      have hne : (er == 0) = false := by simp; omega
      have hne2 : (er != 0) = true := by simp; omega
      clear z
      have q2c := cell_blk x2
      have q2f := frz_blk x2
      have qfc := cell_blk f3
      have qff := frz_blk f3
      go_wp2_with (fail)
      haveI hcls : Nonempty (Cls (AtBlk w1.heap.size #[.int .i64 0, .int .i64 0, .int .i64 er] 103)) := ⟨⟨w3, f3⟩⟩
      refine region_evH (AtBlk w1.heap.size #[.int .i64 0, .int .i64 0, .int .i64 er] 103) [1, 2] [0] [] [3, 4] (AtBlk.ext f3) (by kernel_rfl) (by kernel_rfl) (by intro c a d v w h; cases d <;> exact h) ?_
      simp only [picks, List.drop_succ_cons, List.drop_zero]
      repeat (refine wpQS_step (fun K hK => ?_); go_simp; (refine hK _ ?_; clear hK K))
      refine wpQS_nil ?_
      repeat ((with_reducible refine wpQ2_step (fun K hK => ?_)); go_simp; first | ((with_reducible refine hK _ ?_); clear hK K) | (apply Exists.intro; refine ⟨fun x => ?_, hK _ ?_⟩; (fail); clear hK K))
      refine wpQ2_nil ?_
      refine EventsH.none_ fun w4 hg4 => ?_
      simp only [picks, List.drop_succ_cons, List.drop_zero]
      have x2 := Ext2.blk hg4 x2
      have f4 := Ext2.blk hg4 f3
      have hB4 := hB3.trans (Below.mono hg4 hB3.size)
      clear q2c q2f qfc qff
      have q2c := cell_blk x2
      have q2f := frz_blk x2
      refine wpListH_cons ?_
      go_wp2_with (fail)
      have f5 := blk_set_ne (b' := w.heap.size + 1 + 1) (o := 1) (v := .int .i64 0) (blk_set_ne (b' := w.heap.size + 1 + 1) (o := 0) (v := .int .i64 0) f4 (by omega)) (by omega)
      refine ⟨f5, wpListH_cons ?_⟩
      go_wp2_with (fail)
      refine ⟨f5, wpListH_nil ?_⟩
      go_wp2_with (fail)
      have r1 : ((w4.setCell ⟨w.heap.size + 1 + 1, 0, none⟩ (.int .i64 0)).setCell ⟨w.heap.size + 1 + 1, 1, none⟩ (.int .i64 0)).heap[w.heap.size + 1 + 1]? = some (Obj.cells #[.int .i64 0, .int .i64 0] 28) := Eq.trans (blk_set (blk_set x2 _ _) _ _) rfl
      refine bodyPost_ret (v := .tuple #[.agg #[.int .i64 (Span.mk 0 0).lo, .int .i64 (Span.mk 0 0).hi], .int .i64 er]) ?_ rfl ⟨by rw [HV2.out], below_set (below_set hB4 (by omega)) (by omega)⟩
      have zc := cell_blk r1
      have zf := frz_blk r1
      simp [results, Try.results40, go_sem, zc]
  · have HV2 : Hid (V = (⟨0, 0⟩, p3)) := Lib.hid (by have h := HSV.out; rwa [if_pos z] at h)
    have hne : (p3 == 0) = false := by simp; omega
    have hne2 : (p3 != 0) = true := by simp; omega
    clear z hp30 x0 x1
    go_wp2_with (fail)
    refine wp_name ?_
    intro w3 h3
    have f3 : w3.heap[w1.heap.size]? = some (.cells #[.int .i64 p1, .int .i64 p2, .int .i64 p3] 103 (0, 0)) := by rw [h3]; exact blk_new _ _
    have hE3 : Ext2 w1 w3 := by rw [h3]; exact below_alloc' _ _
    have x2 := Ext2.blk hE3 x2
    have hB3 := hB1.trans (Below.mono hE3 hB1.size)
    clear h3
    have q2c := cell_blk x2
    have q2f := frz_blk x2
    have qfc := cell_blk f3
    have qff := frz_blk f3
    haveI hcls : Nonempty (Cls (AtBlk w1.heap.size #[.int .i64 p1, .int .i64 p2, .int .i64 p3] 103)) := ⟨⟨w3, f3⟩⟩
    refine region_evH (AtBlk w1.heap.size #[.int .i64 p1, .int .i64 p2, .int .i64 p3] 103) [1, 2] [0] [] [3, 4] (AtBlk.ext f3) (by kernel_rfl) (by kernel_rfl) (by intro c a d v w h; cases d <;> exact h) ?_
    simp only [picks, List.drop_succ_cons, List.drop_zero]
    repeat (refine wpQS_step (fun K hK => ?_); go_simp; (refine hK _ ?_; clear hK K))
    refine wpQS_nil ?_
    repeat ((with_reducible refine wpQ2_step (fun K hK => ?_)); go_simp; first | ((with_reducible refine hK _ ?_); clear hK K) | (apply Exists.intro; refine ⟨fun x => ?_, hK _ ?_⟩; (fail); clear hK K))
    refine wpQ2_nil ?_
    refine EventsH.none_ fun w4 hg4 => ?_
    simp only [picks, List.drop_succ_cons, List.drop_zero]
    have x2 := Ext2.blk hg4 x2
    have f4 := Ext2.blk hg4 f3
    have hB4 := hB3.trans (Below.mono hg4 hB3.size)
    clear q2c q2f qfc qff
    have q2c := cell_blk x2
    have q2f := frz_blk x2
    refine wpListH_cons ?_
    go_wp2_with (fail)
    have f5 := blk_set_ne (b' := w.heap.size + 1 + 1) (o := 1) (v := .int .i64 0) (blk_set_ne (b' := w.heap.size + 1 + 1) (o := 0) (v := .int .i64 0) f4 (by omega)) (by omega)
    refine ⟨f5, wpListH_cons ?_⟩
    go_wp2_with (fail)
    refine ⟨f5, wpListH_nil ?_⟩
    go_wp2_with (fail)
    have r1 : ((w4.setCell ⟨w.heap.size + 1 + 1, 0, none⟩ (.int .i64 0)).setCell ⟨w.heap.size + 1 + 1, 1, none⟩ (.int .i64 0)).heap[w.heap.size + 1 + 1]? = some (Obj.cells #[.int .i64 0, .int .i64 0] 28) := Eq.trans (blk_set (blk_set x2 _ _) _ _) rfl
    refine bodyPost_ret (v := .tuple #[.agg #[.int .i64 (Span.mk 0 0).lo, .int .i64 (Span.mk 0 0).hi], .int .i64 p3]) ?_ rfl ⟨by rw [HV2.out], below_set (below_set hB4 (by omega)) (by omega)⟩
    have zc := cell_blk r1
    have zf := frz_blk r1
    simp [results, Try.results40, go_sem, zc]
end Go.Proofs.Ytfjbgcaogffiaaa
