/-
  Functions of the outright laws: part, keeps.
  The laws' walked: a course of a task.
  Levels, as the outright laws use it: of a task that is valid, and of one that is not.
-/
import Derived.Test.YtfjbgcaogffiaaaDPlwA
import Derived.Test.YtfjbgcaogffiaaaDRef4
import Derived.Test.YtfjbgcaogffiaaaDRegB
import Derived.Test.YtfjbgcaogffiaaaDPlwB
import Derived.Test.YtfjbgcaogffiaaaDRefStr
import Derived.Test.YtfjbgcaogffiaaaDRefTk
import Derived.Test.YtfjbgcaogffiaaaDAwake
namespace Go.Proofs.Ytfjbgcaogffiaaa
open Go.RowKit D
set_option linter.unusedVariables false
set_option linter.unusedSimpArgs false
attribute [local go_sem high] run_minI run_maxI
attribute [local go_sem] upon2 cls_cell cls_frozen forall_const exists_eq_left'
attribute [local go_sem] FirstUpon
theorem hid_ext {w w1 : World} {P : World → Prop} (H : Hid (∀ W, Below w.heap.size w W → P W)) (hB : Below w.heap.size w w1) : Hid (∀ W, Ext2 w1 W → P W) := Lib.hid fun W hW => H.out W (hB.trans (Below.mono hW hB.size))
set_option maxRecDepth 100000 in
set_option maxHeartbeats 2000000 in
theorem part_any {s : Span} {n : Int} (hs : 0 ≤ s.lo ∧ s.lo ≤ s.hi ∧ s.hi ≤ 1000000) (h0 : 0 ≤ n) (h1 : n ≤ 255) (w : World) : Calls Try.prog 23 #[.agg #[.int .i64 s.lo, .int .i64 s.hi], .int .u8 n] w fun e w' => e = .returned (.int .i64 (partI s n)) ∧ Below w.heap.size w w' := by
  obtain ⟨a1, a2, a3⟩ := hs
  have a : 0 ≤ (s.hi - s.lo) * n := Int.mul_nonneg (by omega) h0
  have b : (s.hi - s.lo) * n ≤ 1000000 * 255 := Int.mul_le_mul (by omega) h1 h0 (by omega)
  have t0 : ((s.hi - s.lo) * n).tdiv 255 = (s.hi - s.lo) * n / 255 := Int.tdiv_eq_ediv_of_nonneg a
  have w0 : IntKind.i64.wrap n = n := IntWalk.i64_in _ (by omega)
  have w1 : IntKind.i64.wrap (s.hi - s.lo) = s.hi - s.lo := IntWalk.i64_in _ (by omega)
  have w2 : IntKind.i64.wrap ((s.hi - s.lo) * n) = (s.hi - s.lo) * n := IntWalk.i64_in _ (by omega)
  have w3 : IntKind.i64.wrap ((s.hi - s.lo) * n / 255) = (s.hi - s.lo) * n / 255 := IntWalk.i64_in _ (by omega)
  have w4 : IntKind.i64.wrap (s.lo + (s.hi - s.lo) * n / 255) = s.lo + (s.hi - s.lo) * n / 255 := IntWalk.i64_in _ (by omega)
  go_enter Try.func23, Try.ntmps23
  go_wp2
  go_ret
  exact ⟨ret_int (by rw [partI]), by repeat' (first | exact Below.refl _ _ | assumption | refine below_drewN ?_ _ | refine Below.drew ?_ | refine Below.alloc ?_ (by first | assumption | omega | (simp <;> omega)) _ | refine Below.setCell ?_ (by first | assumption | omega | (simp <;> omega)) _)⟩
/-- What is known where keeps is called: a valid rule, levels in their span. -/
theorem keeps_any {T : Task} {s : TSl} {sc : Sl} {l : List Int} {y : D.Test} {w : World} (hT : TaskAt w T s) (hk : RuleOk T.rule) (hl : IntsS w sc l) (hx : TestOk y) (hd : -100000 ≤ y.day - T.first ∧ y.day - T.first ≤ 100000) (hr : ∀ i, i < l.length → 0 ≤ intD l i ∧ intD l i ≤ 1000000) : Calls Try.prog 27 #[.agg #[.slice s.h.a T.rule.heat.length s.h.cap, .slice s.w.a T.rule.wet.length s.w.cap, .int .i64 T.rule.own, .int .i64 T.rule.feed, .int .i64 T.rule.g0, .int .i64 T.rule.g1, .int .i64 T.rule.g2, .int .i64 T.rule.lost, .int .i64 T.first, .slice s.d.a T.days.length s.d.cap, .int .i64 T.start.lo, .int .i64 T.start.hi, .slice s.t.a T.tests.length s.t.cap], .slice sc.a l.length sc.cap, .agg #[.int .i64 y.day, .int .i64 y.grade, .int .i64 y.err]] w fun e w' => e = .returned (.bool (keepsB T l y)) ∧ Below w.heap.size w w' := by
  obtain ⟨la, lc⟩ := sc
  have hlc := hl.le
  have hlm := hl.max
  dsimp only at hlc hlm
  have w0 : IntKind.i64.wrap (y.day - T.first) = y.day - T.first := IntWalk.i64_in _ (by omega)
  obtain ⟨d, hdd⟩ : ∃ d, d = y.day - T.first := ⟨_, rfl⟩
  have hkb : keepsB T l y = decide (0 ≤ d ∧ d < l.length ∧ grade T.rule (intD l d.toNat) - y.grade ≤ y.err ∧ y.grade - grade T.rule (intD l d.toNat) ≤ y.err) := by rw [keepsB, hdd]
  rw [← hdd] at w0 hd
  have HKB := Lib.hid hkb; clear hkb
  have HDD := Lib.hid hdd
  by_cases h1 : d < 0
  · have HF : Hid (keepsB T l y = false) := Lib.hid (by rw [HKB.out]; exact decide_eq_false (by omega))
    clear hdd hT hl hr
    rw [HF.out]
    go_enter Try.func27, Try.ntmps27
    rw [HDD.out] at h1 w0
    go_wp2_with (fail)
    go_ret
    exact ⟨rfl, by repeat' (first | exact Below.refl _ _ | assumption | refine below_drewN ?_ _ | refine Below.drew ?_ | refine Below.alloc ?_ (by first | assumption | omega | (simp <;> omega)) _ | refine Below.setCell ?_ (by first | assumption | omega | (simp <;> omega)) _)⟩
  · by_cases h2 : (l.length : Int) ≤ d
    · have HF : Hid (keepsB T l y = false) := Lib.hid (by rw [HKB.out]; exact decide_eq_false (by omega))
      clear hdd hT hl hr
      rw [HF.out]
      go_enter Try.func27, Try.ntmps27
      rw [HDD.out] at h1 h2 w0
      go_wp2_with (fail)
      go_ret
      exact ⟨rfl, by repeat' (first | exact Below.refl _ _ | assumption | refine below_drewN ?_ _ | refine Below.drew ?_ | refine Below.alloc ?_ (by first | assumption | omega | (simp <;> omega)) _ | refine Below.setCell ?_ (by first | assumption | omega | (simp <;> omega)) _)⟩
    · obtain ⟨k, rfl⟩ : ∃ k : Nat, d = k := ⟨d.toNat, by omega⟩
      have hkl : k < l.length := by omega
      obtain ⟨b, off, hla, hc⟩ := ints_at' hl hkl
      subst hla
      have hb := cell_lt hc
      dsimp only at hb
      have hn := hr k hkl
      obtain ⟨n, hnn⟩ : ∃ n, n = intD l k := ⟨_, rfl⟩
      rw [← hnn] at hc hn
      obtain ⟨g, hg⟩ : ∃ g, g = grade T.rule n := ⟨_, rfl⟩
      have hgr := grade_rng T.rule n
      rw [← hg] at hgr
      have hgv : gradeV T.rule n = (g, 0) := by
        rw [gradeV, (check_ok (check_mk hk)).2, if_neg (fun h => h rfl), if_neg (by omega), hg]
      have HG : Hid (∀ W, Below w.heap.size w W → Calls Try.prog 29 #[.agg #[.slice s.h.a T.rule.heat.length s.h.cap, .slice s.w.a T.rule.wet.length s.w.cap, .int .i64 T.rule.own, .int .i64 T.rule.feed, .int .i64 T.rule.g0, .int .i64 T.rule.g1, .int .i64 T.rule.g2, .int .i64 T.rule.lost], .int .i64 n] W fun e w' => e = .returned (.tuple #[.int .i64 g, .int .i64 0]) ∧ Below W.heap.size W w') := Lib.hid fun W hW => by
        have h := gradeRef_any (hT.rule.below hW) n; rw [hgv] at h; exact h
      have HKB2 : Hid (keepsB T l y = decide (g - y.grade ≤ y.err ∧ y.grade - g ≤ y.err)) := Lib.hid (by
        rw [HKB.out, show ((k : Int)).toNat = k from Int.toNat_natCast k, ← hnn, ← hg]
        congr 1; apply propext; constructor
        · exact fun h => h.2.2
        · exact fun h => ⟨by omega, by omega, h⟩)
      obtain ⟨⟨x0, x1⟩, x2, x3⟩ := hx
      have p0 : (0 : Int) ≤ (k : Int) := by omega
      have p1 : (k : Int) < (l.length : Int) := by omega
      have wa : IntKind.i64.wrap (g - y.grade) = g - y.grade := IntWalk.i64_in _ (by omega)
      have wb : IntKind.i64.wrap (y.grade - g) = y.grade - g := IntWalk.i64_in _ (by omega)
      have w0' : IntKind.i64.wrap (y.day - T.first) = (k : Int) := by rw [← HDD.out]; exact w0
      have HB := Lib.hid (Nat.lt_of_lt_of_le hb (Nat.le_refl _))
      clear hT hl hr hnn hg hgv HKB w0 hd hdd
      go_enter Try.func27, Try.ntmps27
      go_wp2_with (fail)
      refine wp_name ?_
      intro w1 h1
      have hB1 : Below w.heap.size w w1 := by rw [h1]; repeat' (first | exact Below.refl _ _ | assumption | refine below_drewN ?_ _ | refine Below.drew ?_ | refine Below.alloc ?_ (by first | assumption | omega | (simp <;> omega)) _ | refine Below.setCell ?_ (by first | assumption | omega | (simp <;> omega)) _ | refine Ext2.on (by assumption) ?_)
      have x0 : w1.heap[w.heap.size]? = some (Obj.cells #[.slice s.h.a T.rule.heat.length s.h.cap, .slice s.w.a T.rule.wet.length s.w.cap, .int .i64 T.rule.own, .int .i64 T.rule.feed, .int .i64 T.rule.g0, .int .i64 T.rule.g1, .int .i64 T.rule.g2, .int .i64 T.rule.lost, .int .i64 T.first, .slice s.d.a T.days.length s.d.cap, .int .i64 T.start.lo, .int .i64 T.start.hi, .slice s.t.a T.tests.length s.t.cap] 31) := by rw [h1]; repeat' (first | (with_reducible assumption) | (with_reducible refine blk_set_ne ?_ ?_) | (with_reducible exact blk_new _ _) | (with_reducible refine blk_new' _ _ (by first | (with_reducible rfl) | (simp; done) | (simp <;> omega))) | (with_reducible refine blk_alloc ?_ _) | (with_reducible refine blk_drew ?_) | (with_reducible refine blk_drewN ?_ _) | (with_reducible refine Ext2.blk (by assumption) ?_) | omega | (simp <;> omega) | exact blk_set (by assumption) _ _)
      have x5 : w1.heap[w.heap.size + 1]? = some (Obj.cells #[.int .i64 y.day, .int .i64 y.grade, .int .i64 y.err] 51) := by rw [h1]; repeat' (first | (with_reducible assumption) | (with_reducible refine blk_set_ne ?_ ?_) | (with_reducible exact blk_new _ _) | (with_reducible refine blk_new' _ _ (by first | (with_reducible rfl) | (simp; done) | (simp <;> omega))) | (with_reducible refine blk_alloc ?_ _) | (with_reducible refine blk_drew ?_) | (with_reducible refine blk_drewN ?_ _) | (with_reducible refine Ext2.blk (by assumption) ?_) | omega | (simp <;> omega) | exact blk_set (by assumption) _ _)
      have hc1 := (Below.cell hB1 (p := ⟨b, off + k, none⟩) hb).trans hc
      have HG1 := hid_ext HG hB1
      clear h1 hc
      have q0c := cell_blk x0
      have q0f := frz_blk x0
      refine region_ev [] [0, 1, 2, 3, 4, 5, 6, 7, 8, 9, 10, 11] [] [] (by kernel_rfl) (by kernel_rfl) (by intro c a d v w h; cases d <;> exact h) ?_
      simp only [picks, List.drop_succ_cons, List.drop_zero]
      repeat (refine wpQ0_step (fun K hK => ?_); go_simp; (refine hK _ ?_; clear hK K))
      refine wpQ0_nil ?_
      repeat ((with_reducible refine wpQ2_step (fun K hK => ?_)); go_simp; first | ((with_reducible refine hK _ ?_); clear hK K) | (apply Exists.intro; refine ⟨fun x => ?_, hK _ ?_⟩; (first | (with_reducible exact HG1.out x.1 x.2)); clear hK K))
      refine wpQ2_nil ?_
      refine Events.none_ fun w2 hg2 => ?_
      simp only [picks, List.drop_succ_cons, List.drop_zero]
      have hB2 := hB1.trans (Below.mono hg2 hB1.size)
      have x5 := Ext2.blk hg2 x5
      clear hc1 q0c q0f x0
      have q5c := cell_blk x5
      have q5f := frz_blk x5
      by_cases ha : g - y.grade ≤ y.err
      · by_cases hbb : y.grade - g ≤ y.err
        · have HD := Lib.hid (HKB2.out.trans (decide_eq_true ⟨ha, hbb⟩))
          go_wp2_with (fail)
          go_ret
          exact ⟨ret_bool HD.out.symm, hB2⟩
        · have HD := Lib.hid (HKB2.out.trans (decide_eq_false fun h => hbb h.2))
          go_wp2_with (fail)
          go_ret
          exact ⟨ret_bool HD.out.symm, hB2⟩
      · have HD := Lib.hid (HKB2.out.trans (decide_eq_false fun h => ha h.1))
        go_wp2_with (fail)
        go_ret
        exact ⟨ret_bool HD.out.symm, hB2⟩
end Go.Proofs.Ytfjbgcaogffiaaa
namespace Go.Proofs.Ytfjbgcaogffiaaa
open Go.RowKit D
set_option linter.unusedVariables false
set_option linter.unusedSimpArgs false
attribute [local go_sem high] run_minI run_maxI
attribute [local go_sem] upon2 cls_cell cls_frozen forall_const exists_eq_left'
attribute [local go_sem] FirstUpon
def u8C (l : List Int) (i : Nat) (_ : Nat) : Value := .int .u8 (intD l i)
abbrev U8S (w : World) (s : Sl) (l : List Int) : Prop := RowS w s 1 l.length (u8C l)
def crsC (T : Task) (C : Cse) (i : Nat) (_ : Nat) : Value := .int .i64 (crs T C i)
def walkedRes (T : Task) (C : Cse) : List Int := if (checkTask T).2.2 = 0 then crsL T C else []
def walkedB (T : Task) : Bool := decide ((checkTask T).2.2 = 0)
theorem own_some {w : World} {base : Nat} {e : TypeId} {sz : Nat} {v : Value} {n : Nat} {c : Nat → Nat → Value} (h : OwnR w base e sz v n c) (h0 : 0 < n) : ∃ g cap, v = .slice (some ⟨g, 0, none⟩) n cap ∧ base ≤ g ∧ n ≤ cap ∧ cap ≤ 9223372036854775807 ∧ RowC w g 0 sz n c ∧ (∀ o, w.frozen? ⟨g, o, none⟩ = false) := by
  rcases h.forms with ⟨_, h⟩ | ⟨g, cap, e, h1, h2, h3, h4, h5, -⟩
  · omega
  · exact ⟨g, cap, e, h1, h2, h3, h4, h5⟩
theorem own_one (w : World) {base : Nat} (hb : base ≤ w.heap.size) (e : TypeId) (u : Value) (c : Nat → Nat → Value) (hc : c 0 0 = u) : OwnR (w.alloc (.cells #[u] e)) base e 1 (.slice (some ⟨w.heap.size, 0, none⟩) 1 1) 1 c := by
  have h := World.ownsRow_lit (base := base) (e := e) (size := 1) w #[u] 1 hb (by unfold maxLen; omega) (by simp)
  unfold OwnR
  have e1 : cellsOf 1 1 c = [u] := by simp [cellsOf, hc]
  rw [e1]; exact h
theorem growV_ok {R : Rule} (hR : RuleOk R) {d : Day} (hd : DayOk d) {n : Span} (hn : SpOk n) : growV R d n = (grow R (strength R d) n, 0) := by
  have h1 : strengthV R d = (strength R d, 0) := by rw [strengthV, if_neg (fun h => h (check_mk hR)), if_neg (fun h => h (climate0 hd))]
  rw [growV, h1, if_neg (fun h => h rfl), if_neg (fun h => h (levels0 ⟨hn.1.1, hn.1.2, hn.2⟩))]
set_option maxRecDepth 100000 in
set_option maxHeartbeats 2000000 in
theorem walked_any {T : Task} {s : TSl} {C : Cse} {sc : Sl} {w : World} (hT : TaskAt w T s) (hC : CseOk C) (hs : U8S w sc C.steps) : Calls Try.prog 28 #[.agg #[.slice s.h.a T.rule.heat.length s.h.cap, .slice s.w.a T.rule.wet.length s.w.cap, .int .i64 T.rule.own, .int .i64 T.rule.feed, .int .i64 T.rule.g0, .int .i64 T.rule.g1, .int .i64 T.rule.g2, .int .i64 T.rule.lost, .int .i64 T.first, .slice s.d.a T.days.length s.d.cap, .int .i64 T.start.lo, .int .i64 T.start.hi, .slice s.t.a T.tests.length s.t.cap], .agg #[.int .u8 C.start, .slice sc.a C.steps.length sc.cap]] w fun e w' => (∃ z : Sl, e = .returned (.tuple #[.slice z.a (walkedRes T C).length z.cap, .bool (walkedB T)]) ∧ IntsS w' z (walkedRes T C)) ∧ Below w.heap.size w w' := by
  obtain ⟨p1, p2, p3, hp⟩ : ∃ a b c, D.checkTask T = (a, b, c) := ⟨_, _, _, rfl⟩
  have HC : Hid (∀ W, Below w.heap.size w W → Calls Try.prog 22 #[.agg #[.slice s.h.a T.rule.heat.length s.h.cap, .slice s.w.a T.rule.wet.length s.w.cap, .int .i64 T.rule.own, .int .i64 T.rule.feed, .int .i64 T.rule.g0, .int .i64 T.rule.g1, .int .i64 T.rule.g2, .int .i64 T.rule.lost, .int .i64 T.first, .slice s.d.a T.days.length s.d.cap, .int .i64 T.start.lo, .int .i64 T.start.hi, .slice s.t.a T.tests.length s.t.cap]] W fun e w' => e = .returned (.tuple #[.int .i64 p1, .int .i64 p2, .int .i64 p3]) ∧ Below W.heap.size W w') := Lib.hid fun W hW => by
    have h := checkTaskR_any (hT.below hW); rw [hp] at h; exact h
  have hp3 : (checkTask T).2.2 = p3 := by rw [hp]
  have HP := Lib.hid hp3
  have HT := Lib.hid hT; have HS := Lib.hid hs
  have hsc := hs.le; have hscm := hs.max
  have hdl := hT.days.le
  have hdm := hT.days.max
  clear hT hs hp hp3
  by_cases h0 : p3 = 0
  · subst h0
    have hk := (task_ok HP.out).1
    have HK := Lib.hid hk
    have hnd := hk.nd
    have hst := hk.start
    have HW : Hid (walkedRes T C = crsL T C) := Lib.hid (if_pos HP.out)
    have HB : Hid (walkedB T = true) := Lib.hid (decide_eq_true HP.out)
    rw [HB.out]
    have HP0 : Hid (∀ W, Calls Try.prog 23 #[.agg #[.int .i64 T.start.lo, .int .i64 T.start.hi], .int .u8 C.start] W fun e w' => e = .returned (.int .i64 (crs T C 0)) ∧ Below W.heap.size W w') := Lib.hid fun W => part_any (by omega) hC.1.1 hC.1.2 W
    obtain ⟨c0, hc0⟩ : ∃ c, c = crs T C 0 := ⟨_, rfl⟩
    rw [← hc0] at HP0
    have HC0 := Lib.hid hc0
    clear hk hst hc0
    go_enter Try.func28, Try.ntmps28
    go_wp2_with (fail)
    (with_reducible refine (HC.out _ ?_).mono ?_)
    · repeat' (first | exact Below.refl _ _ | assumption | refine below_drewN ?_ _ | refine Below.drew ?_ | refine Below.alloc ?_ (by first | assumption | omega | (simp <;> omega)) _ | refine Below.setCell ?_ (by first | assumption | omega | (simp <;> omega)) _ | refine Ext2.on (by assumption) ?_)
    rintro e w1 ⟨rfl, hb1⟩
    have hB1 : Below w.heap.size w w1 := Below.trans (by repeat' (first | exact Below.refl _ _ | assumption | refine below_drewN ?_ _ | refine Below.drew ?_ | refine Below.alloc ?_ (by first | assumption | omega | (simp <;> omega)) _ | refine Below.setCell ?_ (by first | assumption | omega | (simp <;> omega)) _ | refine Ext2.on (by assumption) ?_)) (hb1.mono (by simp; omega))
    have x0 : w1.heap[w.heap.size]? = some (Obj.cells #[.slice s.h.a T.rule.heat.length s.h.cap, .slice s.w.a T.rule.wet.length s.w.cap, .int .i64 T.rule.own, .int .i64 T.rule.feed, .int .i64 T.rule.g0, .int .i64 T.rule.g1, .int .i64 T.rule.g2, .int .i64 T.rule.lost, .int .i64 T.first, .slice s.d.a T.days.length s.d.cap, .int .i64 T.start.lo, .int .i64 T.start.hi, .slice s.t.a T.tests.length s.t.cap] 31) := below_blk hb1 (by repeat' (first | (with_reducible assumption) | (with_reducible refine blk_set_ne ?_ ?_) | (with_reducible exact blk_new _ _) | (with_reducible refine blk_new' _ _ (by first | (with_reducible rfl) | (simp; done) | (simp <;> omega))) | (with_reducible refine blk_alloc ?_ _) | (with_reducible refine blk_drew ?_) | (with_reducible refine blk_drewN ?_ _) | (with_reducible refine Ext2.blk (by assumption) ?_) | omega | (simp <;> omega) | exact blk_set (by assumption) _ _)) (by first | (simp; done) | (simp; omega))
    have x1 : w1.heap[w.heap.size + 1]? = some (Obj.cells #[.int .u8 C.start, .slice sc.a C.steps.length sc.cap] 57) := below_blk hb1 (by repeat' (first | (with_reducible assumption) | (with_reducible refine blk_set_ne ?_ ?_) | (with_reducible exact blk_new _ _) | (with_reducible refine blk_new' _ _ (by first | (with_reducible rfl) | (simp; done) | (simp <;> omega))) | (with_reducible refine blk_alloc ?_ _) | (with_reducible refine blk_drew ?_) | (with_reducible refine blk_drewN ?_ _) | (with_reducible refine Ext2.blk (by assumption) ?_) | omega | (simp <;> omega) | exact blk_set (by assumption) _ _)) (by first | (simp; done) | (simp; omega))
    clear hb1
    have q0c := cell_blk x0
    have q0f := frz_blk x0
    have q1c := cell_blk x1
    have q1f := frz_blk x1
    go_wp2_with (fail)
    (with_reducible refine (HP0.out _).mono ?_)
    rintro e w2 ⟨rfl, hb2⟩
    have hB2 := hB1.trans (hb2.mono hB1.size)
    have x0 := Ext2.blk hb2 x0; have x1 := Ext2.blk hb2 x1
    clear hb2 q0c q0f q1c q1f
    have hz2 := blk_lt x1
    have hO2 := own_one w2 (base := w.heap.size + 2) (by omega) 3 (.int .i64 c0) (crsC T C) (by rw [crsC, HC0.out])
    have hB3 := hB2.alloc hB2.size (.cells #[.int .i64 c0] 3)
    have x0 := blk_alloc x0 (.cells #[.int .i64 c0] 3)
    have x1 := blk_alloc x1 (.cells #[.int .i64 c0] 3)
    have HO2 := Lib.hid hO2; have HB3 := Lib.hid hB3; have HX0 := Lib.hid x0; have HX1 := Lib.hid x1
    clear hO2 hB3 x0 x1 hB2 hB1
    go_wp2_with (fail)
    go_loopw [9, 10] (fun v i wr => ∃ k : Nat, i = .int .i64 (k : Int) ∧ k ≤ T.days.length ∧ Below w.heap.size w wr ∧ wr.heap[w.heap.size]? = some (Obj.cells #[.slice s.h.a T.rule.heat.length s.h.cap, .slice s.w.a T.rule.wet.length s.w.cap, .int .i64 T.rule.own, .int .i64 T.rule.feed, .int .i64 T.rule.g0, .int .i64 T.rule.g1, .int .i64 T.rule.g2, .int .i64 T.rule.lost, .int .i64 T.first, .slice s.d.a T.days.length s.d.cap, .int .i64 T.start.lo, .int .i64 T.start.hi, .slice s.t.a T.tests.length s.t.cap] 31) ∧ wr.heap[w.heap.size + 1]? = some (Obj.cells #[.int .u8 C.start, .slice sc.a C.steps.length sc.cap] 57) ∧ OwnR wr (w.heap.size + 2) 3 1 v (k + 1) (crsC T C)) (fun _ i _ => T.days.length - (intOf i).toNat)
    case atStart => exact ⟨0, rfl, by omega, HB3.out, HX0.out, HX1.out, HO2.out⟩
    case round =>
      obtain ⟨k, rfl, hk, hB, x0, x1, hO⟩ := hrel
      have HO := Lib.hid hO; clear hO
      by_cases hlt : k < T.days.length
      · obtain ⟨g0, cp0, rfl, hbg, hn1, hn2, hrow, hfr⟩ := own_some HO.out (Nat.succ_pos k)
        have cv := hrow.one (i := k) (by omega)
        rw [Nat.zero_add] at cv
        obtain ⟨db, doff, hda, hdr⟩ := (HT.out.days.below hB).row (by omega) (by omega)
        obtain ⟨d0, d1, d2, d3⟩ := hdr.four (i := k) hlt
        simp only [dayC] at d0 d1 d2 d3
        have HX0 := Lib.hid x0
        rw [hda] at x0
        obtain ⟨dd, hdd⟩ : ∃ dd, dd = dayD T.days k := ⟨_, rfl⟩
        rw [← hdd] at d0 d1 d2 d3
        have hr := crs_rng HK.out hC (i := k) (by omega)
        have hg1 := gr1_sp HK.out hlt hr
        have hst := step_in hC k
        have hcs : crs T C (k + 1) = partI (gr1 T k (crs T C k)) (stepBy C k) := rfl
        obtain ⟨n, hn⟩ : ∃ n, n = crs T C k := ⟨_, rfl⟩
        obtain ⟨G, hG⟩ : ∃ G, G = gr1 T k n := ⟨_, rfl⟩
        obtain ⟨by_, hby⟩ : ∃ b, b = stepBy C k := ⟨_, rfl⟩
        obtain ⟨m, hm⟩ : ∃ m, m = crs T C (k + 1) := ⟨_, rfl⟩
        have hgv : growV T.rule dd ⟨n, n⟩ = (G, 0) := by
          rw [hG, gr1, force_at hlt, ← hdd]
          exact growV_ok HK.out.rule (by rw [hdd]; exact HK.out.days k hlt) (n := ⟨n, n⟩) ⟨⟨by rw [hn]; exact hr, by rw [hn]; exact hr⟩, Int.le_refl _⟩
        rw [crsC, ← hn] at cv
        rw [← hn, ← hG] at hg1
        rw [← hby] at hst
        rw [← hn, ← hG, ← hby, ← hm] at hcs
        have HG : Hid (∀ W, Below w.heap.size w W → Calls Try.prog 24 #[.agg #[.slice s.h.a T.rule.heat.length s.h.cap, .slice s.w.a T.rule.wet.length s.w.cap, .int .i64 T.rule.own, .int .i64 T.rule.feed, .int .i64 T.rule.g0, .int .i64 T.rule.g1, .int .i64 T.rule.g2, .int .i64 T.rule.lost], .agg #[.int .i64 dd.tlo, .int .i64 dd.thi, .int .i64 dd.dlo, .int .i64 dd.dhi], .agg #[.int .i64 n, .int .i64 n]] W fun e w' => e = .returned (.tuple #[.agg #[.int .i64 G.lo, .int .i64 G.hi], .int .i64 0]) ∧ Below W.heap.size W w') := Lib.hid fun W hW => by
          have h := growRef_any (d := dd) (n := ⟨n, n⟩) (HT.out.rule.below hW); rw [hgv] at h; exact h
        have HSP : Hid (∀ W, Calls Try.prog 25 #[.int .i64 n, .int .i64 n] W fun e w' => e = .returned (.agg #[.int .i64 n, .int .i64 n]) ∧ Below W.heap.size W w') := Lib.hid fun W => span_any n n W
        have HPA : Hid (∀ W, Calls Try.prog 23 #[.agg #[.int .i64 G.lo, .int .i64 G.hi], .int .u8 by_] W fun e w' => e = .returned (.int .i64 m) ∧ Below W.heap.size W w') := Lib.hid fun W => by
          rw [hcs]; exact part_any ⟨hg1.1.1.1, hg1.2, hg1.1.2.2⟩ hst.1 hst.2 W
        have HM := Lib.hid hm; have HBY := Lib.hid hby
        have p0 : (0 : Int) ≤ (k : Int) := by omega
        have p1 : (k : Int) < (T.days.length : Int) := by omega
        have p2 : (k : Int) < ((k + 1 : Nat) : Int) := by omega
        have p3 : (k : Int) < (k : Int) + 1 := by omega
        have w2' : IntKind.i64.wrap ((k : Int) + 1) = (k : Int) + 1 := IntWalk.i64_in _ (by omega)
        have HG1 := hid_ext HG hB
        clear hdd hn hG hby hm hr hg1 hst hcs hgv hrow hfr hdr hda
        have q0c := cell_blk x0
        have q0f := frz_blk x0
        have q1c := cell_blk x1
        have q1f := frz_blk x1
        go_wp2_with (fail)
        refine region_ev [] [0, 1, 2, 3, 4, 5, 6, 7, 8, 9, 10, 11, 12, 13] [(14, 12, some 15)] [16] (by kernel_rfl) (by kernel_rfl) (by intro c a d v w h; cases d <;> exact h) ?_
        simp only [picks, List.drop_succ_cons, List.drop_zero]
        repeat (refine wpQ0_step (fun K hK => ?_); go_simp; (refine hK _ ?_; clear hK K))
        refine wpQ0_nil ?_
        repeat ((with_reducible refine wpQ2_step (fun K hK => ?_)); go_simp; first | ((with_reducible refine hK _ ?_); clear hK K) | (apply Exists.intro; refine ⟨fun x => ?_, hK _ ?_⟩; (first | (with_reducible exact HSP.out x.1) | (with_reducible exact HG1.out x.1 x.2)); clear hK K))
        refine wpQ2_nil ?_
        refine Events.fill1 (fun b => .pointer (some ⟨b, 0, none⟩)) (Obj.cells #[.int .i64 0, .int .i64 0] 28) (Obj.cells #[.int .i64 G.lo, .int .i64 G.hi] 28) ⟨_, rfl, rfl, rfl, fun W => by kernel_rfl⟩ ⟨_, rfl, rfl, rfl, fun b W hb => ?_⟩ fun b12 w3 hb12 hg3 nb12 => ?_
        · have hbc := cell_blk hb; have hbf := frz_blk hb; go_simp; exact turn_two hb _ _
        simp only [picks, List.drop_succ_cons, List.drop_zero]
        have hE3 : Ext2 wr w3 := hg3
        have hB3 := hB.trans (Below.mono hE3 hB.size)
        have x0 := Ext2.blk hE3 x0; have x1 := Ext2.blk hE3 x1
        have HO3 := Lib.hid (HO.out.below hE3)
        clear q0c q0f q1c q1f cv d0 d1 d2 d3 HG HG1 HSP hg3 HO
        have hz1 := blk_lt x1
        have HX0 := Lib.hid (Ext2.blk hE3 HX0.out)
        rcases Nat.eq_zero_or_pos C.steps.length with hls | hls
        case' inl =>
          have hby0 : by_ = 0 := by rw [HBY.out, stepBy, if_pos hls]
          subst hby0
          have x1' : w3.heap[w.heap.size + 1]? = some (Obj.cells #[.int .u8 C.start, .slice sc.a 0 sc.cap] 57) := by rw [x1, hls]
          have HX1 := Lib.hid x1; clear x1 hls
          have q1c := cell_blk x1'
          have q1f := frz_blk x1'
          have q12c := cell_blk nb12
          have q12f := frz_blk nb12
          go_wp2_with (fail)
          have x1 := HX1.out
        case' inr =>
          obtain ⟨sb, soff, hsa, hsr⟩ := (HS.out.below hB3).row hls (by omega)
          obtain ⟨q, hq⟩ : ∃ q, q = k % C.steps.length := ⟨_, rfl⟩
          have hql : q < C.steps.length := by rw [hq]; exact Nat.mod_lt _ hls
          have sv := hsr.one (i := q) hql
          have hby1 : by_ = intD C.steps q := by rw [HBY.out, stepBy, if_neg (by omega), hq]
          rw [u8C, ← hby1] at sv
          have hm1 : (k : Int).tmod (C.steps.length : Int) = (q : Int) := by rw [hq]; rfl
          have hm2 : (k : Int) % (C.steps.length : Int) = (q : Int) := by rw [hq]; rfl
          have wq : IntKind.i64.wrap (q : Int) = (q : Int) := IntWalk.i64_in _ (by omega)
          have r0 : (0 : Int) ≤ (q : Int) := by omega
          have r1 : (q : Int) < (C.steps.length : Int) := by omega
          have r2 : ¬ (C.steps.length : Int) = 0 := by omega
          have r3 : (0 : Int) < (C.steps.length : Int) := by omega
          have x1' := x1
          rw [hsa] at x1'
          have HX1 := Lib.hid x1; clear x1 hq hby1 hsr hsa
          have q1c := cell_blk x1'
          have q1f := frz_blk x1'
          have q12c := cell_blk nb12
          have q12f := frz_blk nb12
          go_wp2_with (fail)
          go_quiet (fail)
          go_wp2_with (fail)
          have x1 := HX1.out
        all_goals
          refine calls_name ?_
          intro w4 h4
          have hE4 : Ext2 w3 w4 := by rw [h4]; repeat' (first | exact Below.refl _ _ | assumption | refine below_drewN ?_ _ | refine Below.drew ?_ | refine Below.alloc ?_ (by first | assumption | omega | (simp <;> omega)) _ | refine Below.setCell ?_ (by first | assumption | omega | (simp <;> omega)) _ | refine Ext2.on (by assumption) ?_)
          clear h4
          (with_reducible refine (HPA.out _).mono ?_)
          rintro e w5 ⟨rfl, hb5⟩
          have hE5 : Ext2 w3 w5 := hE4.trans (Below.mono hb5 hE4.size)
          have hB5 := hB3.trans (Below.mono hE5 hB3.size)
          have x0 := Ext2.blk hE5 HX0.out; have x1 := Ext2.blk hE5 x1
          have HO5 := Lib.hid (HO3.out.below hE5)
          have hz5 := blk_lt x1
          clear hb5
          first | clear q1c q1f q12c q12f | skip
          go_wp2_with (at_builtin; refine app_one [.int .i64 m] elInt rfl _ _ rfl (w.heap.size + 2) rfl (HO5.out.below (below_alloc' _ _)) w5.heap.size 1 rfl (blk_new _ _) (by simp [Value.oneCell']) (by omega) (by simp; omega) ?_; intro v' w6 hO6 hg6)
          have hB6 := below_app hB5 (HO5.out.base (by omega)) hB5.size hg6
          have y0 : w6.heap[w.heap.size]? = some (Obj.cells #[.slice s.h.a T.rule.heat.length s.h.cap, .slice s.w.a T.rule.wet.length s.w.cap, .int .i64 T.rule.own, .int .i64 T.rule.feed, .int .i64 T.rule.g0, .int .i64 T.rule.g1, .int .i64 T.rule.g2, .int .i64 T.rule.lost, .int .i64 T.first, .slice s.d.a T.days.length s.d.cap, .int .i64 T.start.lo, .int .i64 T.start.hi, .slice s.t.a T.tests.length s.t.cap] 31) := (hg6.block w.heap.size (by simp; omega) (fun h => by have h' : some w.heap.size = some g0 := h; simp at h'; omega)).trans (blk_alloc x0 _)
          have y1 : w6.heap[w.heap.size + 1]? = some (Obj.cells #[.int .u8 C.start, .slice sc.a C.steps.length sc.cap] 57) := (hg6.block (w.heap.size + 1) (by simp; omega) (fun h => by have h' : some (w.heap.size + 1) = some g0 := h; simp at h'; omega)).trans (blk_alloc x1 _)
          have hO7 : OwnR w6 (w.heap.size + 2) 3 1 v' (k + 1 + 1) (crsC T C) := hO6.congr fun i j hi hj => by
            replace hj : j < 1 := by simpa using hj
            obtain rfl : j = 0 := by omega
            rcases Nat.lt_or_ge i (k + 1) with h | h
            · rw [upd_lt h]
            · obtain rfl : i = k + 1 := by omega
              rw [upd_at, crsC, ← HM.out]; rfl
          clear hO6 hg6 x0 x1
          obtain ⟨g6, cp6, rfl, -⟩ := own_some hO7 (Nat.succ_pos _)
          go_wp2_with (fail)
          go_roundw
          case rel => exact ⟨k + 1, by go_num, by omega, hB6, y0, y1, hO7⟩
          case measure => simp [intOf]; omega
      · obtain rfl : k = T.days.length := by omega
        obtain ⟨z, rfl, hz⟩ := HO.out.sl
        have p1 : ¬ (T.days.length : Int) < (T.days.length : Int) := by omega
        have HZ := Lib.hid hz
        clear hz
        have q0c := cell_blk x0
        have q0f := frz_blk x0
        go_wp2_with (fail)
        go_ret2
        refine ⟨⟨z, ?_, ?_⟩, hB⟩
        · rw [HW.out, crsL_len]; rfl
        · rw [HW.out]
          refine ⟨?_, HZ.out.max, fun i j hi hj => ?_⟩
          · rw [crsL_len]; exact HZ.out.le
          · rw [crsL_len] at hi
            obtain ⟨b, o, ha, hc⟩ := HZ.out.cell i j hi hj
            refine ⟨b, o, ha, ?_⟩
            rw [hc, crsC, intC, crsL_at (by omega)]
  · have HW : Hid (walkedRes T C = []) := Lib.hid (if_neg (by rw [HP.out]; exact h0))
    have HB : Hid (walkedB T = false) := Lib.hid (decide_eq_false (by rw [HP.out]; exact h0))
    have hne : (p3 == 0) = false := by simp [h0]
    have hne2 : (p3 != 0) = true := by simp [h0]
    rw [HB.out]
    go_enter Try.func28, Try.ntmps28
    go_wp2_with (fail)
    (with_reducible refine (HC.out _ ?_).mono ?_)
    · repeat' (first | exact Below.refl _ _ | assumption | refine below_drewN ?_ _ | refine Below.drew ?_ | refine Below.alloc ?_ (by first | assumption | omega | (simp <;> omega)) _ | refine Below.setCell ?_ (by first | assumption | omega | (simp <;> omega)) _ | refine Ext2.on (by assumption) ?_)
    rintro e w1 ⟨rfl, hb1⟩
    have hB1 : Below w.heap.size w w1 := Below.trans (by repeat' (first | exact Below.refl _ _ | assumption | refine below_drewN ?_ _ | refine Below.drew ?_ | refine Below.alloc ?_ (by first | assumption | omega | (simp <;> omega)) _ | refine Below.setCell ?_ (by first | assumption | omega | (simp <;> omega)) _ | refine Ext2.on (by assumption) ?_)) (hb1.mono (by simp; omega))
    clear hb1
    go_wp2_with (fail)
    go_ret2
    refine ⟨⟨⟨none, 0⟩, ?_, ?_⟩, hB1⟩
    · rw [HW.out]; rfl
    · rw [HW.out]; exact ⟨Nat.le_refl _, by simp, fun i j hi _ => absurd hi (by simp)⟩
end Go.Proofs.Ytfjbgcaogffiaaa
namespace Go.Proofs.Ytfjbgcaogffiaaa
open Go.RowKit D
theorem levels_yes {T : Task} {s : TSl} {w : World} (hT : TaskAt w T s) (h0 : (checkTask T).2.2 = 0) : Calls Try.prog 17 #[.agg #[.slice s.h.a T.rule.heat.length s.h.cap, .slice s.w.a T.rule.wet.length s.w.cap, .int .i64 T.rule.own, .int .i64 T.rule.feed, .int .i64 T.rule.g0, .int .i64 T.rule.g1, .int .i64 T.rule.g2, .int .i64 T.rule.lost, .int .i64 T.first, .slice s.d.a T.days.length s.d.cap, .int .i64 T.start.lo, .int .i64 T.start.hi, .slice s.t.a T.tests.length s.t.cap]] w fun e w' => (∃ s1 s2 : Sl, e = .returned (.tuple #[.slice s1.a (T.days.length + 1) s1.cap, .slice s2.a (struckT T).length s2.cap, .int .i64 0]) ∧ RowS w' s1 2 (T.days.length + 1) (spC (lv T)) ∧ StrikesS w' s2 (struckT T)) ∧ Below w.heap.size w w' := by
  refine (levelsP_any hT).mono ?_
  rintro e w' ⟨⟨s1, s2, he, h1, h2⟩, hb⟩
  have e1 : levelsRes T = levelsT T := if_pos h0
  have e2 : struckRes T = struckT T := if_pos h0
  rw [e1, e2, h0, levels_len] at he
  rw [e1] at h1
  rw [e2] at h2
  unfold SpansS at h1
  rw [levels_len] at h1
  exact ⟨⟨s1, s2, he, rowS_congr h1 (fun i j hi _ => (spC_levels (by omega) j).symm), h2⟩, hb⟩
theorem levels_no {T : Task} {s : TSl} {w : World} (hT : TaskAt w T s) (h0 : (checkTask T).2.2 ≠ 0) : Calls Try.prog 17 #[.agg #[.slice s.h.a T.rule.heat.length s.h.cap, .slice s.w.a T.rule.wet.length s.w.cap, .int .i64 T.rule.own, .int .i64 T.rule.feed, .int .i64 T.rule.g0, .int .i64 T.rule.g1, .int .i64 T.rule.g2, .int .i64 T.rule.lost, .int .i64 T.first, .slice s.d.a T.days.length s.d.cap, .int .i64 T.start.lo, .int .i64 T.start.hi, .slice s.t.a T.tests.length s.t.cap]] w fun e w' => (∃ s1 s2 : Sl, e = .returned (.tuple #[.slice s1.a 0 s1.cap, .slice s2.a 0 s2.cap, .int .i64 (checkTask T).2.2])) ∧ Below w.heap.size w w' := by
  refine (levelsP_any hT).mono ?_
  rintro e w' ⟨⟨s1, s2, he, -, -⟩, hb⟩
  have e1 : levelsRes T = [] := if_neg h0
  have e2 : struckRes T = [] := if_neg h0
  rw [e1, e2] at he
  exact ⟨⟨s1, s2, he⟩, hb⟩
theorem check_yes {T : Task} {s : TSl} {w : World} (hT : TaskAt w T s) (h0 : (checkTask T).2.2 = 0) : Calls Try.prog 22 #[.agg #[.slice s.h.a T.rule.heat.length s.h.cap, .slice s.w.a T.rule.wet.length s.w.cap, .int .i64 T.rule.own, .int .i64 T.rule.feed, .int .i64 T.rule.g0, .int .i64 T.rule.g1, .int .i64 T.rule.g2, .int .i64 T.rule.lost, .int .i64 T.first, .slice s.d.a T.days.length s.d.cap, .int .i64 T.start.lo, .int .i64 T.start.hi, .slice s.t.a T.tests.length s.t.cap]] w fun e w' => e = .returned (.tuple #[.int .i64 0, .int .i64 0, .int .i64 0]) ∧ Below w.heap.size w w' := by
  have h := checkTaskR_any hT
  rwa [(task_ok h0).2] at h
theorem lost_yes {T : Task} {s : TSl} {w : World} (hT : TaskAt w T s) (h0 : (checkTask T).2.2 = 0) : Calls Try.prog 31 #[.agg #[.slice s.h.a T.rule.heat.length s.h.cap, .slice s.w.a T.rule.wet.length s.w.cap, .int .i64 T.rule.own, .int .i64 T.rule.feed, .int .i64 T.rule.g0, .int .i64 T.rule.g1, .int .i64 T.rule.g2, .int .i64 T.rule.lost, .int .i64 T.first, .slice s.d.a T.days.length s.d.cap, .int .i64 T.start.lo, .int .i64 T.start.hi, .slice s.t.a T.tests.length s.t.cap]] w fun e w' => e = .returned (.tuple #[.agg #[.int .i64 (lostT T).lo, .int .i64 (lostT T).hi], .int .i64 0]) ∧ Below w.heap.size w w' := by
  have h := lostP_any hT
  have e : lostOut T = lostT T := if_pos h0
  rwa [e, h0] at h
theorem lv_start {T : Task} (hk : TaskOk T) : T.start.lo ≤ (lv T 0).lo ∧ (lv T 0).hi ≤ T.start.hi := by
  have h1 := (lv_ok hk (i := 0) (Nat.zero_le _)).2
  have h2 := (dusk_sp hk (i := 0) (Nat.zero_le _)).2.2
  have e : (dawn T 0).now = T.start := rfl
  rw [e] at h2
  omega
theorem sp_two {w : World} {s : Sl} {n : Nat} {f : Nat → Span} (h : RowS w s 2 n (spC f)) {i : Nat} (hi : i < n) : ∃ b off, s.a = some ⟨b, off, none⟩ ∧ w.cell? ⟨b, off + i * 2, none⟩ = some (.int .i64 (f i).lo) ∧ w.cell? ⟨b, off + i * 2 + 1, none⟩ = some (.int .i64 (f i).hi) := by
  obtain ⟨b, off, ha, hr⟩ := h.row (by omega) (by omega)
  obtain ⟨h0, h1⟩ := hr.two hi
  exact ⟨b, off, ha, h0, h1⟩
theorem hid_ext2 {w w1 : World} {P : World → Prop} (H : Hid (∀ W, Ext2 w W → P W)) (hE : Ext2 w w1) : Hid (∀ W, Ext2 w1 W → P W) := Lib.hid fun W hW => H.out W (hE.trans (Below.mono hW hE.size))
theorem ext_trans {w w1 w2 : World} (h : Ext2 w w1) (g : Ext2 w1 w2) : Ext2 w w2 := h.trans (Below.mono g h.size)
theorem below_ext {w w1 w2 : World} (h : Below w.heap.size w w1) (g : Ext2 w1 w2) : Below w.heap.size w w2 := h.trans (Below.mono g h.size)
/-- What can follow of one level. -/
theorem grow_one {T : Task} (hk : TaskOk T) {i : Nat} (hi : i < T.days.length) {n : Int} (hn : 0 ≤ n ∧ n ≤ 1000000) : growV T.rule (dayD T.days i) ⟨n, n⟩ = (gr1 T i n, 0) := by
  rw [growV_ok hk.rule (hk.days i hi) (n := ⟨n, n⟩) ⟨⟨hn, hn⟩, Int.le_refl _⟩, gr1, force_at hi]; rfl
theorem grow_lv {T : Task} (hk : TaskOk T) {i : Nat} (hi : i < T.days.length) {a : Span} (ha : SpOk a) : growV T.rule (dayD T.days i) a = (grow T.rule (spanD (forces T) i) a, 0) := by
  rw [growV_ok hk.rule (hk.days i hi) ha, force_at hi]
/-- A list by a function. -/
def fnL (f : Nat → Int) (n : Nat) : List Int := (List.range n).map f
theorem fnL_len (f : Nat → Int) (n : Nat) : (fnL f n).length = n := by simp [fnL]
theorem fnL_at {f : Nat → Int} {n i : Nat} (h : i < n) : intD (fnL f n) i = f i := by simp [fnL, intD, h]
theorem ints_own {w : World} {b g cap n : Nat} {f : Nat → Int} (h : OwnR w b 3 1 (.slice (some ⟨g, 0, none⟩) n cap) n (fun i _ => .int .i64 (f i))) : IntsS w ⟨some ⟨g, 0, none⟩, cap⟩ (fnL f n) := by
  obtain ⟨z, e, hr⟩ := h.sl
  obtain ⟨za, zc⟩ := z
  obtain ⟨rfl, rfl⟩ : some ⟨g, 0, none⟩ = za ∧ cap = zc := by simpa using e
  unfold IntsS
  rw [fnL_len]
  exact rowS_congr hr fun i j hi _ => by rw [intC, fnL_at hi]
theorem keepsB_at {T : Task} (hk : RuleOk T.rule) {l : List Int} {x : D.Test} (hx : TestOk x) {m : Nat} (hd : x.day - T.first = m) (hm : m < l.length) (hr : 0 ≤ intD l m ∧ intD l m ≤ 1000000) (hi : InS (keep T.rule x) (intD l m)) : keepsB T l x = true := by
  have h := (keep_grade hk hx hr).1 hi
  rw [keepsB, decide_eq_true_iff, hd]
  exact ⟨by omega, by omega, by rw [Int.toNat_natCast]; exact h.1, by rw [Int.toNat_natCast]; exact h.2⟩
end Go.Proofs.Ytfjbgcaogffiaaa
