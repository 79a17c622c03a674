/-
  sort.Search: a place at which the test turns.
  Dew, of both sides; ref.Vapour.
  The examples of the document, plain.
  The law's examples: span, Site, Moves.
  The reference's Stays, Nears, Moves, Errors, Climate: are two lists equal?
-/
import Derived.Test.YtfpaihjcbpaneaaGreatDoorVBase
import Derived.Test.YtfpaihjcbpaneaaGreatDoorVAirA
import Derived.Test.YtfpaihjcbpaneaaGreatDoorVPlA
import Derived.WalkKit
import Derived.Test.YtfpaihjcbpaneaaGreatDoorDRegX
namespace Go.Proofs.YtfpaihjcbpaneaaGreatDoor
open Go.RowKit D
set_option linter.unusedVariables false
set_option linter.unusedSimpArgs false
attribute [local go_sem high] run_minI run_maxI
def Turns (p : Nat → Bool) (n k : Nat) : Prop := k ≤ n ∧ (0 < k → p (k - 1) = false) ∧ (k < n → p k = true)
set_option maxHeartbeats 800000 in
theorem search_any {g : Nat} {lb : Array Value} {p : Nat → Bool} {n : Nat} {w : World} (hn : n ≤ 4000000000) (eg : ∀ args w, (callFunc g args).run Tryz.prog w = .ok (.enter g args) w)
    (hp : ∀ (i : Nat) (W : World), i < n → Below w.heap.size w W → Calls Tryz.prog g (#[.int .i64 (i : Int)] ++ lb) W fun e w' => e = .returned (.bool (p i)) ∧ Below W.heap.size W w') :
    Calls Tryz.prog 71 #[.int .i64 (n : Int), .func (.func g) #[] lb] w fun e w' => (∃ k : Nat, e = .returned (.int .i64 (k : Int)) ∧ Turns p n k) ∧ Below w.heap.size w w' := by
  have HP := Lib.hid hp; clear hp
  go_enter Tryz.func71, Tryz.ntmps71
  go_wp2_with (fail)
  go_loopw [5, 6] (fun i j wr => ∃ a b : Nat, a ≤ b ∧ b ≤ n ∧ i = .int .i64 a ∧ j = .int .i64 b ∧ (0 < a → p (a - 1) = false) ∧ (b < n → p b = true) ∧ Below w.heap.size w wr) (fun i j _ => (intOf j).toNat - (intOf i).toNat)
  case atStart => exact ⟨0, n, by omega, by omega, rfl, rfl, fun h => absurd h (by omega), fun h => absurd h (by omega), Below.refl _ _⟩
  case round =>
    obtain ⟨a, b, hab, hbn, rfl, rfl, ha, hb, hB⟩ := hrel
    have HA := Lib.hid ha; have HBb := Lib.hid hb; clear ha hb
    by_cases hlt : a < b
    · obtain ⟨m, hm⟩ : ∃ m : Nat, m = (a + b) / 2 := ⟨_, rfl⟩
      have em : ((a : Int) + (b : Int)) / 2 = (m : Int) := by omega
      have hm1 : a ≤ m := by omega
      have hm2 : m < b := by omega
      have EM := Lib.hid em; clear em hm
      go_wp2_with (fail)
      rw [EM.out]
      refine (HP.out m _ (by omega) hB).mono ?_
      rintro e w1 ⟨rfl, hb1⟩
      have B1 : Below w.heap.size w w1 := hB.trans (hb1.mono hB.size)
      clear hb1
      have hp' : p m = true ∨ p m = false := by cases p m <;> simp
      rcases hp' with h | h
      · rw [h]
        have HM := Lib.hid h; clear h
        go_wp2_with (fail)
        go_roundw
        case rel => exact ⟨a, m, by omega, by omega, rfl, rfl, HA.out, fun _ => HM.out, B1⟩
        case measure => simp [intOf]; omega
      · rw [h]
        have HM := Lib.hid h; clear h
        go_wp2_with (fail)
        go_roundw
        case rel => exact ⟨m + 1, b, by omega, by omega, by go_num, rfl, fun _ => HM.out, HBb.out, B1⟩
        case measure => simp [intOf]; omega
    · obtain rfl : a = b := by omega
      go_wp2_with (fail)
      go_ret
      exact ⟨⟨a, rfl, hbn, HA.out, HBb.out⟩, hB⟩
theorem turns_eq {p : Nat → Bool} {n k m : Nat} (h : Turns p n k) (hm : m ≤ n) (h0 : ∀ i, i < m → p i = false) (h1 : ∀ i, m ≤ i → i < n → p i = true) : k = m := by
  obtain ⟨hk, ha, hb⟩ := h
  rcases Nat.lt_trichotomy k m with h | h | h
  · have := hb (by omega); rw [h0 k h] at this; cases this
  · exact h
  · have := ha (by omega); rw [h1 (k - 1) (by omega) (by omega)] at this; cases this
end Go.Proofs.YtfpaihjcbpaneaaGreatDoor
namespace Go.Proofs.YtfpaihjcbpaneaaGreatDoor
open Go.RowKit D
set_option linter.unusedVariables false
set_option linter.unusedSimpArgs false
attribute [local go_sem high] run_minI run_maxI
attribute [local go_sem] upon2 cls_cell cls_frozen forall_const exists_eq_left'
attribute [local go_sem] FirstUpon
set_option maxRecDepth 100000 in
set_option maxHeartbeats 2000000 in
theorem dewF_any {t d : Int} {b1 b2 k : Nat} {w : World} (x1 : w.heap[b1]? = some (.cells #[.int .i64 t] 3 (0, 0))) (x2 : w.heap[b2]? = some (.cells #[.int .i64 d] 3 (0, 0))) (h1 : -300 ≤ t) (h2 : t ≤ 600) (h5 : 0 ≤ d) (h6 : d ≤ 1000) (hk : -300 + (k : Int) ≤ 600) :
    Calls Tryz.prog 72 (#[.int .i64 (k : Int)] ++ #[.pointer (some ⟨b1, 0, none⟩), .pointer (some ⟨b2, 0, none⟩)]) w fun e w' => e = .returned (.bool (!wet (-300 + (k : Int)) t d)) ∧ Below w.heap.size w w' := by
  obtain ⟨v, hv⟩ : ∃ v, v = wet (-300 + (k : Int)) t d := ⟨_, rfl⟩
  have HW : Hid (∀ W, Calls Tryz.prog 60 #[.int .i64 (-300 + (k : Int)), .int .i64 t, .int .i64 d] W fun e w' => e = .returned (.bool v) ∧ Below W.heap.size W w') := Lib.hid fun W => by rw [hv]; exact wet_any W (by omega) hk h1 h2 h5 h6
  rw [← hv]
  clear hv
  go_enter Tryz.func72, Tryz.ntmps72
  have q1c := cell_blk x1
  have q1f := frz_blk x1
  have q2c := cell_blk x2
  have q2f := frz_blk x2
  go_wp2_with (fail)
  (with_reducible refine (HW.out _).mono ?_)
  rintro e w2 ⟨rfl, hb2⟩
  go_wp2_with (fail)
  go_ret
  exact ⟨rfl, hb2⟩
def dewE (t d : Int) : Int := if (inB t (-300) 600 && inB d 0 1000) then 0 else 7
def dewR (t d : Int) : Int := if (inB t (-300) 600 && inB d 0 1000) then dewP t d else 0
set_option maxRecDepth 100000 in
set_option maxHeartbeats 2000000 in
theorem dew_any {t d : Int} (w : World) : Calls Tryz.prog 45 #[.int .i64 t, .int .i64 d] w fun e w' => e = .returned (.tuple #[.int .i64 (dewR t d), .int .i64 (dewE t d)]) ∧ Below w.heap.size w w' := by
  obtain ⟨v1, hv1⟩ : ∃ v, v = outB t (-300) 600 := ⟨_, rfl⟩
  obtain ⟨v2, hv2⟩ : ∃ v, v = outB d 0 1000 := ⟨_, rfl⟩
  have hi1 : inB t (-300) 600 = !v1 := by rw [hv1, outB_in, Bool.not_not]
  have hi2 : inB d 0 1000 = !v2 := by rw [hv2, outB_in, Bool.not_not]
  have H1 : Hid (∀ W, Calls Tryz.prog 33 #[.int .i64 t, .int .i64 (-300), .int .i64 600] W fun e w' => e = .returned (.bool v1) ∧ W = w') := Lib.hid fun W => by rw [hv1]; exact out_any _ _ _ W
  have H2 : Hid (∀ W, Calls Tryz.prog 33 #[.int .i64 d, .int .i64 0, .int .i64 1000] W fun e w' => e = .returned (.bool v2) ∧ W = w') := Lib.hid fun W => by rw [hv2]; exact out_any _ _ _ W
  obtain ⟨R, hR⟩ : ∃ R, R = dewR t d := ⟨_, rfl⟩
  obtain ⟨E, hE⟩ : ∃ E, E = dewE t d := ⟨_, rfl⟩
  rw [← hR, ← hE]
  unfold dewR at hR
  unfold dewE at hE
  rw [hi1, hi2] at hR hE
  have HR := Lib.hid hR; have HE := Lib.hid hE; have HI1 := Lib.hid hi1; have HI2 := Lib.hid hi2
  clear hv1 hv2 hi1 hi2 hR hE
  go_enter Tryz.func45, Tryz.ntmps45
  go_wp2_with (fail)
  refine calls_name ?_
  intro w1 h1
  obtain ⟨b1, hb1⟩ : ∃ b, b = w.heap.size := ⟨_, rfl⟩
  obtain ⟨b2, hb2⟩ : ∃ b, b = w.heap.size + 1 := ⟨_, rfl⟩
  have x1 : w1.heap[b1]? = some (.cells #[.int .i64 t] 3 (0, 0)) := by rw [h1, hb1]; exact blk_alloc (blk_new _ _) _
  have x2 : w1.heap[b2]? = some (.cells #[.int .i64 d] 3 (0, 0)) := by rw [h1, hb2]; exact blk_new' _ _ (by simp)
  have hB1 : Below w.heap.size w w1 := by rw [h1]; exact Below.alloc (below_alloc _ _) (by simp) _
  rw [← hb2, ← hb1]
  clear h1 hb1 hb2
  (with_reducible refine (H1.out _).mono ?_)
  rintro e w' ⟨rfl, rfl⟩
  have X1 := Lib.hid x1; have X2 := Lib.hid x2
  have q1c := cell_blk x1
  have q1f := frz_blk x1
  have q2c := cell_blk x2
  have q2f := frz_blk x2
  clear x1 x2
  cases v1
  case true =>
    go_wp2_with (fail)
    go_ret2
    exact ⟨by rw [HR.out, HE.out]; rfl, hB1⟩
  case false =>
  go_wp2_with (fail)
  (with_reducible refine (H2.out _).mono ?_)
  rintro e w' ⟨rfl, rfl⟩
  cases v2
  case true =>
    go_wp2_with (fail)
    go_ret2
    exact ⟨by rw [HR.out, HE.out]; rfl, hB1⟩
  case false =>
  have ht := inB_iff.1 HI1.out
  have hd := inB_iff.1 HI2.out
  obtain ⟨n, hn⟩ : ∃ n : Nat, t + 300 = (n : Int) := ⟨(t + 300).toNat, by omega⟩
  have hn2 : (t + 300).toNat = n := by omega
  have hns : n ≤ 4000000000 := by omega
  have HS := Lib.hid (search_any (g := 72) (lb := #[.pointer (some ⟨b1, 0, none⟩), .pointer (some ⟨b2, 0, none⟩)]) (p := fun k => !wet (-300 + (k : Int)) t d) (n := n) (w := w1) hns (fun _ _ => rfl) fun i W hi hW => dewF_any (below_blk hW X1.out (blk_lt X1.out)) (below_blk hW X2.out (blk_lt X2.out)) ht.1 ht.2 hd.1 hd.2 (by omega))
  have htn : ∀ k, Turns (fun k => !wet (-300 + (k : Int)) t d) n k → R = -300 + (k : Int) ∧ k ≤ n := fun k hk => by
    refine ⟨?_, hk.1⟩
    rw [HR.out]
    simp only [Bool.not_false, Bool.and_self, if_true]
    unfold dewP
    rw [hn2, firstN_turns hk.1 hk.2.1 hk.2.2 fun a b hab hb h => ?_]
    have := wet_turn (t := t) (d := d) ht.1 ht.2 hab (by omega) (by simpa using h)
    simp [this]
  have HTN := Lib.hid htn
  have HE0 : Hid (E = 0) := Lib.hid (by rw [HE.out]; rfl)
  have HN := Lib.hid hn
  clear htn hn2
  go_wp2_with (fail)
  (with_reducible refine HS.out.mono ?_)
  rintro e w2 ⟨⟨k, rfl, hk⟩, hb2⟩
  have hB2 := below_ext hB1 hb2
  obtain ⟨h9, hk9⟩ := HTN.out k hk
  have H9 := Lib.hid h9
  clear hk h9
  have wk : IntKind.i64.wrap (-300 + (k : Int)) = -300 + (k : Int) := IntWalk.i64_in _ (by omega)
  go_wp2_with (fail)
  go_ret2
  exact ⟨by rw [H9.out, HE0.out]; rfl, hB2⟩
end Go.Proofs.YtfpaihjcbpaneaaGreatDoor
namespace Go.Proofs.YtfpaihjcbpaneaaGreatDoor.D
set_option linter.unusedVariables false
def exS : Site := ⟨[⟨⟨#[99, 111, 108, 100]⟩, 20, 40, 300, 400, false, true, 3000, 0, 0⟩, ⟨⟨#[108, 111, 98, 98, 121]⟩, 100, 120, 350, 450, false, true, 2000, 30, 0⟩, ⟨⟨#[98, 101, 110, 99, 104]⟩, 200, 220, 400, 450, true, true, 1000, 30, 40⟩],
  [⟨⟨#[110, 97, 110, 97, 45, 50]⟩, 1, 900, 0⟩, ⟨⟨#[103, 111, 108, 101, 109]⟩, 1, 1400, 0⟩], 20, 30, [⟨0, 10⟩, ⟨1500, 45⟩]⟩
def exM : List Mv := [⟨5, 1, 2⟩, ⟨5, 0, 2⟩, ⟨5, 0, 1⟩, ⟨4, 1, 1⟩, ⟨14, 0, 2⟩, ⟨15, 0, 2⟩, ⟨15, 1, 2⟩]
def exK : List Mv := [⟨5, 0, 1⟩, ⟨15, 0, 2⟩]
theorem exChk : checkV exS = (0, 0, 0) := by kernel_rfl
theorem exMoved : movedE exS exM = 0 := by kernel_rfl
theorem exPlay : playV exS exM = (exK, [133, 135, 0, 130, 135, 0, 133]) := by kernel_rfl
theorem exPath : bestP exS 1 ⟨20, 40⟩ 0 2 = (10, [⟨0, 0⟩, ⟨1, 10⟩, ⟨2, 0⟩]) := by kernel_rfl
theorem exPathE : pathE exS 1 ⟨20, 40⟩ 0 2 = 0 := by kernel_rfl
theorem exDew : dewP 210 500 = 97 := by kernel_rfl
theorem exClim : climV exS exK 0 1 = [⟨20, 218, 300, 450⟩] := by kernel_rfl
theorem exClimE : climE exS exM 0 1 = 0 := by kernel_rfl
theorem exWhere : whereE exS [] (-1) = 7 := by kernel_rfl
end Go.Proofs.YtfpaihjcbpaneaaGreatDoor.D
namespace Go.Proofs.YtfpaihjcbpaneaaGreatDoor
open Go.RowKit D
set_option linter.unusedVariables false
set_option linter.unusedSimpArgs false
attribute [local go_sem high] run_minI run_maxI
attribute [local go_sem] upon2 cls_cell cls_frozen forall_const exists_eq_left'
attribute [local go_sem] FirstUpon
theorem rows_blk {w : World} {b sz n : Nat} {cs : Array Value} {t : TypeId} {c : Nat → Nat → Value} (h : w.heap[b]? = some (.cells cs t (0, 0))) (hn : n ≤ 9223372036854775807) (hc : ∀ i j, i < n → j < sz → cs[i * sz + j]? = some (c i j)) : RowS w ⟨some ⟨b, 0, none⟩, n⟩ sz n c :=
  ⟨Nat.le_refl _, hn, fun i j hi hj => ⟨b, 0, rfl, by rw [Nat.zero_add, cell_blk h]; exact hc i j hi hj⟩⟩
theorem bp_name {P : Program} {fn : Func} {R : Ending → World → Prop} {e : Exit} {a : Act} {w : World} (h : ∀ w0, w0 = w → bodyPost P fn R e a w0) : bodyPost P fn R e a w := h w rfl
set_option maxRecDepth 100000 in
set_option maxHeartbeats 2000000 in
theorem spanL_any (lo hi : Int) (w : World) : Calls Tryz.prog 44 #[.int .i64 lo, .int .i64 hi] w fun e w' => e = .returned (.agg #[.int .i64 lo, .int .i64 hi]) ∧ w' = w.alloc (.cells #[.int .i64 lo, .int .i64 hi] 25 (0, 0)) := by
  go_enter Tryz.func44, Tryz.ntmps44
  go_wp2_with (fail)
  have k0 : (w.alloc (.cells #[.int .i64 lo, .int .i64 hi] 25 (0, 0))).heap[w.heap.size]? = some (.cells #[.int .i64 lo, .int .i64 hi] 25 (0, 0)) := blk_new _ _
  refine bodyPost_ret (v := .agg #[.int .i64 lo, .int .i64 hi]) ?_ rfl ⟨rfl, rfl⟩
  have zc := cell_blk k0
  have zf := frz_blk k0
  simp [results, Tryz.results44, go_sem, zc]
theorem spanL_b (lo hi : Int) (w : World) : Calls Tryz.prog 44 #[.int .i64 lo, .int .i64 hi] w fun e w' => e = .returned (.agg #[.int .i64 lo, .int .i64 hi]) ∧ Below w.heap.size w w' := (spanL_any lo hi w).mono fun e w' ⟨he, hw⟩ => ⟨he, by rw [hw]; exact below_alloc' _ _⟩
set_option maxRecDepth 100000 in
set_option maxHeartbeats 8000000 in
theorem siteL_any (w : World) : Calls Tryz.prog 42 #[] w fun e w' => (∃ s : SSl, e = .returned (.agg #[.slice s.r.a exS.rooms.length s.r.cap, .slice s.c.a exS.cans.length s.c.cap, .int .i64 exS.rlo, .int .i64 exS.rhi, .slice s.p.a exS.steps.length s.p.cap]) ∧ SiteAt w' exS s) ∧ Below w.heap.size w w' := by
  go_enter Tryz.func42, Tryz.ntmps42
  go_wp2_with ((go_at_call 44; (with_reducible refine (spanL_any _ _ _).mono ?_); rintro e w' ⟨rfl, rfl⟩))
  refine bp_name ?_
  intro w1 h1
  obtain ⟨b7, hb7⟩ : ∃ n, n = w.heap.size + 1 + 1 + 1 + 1 + 1 + 1 + 1 := ⟨_, rfl⟩
  obtain ⟨b8, hb8⟩ : ∃ n, n = w.heap.size + 1 + 1 + 1 + 1 + 1 + 1 + 1 + 1 := ⟨_, rfl⟩
  obtain ⟨b10, hb10⟩ : ∃ n, n = w.heap.size + 1 + 1 + 1 + 1 + 1 + 1 + 1 + 1 + 1 + 1 := ⟨_, rfl⟩
  have k0 : w1.heap[w.heap.size]? = some (.cells #[.slice (some ⟨b7, 0, none⟩) 3 3, .slice (some ⟨b8, 0, none⟩) 2 2, .int .i64 20, .int .i64 30, .slice (some ⟨b10, 0, none⟩) 2 2] 28 (0, 0)) := by
    rw [h1, hb7, hb8, hb10]; exact blk_alloc (blk_alloc (blk_alloc (blk_alloc (blk_alloc (blk_alloc (blk_alloc (blk_alloc (blk_alloc (blk_alloc (blk_new _ _) _) _) _) _) _) _) _) _) _) _
  have k7 : w1.heap[b7]? = some (.cells #[.string ⟨#[99, 111, 108, 100]⟩, .int .i64 20, .int .i64 40, .int .i64 300, .int .i64 400, .bool false, .bool true, .int .i64 3000, .int .i64 0, .int .i64 0, .string ⟨#[108, 111, 98, 98, 121]⟩, .int .i64 100, .int .i64 120, .int .i64 350, .int .i64 450, .bool false, .bool true, .int .i64 2000, .int .i64 30, .int .i64 0, .string ⟨#[98, 101, 110, 99, 104]⟩, .int .i64 200, .int .i64 220, .int .i64 400, .int .i64 450, .bool true, .bool true, .int .i64 1000, .int .i64 30, .int .i64 40] 74 (0, 0)) := by rw [h1, hb7]; exact blk_alloc (blk_alloc (blk_alloc (blk_new' _ _ (by simp)) _) _) _
  have k8 : w1.heap[b8]? = some (.cells #[.string ⟨#[110, 97, 110, 97, 45, 50]⟩, .int .i64 1, .int .i64 900, .int .i64 0, .string ⟨#[103, 111, 108, 101, 109]⟩, .int .i64 1, .int .i64 1400, .int .i64 0] 124 (0, 0)) := by rw [h1, hb8]; exact blk_alloc (blk_alloc (blk_new' _ _ (by simp)) _) _
  have k10 : w1.heap[b10]? = some (.cells #[.int .i64 0, .int .i64 10, .int .i64 1500, .int .i64 45] 128 (0, 0)) := by rw [h1, hb10]; exact blk_new' _ _ (by simp)
  have hB : Below w.heap.size w w1 := by rw [h1]; repeat' (first | exact Below.refl _ _ | assumption | refine below_drewN ?_ _ | refine Below.drew ?_ | refine Below.alloc ?_ (by first | assumption | omega | (simp <;> omega)) _ | refine Below.setCell ?_ (by first | assumption | omega | (simp <;> omega)) _ | refine Ext2.on (by assumption) ?_)
  clear h1 hb7 hb8 hb10
  have hS : SiteAt w1 exS ⟨⟨some ⟨b7, 0, none⟩, 3⟩, ⟨some ⟨b8, 0, none⟩, 2⟩, ⟨some ⟨b10, 0, none⟩, 2⟩⟩ := by
    refine ⟨rows_blk k7 (by decide) ?_, rows_blk k8 (by decide) ?_, rows_blk k10 (by decide) ?_, ?_, ?_⟩
    · intro i j hi hj
      rcases (show i = 0 ∨ i = 1 ∨ i = 2 by have : i < 3 := hi; omega) with rfl | rfl | rfl <;> rcases (by omega : j = 0 ∨ j = 1 ∨ j = 2 ∨ j = 3 ∨ j = 4 ∨ j = 5 ∨ j = 6 ∨ j = 7 ∨ j = 8 ∨ j = 9) with rfl | rfl | rfl | rfl | rfl | rfl | rfl | rfl | rfl | rfl <;> rfl
    · intro i j hi hj
      rcases (show i = 0 ∨ i = 1 by have : i < 2 := hi; omega) with rfl | rfl <;> rcases (by omega : j = 0 ∨ j = 1 ∨ j = 2 ∨ j = 3) with rfl | rfl | rfl | rfl <;> rfl
    · intro i j hi hj
      rcases (show i = 0 ∨ i = 1 by have : i < 2 := hi; omega) with rfl | rfl <;> rcases (by omega : j = 0 ∨ j = 1) with rfl | rfl <;> rfl
    · intro i hi
      rcases (show i = 0 ∨ i = 1 ∨ i = 2 by have : i < 3 := hi; omega) with rfl | rfl | rfl <;> decide
    · intro i hi
      rcases (show i = 0 ∨ i = 1 by have : i < 2 := hi; omega) with rfl | rfl <;> decide
  refine bodyPost_ret (v := .agg #[.slice (some ⟨b7, 0, none⟩) 3 3, .slice (some ⟨b8, 0, none⟩) 2 2, .int .i64 20, .int .i64 30, .slice (some ⟨b10, 0, none⟩) 2 2]) ?_ rfl ⟨⟨_, rfl, hS⟩, hB⟩
  have zc := cell_blk k0
  have zf := frz_blk k0
  simp [results, Tryz.results42, go_sem, zc]
set_option maxRecDepth 100000 in
set_option maxHeartbeats 8000000 in
theorem movesL_any (w : World) : Calls Tryz.prog 43 #[] w fun e w' => (∃ s : Sl, e = .returned (.slice s.a exM.length s.cap) ∧ MovesS w' s exM) ∧ Below w.heap.size w w' := by
  go_enter Tryz.func43, Tryz.ntmps43
  go_wp2_with (fail)
  refine bp_name ?_
  intro w1 h1
  obtain ⟨b, hb⟩ : ∃ b, b = w.heap.size := ⟨_, rfl⟩
  have k0 : w1.heap[b]? = some (.cells #[.int .i64 5, .int .i64 1, .int .i64 2, .int .i64 5, .int .i64 0, .int .i64 2, .int .i64 5, .int .i64 0, .int .i64 1, .int .i64 4, .int .i64 1, .int .i64 1, .int .i64 14, .int .i64 0, .int .i64 2, .int .i64 15, .int .i64 0, .int .i64 2, .int .i64 15, .int .i64 1, .int .i64 2] 95 (0, 0)) := by rw [h1, hb]; exact blk_new _ _
  have hB : Below b w w1 := by rw [h1, hb]; exact below_alloc' _ _
  rw [← hb]
  clear h1 hb
  refine bodyPost_ret (v := .slice (some ⟨b, 0, none⟩) 7 7) (by simp [results, Tryz.results43, go_sem]) rfl ⟨⟨⟨some ⟨b, 0, none⟩, 7⟩, rfl, rows_blk k0 (by decide) ?_⟩, hB⟩
  intro i j hi hj
  rcases (show i = 0 ∨ i = 1 ∨ i = 2 ∨ i = 3 ∨ i = 4 ∨ i = 5 ∨ i = 6 by have : i < 7 := hi; omega) with rfl | rfl | rfl | rfl | rfl | rfl | rfl <;> rcases (by omega : j = 0 ∨ j = 1 ∨ j = 2) with rfl | rfl | rfl <;> rfl
end Go.Proofs.YtfpaihjcbpaneaaGreatDoor
namespace Go.Proofs.YtfpaihjcbpaneaaGreatDoor
open Go.RowKit D
set_option linter.unusedVariables false
set_option linter.unusedSimpArgs false
attribute [local go_sem high] run_minI run_maxI
attribute [local go_sem] upon2 cls_cell cls_frozen forall_const exists_eq_left'
attribute [local go_sem] FirstUpon
theorem errs_ext {l m : List Int} (h : l.length = m.length) (h' : ∀ j, j < l.length → intD l j = intD m j) : l = m := by
  refine List.ext_getElem h fun i h1 h2 => ?_
  have := h' i h1
  rwa [intD, intD, List.getD_eq_getElem?_getD, List.getD_eq_getElem?_getD, List.getElem?_eq_getElem h1, List.getElem?_eq_getElem h2] at this
theorem errs_row {w : World} {l : List Int} {g : Sl} (h : RowS w g 1 l.length (intC l)) {i : Nat} (hi : i < l.length) : ∃ b off, g.a = some ⟨b, off, none⟩ ∧ w.cell? ⟨b, off + i, none⟩ = some (.int .i64 (intD l i)) := by
  obtain ⟨b, off, ha, hc⟩ := h.row (by omega) (by omega)
  exact ⟨b, off, ha, hc.one hi⟩
set_option maxRecDepth 100000 in
set_option maxHeartbeats 8000000 in
theorem errs_any {s t : Sl} {l m : List Int} {w : World} (hl : RowS w s 1 l.length (intC l)) (hm : RowS w t 1 m.length (intC m)) :
    Calls Tryz.prog 14 #[.slice s.a l.length s.cap, .slice t.a m.length t.cap] w fun e w' => e = .returned (.bool (decide (l = m))) ∧ Below w.heap.size w w' := by
  obtain ⟨a, cap⟩ := s
  obtain ⟨a', cap'⟩ := t
  have hc : l.length ≤ cap := hl.le
  have hcm : cap ≤ 9223372036854775807 := hl.max
  have hc' : m.length ≤ cap' := hm.le
  have hcm' : cap' ≤ 9223372036854775807 := hm.max
  have HL := Lib.hid hl; have HM := Lib.hid hm; clear hl hm
  by_cases hne : l.length = m.length
  · have HN := Lib.hid hne
    have hb : ((l.length : Int) != (m.length : Int)) = false := by simp [hne]
    clear hne
    go_enter Tryz.func14, Tryz.ntmps14
    go_wp2_with (fail)
    go_loopw [5] (fun i wr => ∃ k : Nat, i = .int .i64 k ∧ k ≤ l.length ∧ Below w.heap.size w wr ∧ ∀ j, j < k → intD l j = intD m j) (fun i _ => l.length - (intOf i).toNat)
    case atStart => exact ⟨0, rfl, by omega, Below.refl _ _, fun j h => absurd h (by omega)⟩
    case round =>
      obtain ⟨k, rfl, hk, hB, hall⟩ := hrel
      have HA := Lib.hid hall; have HB := Lib.hid hB; clear hall
      by_cases hlt : k < l.length
      · go_light
        obtain ⟨b, off, h1, x0⟩ := errs_row (HL.out.below hB) hlt
        obtain ⟨b', off', h2, y0⟩ := errs_row (HM.out.below hB) (i := k) (by have := HN.out; omega)
        dsimp only at h1 h2
        subst h1 h2
        have i0 : (0 : Int) ≤ (k : Int) := by omega
        have i1 : (k : Int) < (l.length : Int) := by omega
        have i2 : (k : Int) < (m.length : Int) := by have := HN.out; omega
        have w3' : IntKind.i64.wrap ((k : Int) + 1) = (k : Int) + 1 := IntWalk.i64_in _ (by omega)
        obtain ⟨u0, hu0⟩ : ∃ x, x = (intD l k) := ⟨_, rfl⟩
        obtain ⟨v0, hv0⟩ : ∃ x, x = (intD m k) := ⟨_, rfl⟩
        rw [← hu0] at x0; rw [← hv0] at y0
        have HX : Hid (intD l k = intD m k ↔ u0 = v0) := Lib.hid (by rw [hu0, hv0])
        clear hu0 hv0 hb hB
        go_wp2_with (fail)
        by_cases hq : u0 = v0
        · have HQ := Lib.hid (HX.out.2 hq)
          have hq1 : (u0 != v0) = false := by simp [hq]
          clear hq
          refine region_ev [] [0, 1, 2, 3, 4, 5, 6, 7, 8] [] [] (by kernel_rfl) (by kernel_rfl) (by intro c a d v w h; cases d <;> exact h) ?_
          simp only [picks, List.drop_succ_cons, List.drop_zero]
          repeat (refine wpQ0_step (fun K hK => ?_); go_simp; (refine hK _ ?_; clear hK K))
          refine wpQ0_nil ?_
          repeat ((with_reducible refine wpQ2_step (fun K hK => ?_)); go_simp; first | ((with_reducible refine hK _ ?_); clear hK K) | (apply Exists.intro; refine ⟨fun x => ?_, hK _ ?_⟩; (fail); clear hK K))
          refine wpQ2_nil ?_
          refine Events.none_ fun w3 hg3 => ?_
          simp only [picks, List.drop_succ_cons, List.drop_zero]
          have hB3 := below_ext HB.out hg3
          clear x0 y0 hg3
          go_wp2_with (fail)
          go_roundw
          case rel => exact ⟨k + 1, by go_num, by omega, hB3, fun j hj => by
            by_cases hjk : j = k
            · rw [hjk]; exact HQ.out
            · exact HA.out j (by omega)⟩
          case measure => simp [intOf]; omega
        · have hne : l ≠ m := fun he => hq (HX.out.1 (by rw [he]))
          have HNE := Lib.hid hne
          have hq1 : (u0 != v0) = true := by simp [hq]
          clear hq hne
          refine region_ev [] [0, 1, 2, 3, 4, 5, 6, 7, 8] [] [] (by kernel_rfl) (by kernel_rfl) (by intro c a d v w h; cases d <;> exact h) ?_
          simp only [picks, List.drop_succ_cons, List.drop_zero]
          repeat (refine wpQ0_step (fun K hK => ?_); go_simp; (refine hK _ ?_; clear hK K))
          refine wpQ0_nil ?_
          repeat ((with_reducible refine wpQ2_step (fun K hK => ?_)); go_simp; first | ((with_reducible refine hK _ ?_); clear hK K) | (apply Exists.intro; refine ⟨fun x => ?_, hK _ ?_⟩; (fail); clear hK K))
          refine wpQ2_nil ?_
          refine Events.none_ fun w3 hg3 => ?_
          simp only [picks, List.drop_succ_cons, List.drop_zero]
          have hB3 := below_ext HB.out hg3
          clear x0 y0 hg3
          go_wp2_with (fail)
          go_ret
          exact ⟨ret_bool (by rw [decide_eq_false HNE.out]), hB3⟩
      · obtain rfl : k = l.length := by omega
        have r1 : ¬ (l.length : Int) < (l.length : Int) := by omega
        clear hb
        go_wp2_with (fail)
        go_ret
        exact ⟨ret_bool (decide_eq_true (errs_ext HN.out HA.out)).symm, HB.out⟩
  · have hb : ((l.length : Int) != (m.length : Int)) = true := by simp; omega
    have hd : l ≠ m := fun he => hne (by rw [he])
    have HD := Lib.hid hd
    clear hd
    go_enter Tryz.func14, Tryz.ntmps14
    go_wp2_with (fail)
    go_ret
    exact ⟨ret_bool (decide_eq_false HD.out).symm, Below.refl _ _⟩
theorem stays_ext {l m : List Sty} (h : l.length = m.length) (h' : ∀ j, j < l.length → syD l j = syD m j) : l = m := by
  refine List.ext_getElem h fun i h1 h2 => ?_
  have := h' i h1
  rwa [syD, syD, List.getD_eq_getElem?_getD, List.getD_eq_getElem?_getD, List.getElem?_eq_getElem h1, List.getElem?_eq_getElem h2] at this
theorem run_neq_stays (w : World) (x0 x1 y0 y1 : Int) : (binOp .neq 93 (.agg #[.int .i64 x0, .int .i64 x1]) (.agg #[.int .i64 y0, .int .i64 y1])).run Tryz.prog w = .ok (.bool (!(decide (x0 = y0 ∧ x1 = y1)))) w := by
  go_simp
  by_cases h0 : x0 = y0 <;> by_cases h1 : x1 = y1 <;> simp [h0, h1]
theorem stays_row {w : World} {l : List Sty} {g : Sl} (h : RowS w g 2 l.length (syC l)) {i : Nat} (hi : i < l.length) : ∃ b off, g.a = some ⟨b, off, none⟩ ∧ w.cell? ⟨b, off + i * 2, none⟩ = some (.int .i64 (syD l i).room) ∧ w.cell? ⟨b, off + i * 2 + 1, none⟩ = some (.int .i64 (syD l i).hours) := by
  obtain ⟨b, off, ha, hc⟩ := h.row (by omega) (by omega)
  exact ⟨b, off, ha, hc.2 i 0 hi (by omega), hc.2 i 1 hi (by omega)⟩
set_option maxRecDepth 100000 in
set_option maxHeartbeats 8000000 in
theorem stays_any {s t : Sl} {l m : List Sty} {w : World} (hl : RowS w s 2 l.length (syC l)) (hm : RowS w t 2 m.length (syC m)) :
    Calls Tryz.prog 22 #[.slice s.a l.length s.cap, .slice t.a m.length t.cap] w fun e w' => e = .returned (.bool (decide (l = m))) ∧ Below w.heap.size w w' := by
  obtain ⟨a, cap⟩ := s
  obtain ⟨a', cap'⟩ := t
  have hc : l.length ≤ cap := hl.le
  have hcm : cap ≤ 9223372036854775807 := hl.max
  have hc' : m.length ≤ cap' := hm.le
  have hcm' : cap' ≤ 9223372036854775807 := hm.max
  have HL := Lib.hid hl; have HM := Lib.hid hm; clear hl hm
  by_cases hne : l.length = m.length
  · have HN := Lib.hid hne
    have hb : ((l.length : Int) != (m.length : Int)) = false := by simp [hne]
    clear hne
    go_enter Tryz.func22, Tryz.ntmps22
    go_wp2_with (fail)
    go_loopw [5] (fun i wr => ∃ k : Nat, i = .int .i64 k ∧ k ≤ l.length ∧ Below w.heap.size w wr ∧ ∀ j, j < k → syD l j = syD m j) (fun i _ => l.length - (intOf i).toNat)
    case atStart => exact ⟨0, rfl, by omega, Below.refl _ _, fun j h => absurd h (by omega)⟩
    case round =>
      obtain ⟨k, rfl, hk, hB, hall⟩ := hrel
      have HA := Lib.hid hall; have HB := Lib.hid hB; clear hall
      by_cases hlt : k < l.length
      · go_light
        obtain ⟨b, off, h1, x0, x1⟩ := stays_row (HL.out.below hB) hlt
        obtain ⟨b', off', h2, y0, y1⟩ := stays_row (HM.out.below hB) (i := k) (by have := HN.out; omega)
        dsimp only at h1 h2
        subst h1 h2
        have i0 : (0 : Int) ≤ (k : Int) := by omega
        have i1 : (k : Int) < (l.length : Int) := by omega
        have i2 : (k : Int) < (m.length : Int) := by have := HN.out; omega
        have w3' : IntKind.i64.wrap ((k : Int) + 1) = (k : Int) + 1 := IntWalk.i64_in _ (by omega)
        obtain ⟨u0, hu0⟩ : ∃ x, x = (syD l k).room := ⟨_, rfl⟩
        obtain ⟨v0, hv0⟩ : ∃ x, x = (syD m k).room := ⟨_, rfl⟩
        rw [← hu0] at x0; rw [← hv0] at y0
        obtain ⟨u1, hu1⟩ : ∃ x, x = (syD l k).hours := ⟨_, rfl⟩
        obtain ⟨v1, hv1⟩ : ∃ x, x = (syD m k).hours := ⟨_, rfl⟩
        rw [← hu1] at x1; rw [← hv1] at y1
        have HX : Hid (syD l k = syD m k ↔ (u0 = v0 ∧ u1 = v1)) := Lib.hid (by
          rw [hu0, hv0, hu1, hv1]
          constructor
          · intro h; rw [h]; simp
          · intro h; cases h1 : syD l k; cases h2 : syD m k; rw [h1, h2] at h; simpa using h)
        clear hu0 hv0 hu1 hv1 hb hB
        go_wp2_with (fail)
        by_cases hq : u0 = v0 ∧ u1 = v1
        · have HQ := Lib.hid (HX.out.2 hq)
          obtain ⟨rfl, rfl⟩ := hq
          refine region_ev [] [0, 1, 2, 3, 4, 5, 6, 7, 8] [] [] (by kernel_rfl) (by kernel_rfl) (by intro c a d v w h; cases d <;> exact h) ?_
          simp only [picks, List.drop_succ_cons, List.drop_zero]
          repeat (refine wpQ0_step (fun K hK => ?_); go_simp; (refine hK _ ?_; clear hK K))
          refine wpQ0_nil ?_
          repeat ((with_reducible refine wpQ2_step (fun K hK => ?_)); go_simp; first | ((with_reducible refine hK _ ?_); clear hK K) | (apply Exists.intro; refine ⟨fun x => ?_, hK _ ?_⟩; (fail); clear hK K))
          refine wpQ2_nil ?_
          refine Events.none_ fun w3 hg3 => ?_
          simp only [picks, List.drop_succ_cons, List.drop_zero]
          have hB3 := below_ext HB.out hg3
          clear x0 x1 y0 y1 hg3
          go_wp2_with (fail)
          go_roundw
          case rel => exact ⟨k + 1, by go_num, by omega, hB3, fun j hj => by
            by_cases hjk : j = k
            · rw [hjk]; exact HQ.out
            · exact HA.out j (by omega)⟩
          case measure => simp [intOf]; omega
        · have hne : l ≠ m := fun he => hq (HX.out.1 (by rw [he]))
          have HNE := Lib.hid hne
          have hd := decide_eq_false hq
          have HE : ∀ W : World, (binOp .neq 93 (.agg #[.int .i64 u0, .int .i64 u1]) (.agg #[.int .i64 v0, .int .i64 v1])).run Tryz.prog W = .ok (.bool true) W := fun W => by rw [run_neq_stays, hd]; rfl
          clear hq hne hd
          refine region_ev [] [0, 1, 2, 3, 4, 5, 6, 7, 8] [] [] (by kernel_rfl) (by kernel_rfl) (by intro c a d v w h; cases d <;> exact h) ?_
          simp only [picks, List.drop_succ_cons, List.drop_zero]
          repeat (refine wpQ0_step (fun K hK => ?_); go_simp; (refine hK _ ?_; clear hK K))
          refine wpQ0_nil ?_
          repeat ((with_reducible refine wpQ2_step (fun K hK => ?_)); go_simp; first | ((with_reducible refine hK _ ?_); clear hK K) | (apply Exists.intro; refine ⟨fun x => ?_, hK _ ?_⟩; (fail); clear hK K))
          refine wpQ2_nil ?_
          refine Events.none_ fun w3 hg3 => ?_
          simp only [picks, List.drop_succ_cons, List.drop_zero]
          have hB3 := below_ext HB.out hg3
          clear x0 x1 y0 y1 hg3
          go_wp2_with (fail)
          go_ret
          exact ⟨ret_bool (by rw [decide_eq_false HNE.out]), hB3⟩
      · obtain rfl : k = l.length := by omega
        have r1 : ¬ (l.length : Int) < (l.length : Int) := by omega
        clear hb
        go_wp2_with (fail)
        go_ret
        exact ⟨ret_bool (decide_eq_true (stays_ext HN.out HA.out)).symm, HB.out⟩
  · have hb : ((l.length : Int) != (m.length : Int)) = true := by simp; omega
    have hd : l ≠ m := fun he => hne (by rw [he])
    have HD := Lib.hid hd
    clear hd
    go_enter Tryz.func22, Tryz.ntmps22
    go_wp2_with (fail)
    go_ret
    exact ⟨ret_bool (decide_eq_false HD.out).symm, Below.refl _ _⟩
theorem nrs_ext {l m : List Nr} (h : l.length = m.length) (h' : ∀ j, j < l.length → nrD l j = nrD m j) : l = m := by
  refine List.ext_getElem h fun i h1 h2 => ?_
  have := h' i h1
  rwa [nrD, nrD, List.getD_eq_getElem?_getD, List.getD_eq_getElem?_getD, List.getElem?_eq_getElem h1, List.getElem?_eq_getElem h2] at this
theorem run_neq_nrs (w : World) (x0 x1 y0 y1 : Int) : (binOp .neq 115 (.agg #[.int .i64 x0, .int .i64 x1]) (.agg #[.int .i64 y0, .int .i64 y1])).run Tryz.prog w = .ok (.bool (!(decide (x0 = y0 ∧ x1 = y1)))) w := by
  go_simp
  by_cases h0 : x0 = y0 <;> by_cases h1 : x1 = y1 <;> simp [h0, h1]
theorem nrs_row {w : World} {l : List Nr} {g : Sl} (h : RowS w g 2 l.length (nrC l)) {i : Nat} (hi : i < l.length) : ∃ b off, g.a = some ⟨b, off, none⟩ ∧ w.cell? ⟨b, off + i * 2, none⟩ = some (.int .i64 (nrD l i).a) ∧ w.cell? ⟨b, off + i * 2 + 1, none⟩ = some (.int .i64 (nrD l i).b) := by
  obtain ⟨b, off, ha, hc⟩ := h.row (by omega) (by omega)
  exact ⟨b, off, ha, hc.2 i 0 hi (by omega), hc.2 i 1 hi (by omega)⟩
set_option maxRecDepth 100000 in
set_option maxHeartbeats 8000000 in
theorem nrs_any {s t : Sl} {l m : List Nr} {w : World} (hl : RowS w s 2 l.length (nrC l)) (hm : RowS w t 2 m.length (nrC m)) :
    Calls Tryz.prog 25 #[.slice s.a l.length s.cap, .slice t.a m.length t.cap] w fun e w' => e = .returned (.bool (decide (l = m))) ∧ Below w.heap.size w w' := by
  obtain ⟨a, cap⟩ := s
  obtain ⟨a', cap'⟩ := t
  have hc : l.length ≤ cap := hl.le
  have hcm : cap ≤ 9223372036854775807 := hl.max
  have hc' : m.length ≤ cap' := hm.le
  have hcm' : cap' ≤ 9223372036854775807 := hm.max
  have HL := Lib.hid hl; have HM := Lib.hid hm; clear hl hm
  by_cases hne : l.length = m.length
  · have HN := Lib.hid hne
    have hb : ((l.length : Int) != (m.length : Int)) = false := by simp [hne]
    clear hne
    go_enter Tryz.func25, Tryz.ntmps25
    go_wp2_with (fail)
    go_loopw [5] (fun i wr => ∃ k : Nat, i = .int .i64 k ∧ k ≤ l.length ∧ Below w.heap.size w wr ∧ ∀ j, j < k → nrD l j = nrD m j) (fun i _ => l.length - (intOf i).toNat)
    case atStart => exact ⟨0, rfl, by omega, Below.refl _ _, fun j h => absurd h (by omega)⟩
    case round =>
      obtain ⟨k, rfl, hk, hB, hall⟩ := hrel
      have HA := Lib.hid hall; have HB := Lib.hid hB; clear hall
      by_cases hlt : k < l.length
      · go_light
        obtain ⟨b, off, h1, x0, x1⟩ := nrs_row (HL.out.below hB) hlt
        obtain ⟨b', off', h2, y0, y1⟩ := nrs_row (HM.out.below hB) (i := k) (by have := HN.out; omega)
        dsimp only at h1 h2
        subst h1 h2
        have i0 : (0 : Int) ≤ (k : Int) := by omega
        have i1 : (k : Int) < (l.length : Int) := by omega
        have i2 : (k : Int) < (m.length : Int) := by have := HN.out; omega
        have w3' : IntKind.i64.wrap ((k : Int) + 1) = (k : Int) + 1 := IntWalk.i64_in _ (by omega)
        obtain ⟨u0, hu0⟩ : ∃ x, x = (nrD l k).a := ⟨_, rfl⟩
        obtain ⟨v0, hv0⟩ : ∃ x, x = (nrD m k).a := ⟨_, rfl⟩
        rw [← hu0] at x0; rw [← hv0] at y0
        obtain ⟨u1, hu1⟩ : ∃ x, x = (nrD l k).b := ⟨_, rfl⟩
        obtain ⟨v1, hv1⟩ : ∃ x, x = (nrD m k).b := ⟨_, rfl⟩
        rw [← hu1] at x1; rw [← hv1] at y1
        have HX : Hid (nrD l k = nrD m k ↔ (u0 = v0 ∧ u1 = v1)) := Lib.hid (by
          rw [hu0, hv0, hu1, hv1]
          constructor
          · intro h; rw [h]; simp
          · intro h; cases h1 : nrD l k; cases h2 : nrD m k; rw [h1, h2] at h; simpa using h)
        clear hu0 hv0 hu1 hv1 hb hB
        go_wp2_with (fail)
        by_cases hq : u0 = v0 ∧ u1 = v1
        · have HQ := Lib.hid (HX.out.2 hq)
          obtain ⟨rfl, rfl⟩ := hq
          refine region_ev [] [0, 1, 2, 3, 4, 5, 6, 7, 8] [] [] (by kernel_rfl) (by kernel_rfl) (by intro c a d v w h; cases d <;> exact h) ?_
          simp only [picks, List.drop_succ_cons, List.drop_zero]
          repeat (refine wpQ0_step (fun K hK => ?_); go_simp; (refine hK _ ?_; clear hK K))
          refine wpQ0_nil ?_
          repeat ((with_reducible refine wpQ2_step (fun K hK => ?_)); go_simp; first | ((with_reducible refine hK _ ?_); clear hK K) | (apply Exists.intro; refine ⟨fun x => ?_, hK _ ?_⟩; (fail); clear hK K))
          refine wpQ2_nil ?_
          refine Events.none_ fun w3 hg3 => ?_
          simp only [picks, List.drop_succ_cons, List.drop_zero]
          have hB3 := below_ext HB.out hg3
          clear x0 x1 y0 y1 hg3
          go_wp2_with (fail)
          go_roundw
          case rel => exact ⟨k + 1, by go_num, by omega, hB3, fun j hj => by
            by_cases hjk : j = k
            · rw [hjk]; exact HQ.out
            · exact HA.out j (by omega)⟩
          case measure => simp [intOf]; omega
        · have hne : l ≠ m := fun he => hq (HX.out.1 (by rw [he]))
          have HNE := Lib.hid hne
          have hd := decide_eq_false hq
          have HE : ∀ W : World, (binOp .neq 115 (.agg #[.int .i64 u0, .int .i64 u1]) (.agg #[.int .i64 v0, .int .i64 v1])).run Tryz.prog W = .ok (.bool true) W := fun W => by rw [run_neq_nrs, hd]; rfl
          clear hq hne hd
          refine region_ev [] [0, 1, 2, 3, 4, 5, 6, 7, 8] [] [] (by kernel_rfl) (by kernel_rfl) (by intro c a d v w h; cases d <;> exact h) ?_
          simp only [picks, List.drop_succ_cons, List.drop_zero]
          repeat (refine wpQ0_step (fun K hK => ?_); go_simp; (refine hK _ ?_; clear hK K))
          refine wpQ0_nil ?_
          repeat ((with_reducible refine wpQ2_step (fun K hK => ?_)); go_simp; first | ((with_reducible refine hK _ ?_); clear hK K) | (apply Exists.intro; refine ⟨fun x => ?_, hK _ ?_⟩; (fail); clear hK K))
          refine wpQ2_nil ?_
          refine Events.none_ fun w3 hg3 => ?_
          simp only [picks, List.drop_succ_cons, List.drop_zero]
          have hB3 := below_ext HB.out hg3
          clear x0 x1 y0 y1 hg3
          go_wp2_with (fail)
          go_ret
          exact ⟨ret_bool (by rw [decide_eq_false HNE.out]), hB3⟩
      · obtain rfl : k = l.length := by omega
        have r1 : ¬ (l.length : Int) < (l.length : Int) := by omega
        clear hb
        go_wp2_with (fail)
        go_ret
        exact ⟨ret_bool (decide_eq_true (nrs_ext HN.out HA.out)).symm, HB.out⟩
  · have hb : ((l.length : Int) != (m.length : Int)) = true := by simp; omega
    have hd : l ≠ m := fun he => hne (by rw [he])
    have HD := Lib.hid hd
    clear hd
    go_enter Tryz.func25, Tryz.ntmps25
    go_wp2_with (fail)
    go_ret
    exact ⟨ret_bool (decide_eq_false HD.out).symm, Below.refl _ _⟩
theorem mvs_ext {l m : List Mv} (h : l.length = m.length) (h' : ∀ j, j < l.length → mvD l j = mvD m j) : l = m := by
  refine List.ext_getElem h fun i h1 h2 => ?_
  have := h' i h1
  rwa [mvD, mvD, List.getD_eq_getElem?_getD, List.getD_eq_getElem?_getD, List.getElem?_eq_getElem h1, List.getElem?_eq_getElem h2] at this
theorem run_neq_mvs (w : World) (x0 x1 x2 y0 y1 y2 : Int) : (binOp .neq 95 (.agg #[.int .i64 x0, .int .i64 x1, .int .i64 x2]) (.agg #[.int .i64 y0, .int .i64 y1, .int .i64 y2])).run Tryz.prog w = .ok (.bool (!(decide (x0 = y0 ∧ x1 = y1 ∧ x2 = y2)))) w := by
  go_simp
  by_cases h0 : x0 = y0 <;> by_cases h1 : x1 = y1 <;> by_cases h2 : x2 = y2 <;> simp [h0, h1, h2]
theorem mvs_row {w : World} {l : List Mv} {g : Sl} (h : RowS w g 3 l.length (mvC l)) {i : Nat} (hi : i < l.length) : ∃ b off, g.a = some ⟨b, off, none⟩ ∧ w.cell? ⟨b, off + i * 3, none⟩ = some (.int .i64 (mvD l i).hour) ∧ w.cell? ⟨b, off + i * 3 + 1, none⟩ = some (.int .i64 (mvD l i).can) ∧ w.cell? ⟨b, off + i * 3 + 2, none⟩ = some (.int .i64 (mvD l i).to_) := by
  obtain ⟨b, off, ha, hc⟩ := h.row (by omega) (by omega)
  exact ⟨b, off, ha, hc.2 i 0 hi (by omega), hc.2 i 1 hi (by omega), hc.2 i 2 hi (by omega)⟩
set_option maxRecDepth 100000 in
set_option maxHeartbeats 8000000 in
theorem mvs_any {s t : Sl} {l m : List Mv} {w : World} (hl : RowS w s 3 l.length (mvC l)) (hm : RowS w t 3 m.length (mvC m)) :
    Calls Tryz.prog 13 #[.slice s.a l.length s.cap, .slice t.a m.length t.cap] w fun e w' => e = .returned (.bool (decide (l = m))) ∧ Below w.heap.size w w' := by
  obtain ⟨a, cap⟩ := s
  obtain ⟨a', cap'⟩ := t
  have hc : l.length ≤ cap := hl.le
  have hcm : cap ≤ 9223372036854775807 := hl.max
  have hc' : m.length ≤ cap' := hm.le
  have hcm' : cap' ≤ 9223372036854775807 := hm.max
  have HL := Lib.hid hl; have HM := Lib.hid hm; clear hl hm
  by_cases hne : l.length = m.length
  · have HN := Lib.hid hne
    have hb : ((l.length : Int) != (m.length : Int)) = false := by simp [hne]
    clear hne
    go_enter Tryz.func13, Tryz.ntmps13
    go_wp2_with (fail)
    go_loopw [5] (fun i wr => ∃ k : Nat, i = .int .i64 k ∧ k ≤ l.length ∧ Below w.heap.size w wr ∧ ∀ j, j < k → mvD l j = mvD m j) (fun i _ => l.length - (intOf i).toNat)
    case atStart => exact ⟨0, rfl, by omega, Below.refl _ _, fun j h => absurd h (by omega)⟩
    case round =>
      obtain ⟨k, rfl, hk, hB, hall⟩ := hrel
      have HA := Lib.hid hall; have HB := Lib.hid hB; clear hall
      by_cases hlt : k < l.length
      · go_light
        obtain ⟨b, off, h1, x0, x1, x2⟩ := mvs_row (HL.out.below hB) hlt
        obtain ⟨b', off', h2, y0, y1, y2⟩ := mvs_row (HM.out.below hB) (i := k) (by have := HN.out; omega)
        dsimp only at h1 h2
        subst h1 h2
        have i0 : (0 : Int) ≤ (k : Int) := by omega
        have i1 : (k : Int) < (l.length : Int) := by omega
        have i2 : (k : Int) < (m.length : Int) := by have := HN.out; omega
        have w3' : IntKind.i64.wrap ((k : Int) + 1) = (k : Int) + 1 := IntWalk.i64_in _ (by omega)
        obtain ⟨u0, hu0⟩ : ∃ x, x = (mvD l k).hour := ⟨_, rfl⟩
        obtain ⟨v0, hv0⟩ : ∃ x, x = (mvD m k).hour := ⟨_, rfl⟩
        rw [← hu0] at x0; rw [← hv0] at y0
        obtain ⟨u1, hu1⟩ : ∃ x, x = (mvD l k).can := ⟨_, rfl⟩
        obtain ⟨v1, hv1⟩ : ∃ x, x = (mvD m k).can := ⟨_, rfl⟩
        rw [← hu1] at x1; rw [← hv1] at y1
        obtain ⟨u2, hu2⟩ : ∃ x, x = (mvD l k).to_ := ⟨_, rfl⟩
        obtain ⟨v2, hv2⟩ : ∃ x, x = (mvD m k).to_ := ⟨_, rfl⟩
        rw [← hu2] at x2; rw [← hv2] at y2
        have HX : Hid (mvD l k = mvD m k ↔ (u0 = v0 ∧ u1 = v1 ∧ u2 = v2)) := Lib.hid (by
          rw [hu0, hv0, hu1, hv1, hu2, hv2]
          constructor
          · intro h; rw [h]; simp
          · intro h; cases h1 : mvD l k; cases h2 : mvD m k; rw [h1, h2] at h; simpa using h)
        clear hu0 hv0 hu1 hv1 hu2 hv2 hb hB
        go_wp2_with (fail)
        by_cases hq : u0 = v0 ∧ u1 = v1 ∧ u2 = v2
        · have HQ := Lib.hid (HX.out.2 hq)
          obtain ⟨rfl, rfl, rfl⟩ := hq
          refine region_ev [] [0, 1, 2, 3, 4, 5, 6, 7, 8] [] [] (by kernel_rfl) (by kernel_rfl) (by intro c a d v w h; cases d <;> exact h) ?_
          simp only [picks, List.drop_succ_cons, List.drop_zero]
          repeat (refine wpQ0_step (fun K hK => ?_); go_simp; (refine hK _ ?_; clear hK K))
          refine wpQ0_nil ?_
          repeat ((with_reducible refine wpQ2_step (fun K hK => ?_)); go_simp; first | ((with_reducible refine hK _ ?_); clear hK K) | (apply Exists.intro; refine ⟨fun x => ?_, hK _ ?_⟩; (fail); clear hK K))
          refine wpQ2_nil ?_
          refine Events.none_ fun w3 hg3 => ?_
          simp only [picks, List.drop_succ_cons, List.drop_zero]
          have hB3 := below_ext HB.out hg3
          clear x0 x1 x2 y0 y1 y2 hg3
          go_wp2_with (fail)
          go_roundw
          case rel => exact ⟨k + 1, by go_num, by omega, hB3, fun j hj => by
            by_cases hjk : j = k
            · rw [hjk]; exact HQ.out
            · exact HA.out j (by omega)⟩
          case measure => simp [intOf]; omega
        · have hne : l ≠ m := fun he => hq (HX.out.1 (by rw [he]))
          have HNE := Lib.hid hne
          have hd := decide_eq_false hq
          have HE : ∀ W : World, (binOp .neq 95 (.agg #[.int .i64 u0, .int .i64 u1, .int .i64 u2]) (.agg #[.int .i64 v0, .int .i64 v1, .int .i64 v2])).run Tryz.prog W = .ok (.bool true) W := fun W => by rw [run_neq_mvs, hd]; rfl
          clear hq hne hd
          refine region_ev [] [0, 1, 2, 3, 4, 5, 6, 7, 8] [] [] (by kernel_rfl) (by kernel_rfl) (by intro c a d v w h; cases d <;> exact h) ?_
          simp only [picks, List.drop_succ_cons, List.drop_zero]
          repeat (refine wpQ0_step (fun K hK => ?_); go_simp; (refine hK _ ?_; clear hK K))
          refine wpQ0_nil ?_
          repeat ((with_reducible refine wpQ2_step (fun K hK => ?_)); go_simp; first | ((with_reducible refine hK _ ?_); clear hK K) | (apply Exists.intro; refine ⟨fun x => ?_, hK _ ?_⟩; (fail); clear hK K))
          refine wpQ2_nil ?_
          refine Events.none_ fun w3 hg3 => ?_
          simp only [picks, List.drop_succ_cons, List.drop_zero]
          have hB3 := below_ext HB.out hg3
          clear x0 x1 x2 y0 y1 y2 hg3
          go_wp2_with (fail)
          go_ret
          exact ⟨ret_bool (by rw [decide_eq_false HNE.out]), hB3⟩
      · obtain rfl : k = l.length := by omega
        have r1 : ¬ (l.length : Int) < (l.length : Int) := by omega
        clear hb
        go_wp2_with (fail)
        go_ret
        exact ⟨ret_bool (decide_eq_true (mvs_ext HN.out HA.out)).symm, HB.out⟩
  · have hb : ((l.length : Int) != (m.length : Int)) = true := by simp; omega
    have hd : l ≠ m := fun he => hne (by rw [he])
    have HD := Lib.hid hd
    clear hd
    go_enter Tryz.func13, Tryz.ntmps13
    go_wp2_with (fail)
    go_ret
    exact ⟨ret_bool (decide_eq_false HD.out).symm, Below.refl _ _⟩
theorem days_ext {l m : List Day} (h : l.length = m.length) (h' : ∀ j, j < l.length → dyD l j = dyD m j) : l = m := by
  refine List.ext_getElem h fun i h1 h2 => ?_
  have := h' i h1
  rwa [dyD, dyD, List.getD_eq_getElem?_getD, List.getD_eq_getElem?_getD, List.getElem?_eq_getElem h1, List.getElem?_eq_getElem h2] at this
theorem run_neq_days (w : World) (x0 x1 x2 x3 y0 y1 y2 y3 : Int) : (binOp .neq 79 (.agg #[.int .i64 x0, .int .i64 x1, .int .i64 x2, .int .i64 x3]) (.agg #[.int .i64 y0, .int .i64 y1, .int .i64 y2, .int .i64 y3])).run Tryz.prog w = .ok (.bool (!(decide (x0 = y0 ∧ x1 = y1 ∧ x2 = y2 ∧ x3 = y3)))) w := by
  go_simp
  by_cases h0 : x0 = y0 <;> by_cases h1 : x1 = y1 <;> by_cases h2 : x2 = y2 <;> by_cases h3 : x3 = y3 <;> simp [h0, h1, h2, h3]
theorem days_row {w : World} {l : List Day} {g : Sl} (h : RowS w g 4 l.length (dyC l)) {i : Nat} (hi : i < l.length) : ∃ b off, g.a = some ⟨b, off, none⟩ ∧ w.cell? ⟨b, off + i * 4, none⟩ = some (.int .i64 (dyD l i).tlo) ∧ w.cell? ⟨b, off + i * 4 + 1, none⟩ = some (.int .i64 (dyD l i).thi) ∧ w.cell? ⟨b, off + i * 4 + 2, none⟩ = some (.int .i64 (dyD l i).dlo) ∧ w.cell? ⟨b, off + i * 4 + 3, none⟩ = some (.int .i64 (dyD l i).dhi) := by
  obtain ⟨b, off, ha, hc⟩ := h.row (by omega) (by omega)
  exact ⟨b, off, ha, hc.2 i 0 hi (by omega), hc.2 i 1 hi (by omega), hc.2 i 2 hi (by omega), hc.2 i 3 hi (by omega)⟩
set_option maxRecDepth 100000 in
set_option maxHeartbeats 8000000 in
theorem days_any {s t : Sl} {l m : List Day} {w : World} (hl : RowS w s 4 l.length (dyC l)) (hm : RowS w t 4 m.length (dyC m)) :
    Calls Tryz.prog 9 #[.slice s.a l.length s.cap, .slice t.a m.length t.cap] w fun e w' => e = .returned (.bool (decide (l = m))) ∧ Below w.heap.size w w' := by
  obtain ⟨a, cap⟩ := s
  obtain ⟨a', cap'⟩ := t
  have hc : l.length ≤ cap := hl.le
  have hcm : cap ≤ 9223372036854775807 := hl.max
  have hc' : m.length ≤ cap' := hm.le
  have hcm' : cap' ≤ 9223372036854775807 := hm.max
  have HL := Lib.hid hl; have HM := Lib.hid hm; clear hl hm
  by_cases hne : l.length = m.length
  · have HN := Lib.hid hne
    have hb : ((l.length : Int) != (m.length : Int)) = false := by simp [hne]
    clear hne
    go_enter Tryz.func9, Tryz.ntmps9
    go_wp2_with (fail)
    go_loopw [5] (fun i wr => ∃ k : Nat, i = .int .i64 k ∧ k ≤ l.length ∧ Below w.heap.size w wr ∧ ∀ j, j < k → dyD l j = dyD m j) (fun i _ => l.length - (intOf i).toNat)
    case atStart => exact ⟨0, rfl, by omega, Below.refl _ _, fun j h => absurd h (by omega)⟩
    case round =>
      obtain ⟨k, rfl, hk, hB, hall⟩ := hrel
      have HA := Lib.hid hall; have HB := Lib.hid hB; clear hall
      by_cases hlt : k < l.length
      · go_light
        obtain ⟨b, off, h1, x0, x1, x2, x3⟩ := days_row (HL.out.below hB) hlt
        obtain ⟨b', off', h2, y0, y1, y2, y3⟩ := days_row (HM.out.below hB) (i := k) (by have := HN.out; omega)
        dsimp only at h1 h2
        subst h1 h2
        have i0 : (0 : Int) ≤ (k : Int) := by omega
        have i1 : (k : Int) < (l.length : Int) := by omega
        have i2 : (k : Int) < (m.length : Int) := by have := HN.out; omega
        have w3' : IntKind.i64.wrap ((k : Int) + 1) = (k : Int) + 1 := IntWalk.i64_in _ (by omega)
        obtain ⟨u0, hu0⟩ : ∃ x, x = (dyD l k).tlo := ⟨_, rfl⟩
        obtain ⟨v0, hv0⟩ : ∃ x, x = (dyD m k).tlo := ⟨_, rfl⟩
        rw [← hu0] at x0; rw [← hv0] at y0
        obtain ⟨u1, hu1⟩ : ∃ x, x = (dyD l k).thi := ⟨_, rfl⟩
        obtain ⟨v1, hv1⟩ : ∃ x, x = (dyD m k).thi := ⟨_, rfl⟩
        rw [← hu1] at x1; rw [← hv1] at y1
        obtain ⟨u2, hu2⟩ : ∃ x, x = (dyD l k).dlo := ⟨_, rfl⟩
        obtain ⟨v2, hv2⟩ : ∃ x, x = (dyD m k).dlo := ⟨_, rfl⟩
        rw [← hu2] at x2; rw [← hv2] at y2
        obtain ⟨u3, hu3⟩ : ∃ x, x = (dyD l k).dhi := ⟨_, rfl⟩
        obtain ⟨v3, hv3⟩ : ∃ x, x = (dyD m k).dhi := ⟨_, rfl⟩
        rw [← hu3] at x3; rw [← hv3] at y3
        have HX : Hid (dyD l k = dyD m k ↔ (u0 = v0 ∧ u1 = v1 ∧ u2 = v2 ∧ u3 = v3)) := Lib.hid (by
          rw [hu0, hv0, hu1, hv1, hu2, hv2, hu3, hv3]
          constructor
          · intro h; rw [h]; simp
          · intro h; cases h1 : dyD l k; cases h2 : dyD m k; rw [h1, h2] at h; simpa using h)
        clear hu0 hv0 hu1 hv1 hu2 hv2 hu3 hv3 hb hB
        go_wp2_with (fail)
        by_cases hq : u0 = v0 ∧ u1 = v1 ∧ u2 = v2 ∧ u3 = v3
        · have HQ := Lib.hid (HX.out.2 hq)
          obtain ⟨rfl, rfl, rfl, rfl⟩ := hq
          refine region_ev [] [0, 1, 2, 3, 4, 5, 6, 7, 8] [] [] (by kernel_rfl) (by kernel_rfl) (by intro c a d v w h; cases d <;> exact h) ?_
          simp only [picks, List.drop_succ_cons, List.drop_zero]
          repeat (refine wpQ0_step (fun K hK => ?_); go_simp; (refine hK _ ?_; clear hK K))
          refine wpQ0_nil ?_
          repeat ((with_reducible refine wpQ2_step (fun K hK => ?_)); go_simp; first | ((with_reducible refine hK _ ?_); clear hK K) | (apply Exists.intro; refine ⟨fun x => ?_, hK _ ?_⟩; (fail); clear hK K))
          refine wpQ2_nil ?_
          refine Events.none_ fun w3 hg3 => ?_
          simp only [picks, List.drop_succ_cons, List.drop_zero]
          have hB3 := below_ext HB.out hg3
          clear x0 x1 x2 x3 y0 y1 y2 y3 hg3
          go_wp2_with (fail)
          go_roundw
          case rel => exact ⟨k + 1, by go_num, by omega, hB3, fun j hj => by
            by_cases hjk : j = k
            · rw [hjk]; exact HQ.out
            · exact HA.out j (by omega)⟩
          case measure => simp [intOf]; omega
        · have hne : l ≠ m := fun he => hq (HX.out.1 (by rw [he]))
          have HNE := Lib.hid hne
          have hd := decide_eq_false hq
          have HE : ∀ W : World, (binOp .neq 79 (.agg #[.int .i64 u0, .int .i64 u1, .int .i64 u2, .int .i64 u3]) (.agg #[.int .i64 v0, .int .i64 v1, .int .i64 v2, .int .i64 v3])).run Tryz.prog W = .ok (.bool true) W := fun W => by rw [run_neq_days, hd]; rfl
          clear hq hne hd
          refine region_ev [] [0, 1, 2, 3, 4, 5, 6, 7, 8] [] [] (by kernel_rfl) (by kernel_rfl) (by intro c a d v w h; cases d <;> exact h) ?_
          simp only [picks, List.drop_succ_cons, List.drop_zero]
          repeat (refine wpQ0_step (fun K hK => ?_); go_simp; (refine hK _ ?_; clear hK K))
          refine wpQ0_nil ?_
          repeat ((with_reducible refine wpQ2_step (fun K hK => ?_)); go_simp; first | ((with_reducible refine hK _ ?_); clear hK K) | (apply Exists.intro; refine ⟨fun x => ?_, hK _ ?_⟩; (fail); clear hK K))
          refine wpQ2_nil ?_
          refine Events.none_ fun w3 hg3 => ?_
          simp only [picks, List.drop_succ_cons, List.drop_zero]
          have hB3 := below_ext HB.out hg3
          clear x0 x1 x2 x3 y0 y1 y2 y3 hg3
          go_wp2_with (fail)
          go_ret
          exact ⟨ret_bool (by rw [decide_eq_false HNE.out]), hB3⟩
      · obtain rfl : k = l.length := by omega
        have r1 : ¬ (l.length : Int) < (l.length : Int) := by omega
        clear hb
        go_wp2_with (fail)
        go_ret
        exact ⟨ret_bool (decide_eq_true (days_ext HN.out HA.out)).symm, HB.out⟩
  · have hb : ((l.length : Int) != (m.length : Int)) = true := by simp; omega
    have hd : l ≠ m := fun he => hne (by rw [he])
    have HD := Lib.hid hd
    clear hd
    go_enter Tryz.func9, Tryz.ntmps9
    go_wp2_with (fail)
    go_ret
    exact ⟨ret_bool (decide_eq_false HD.out).symm, Below.refl _ _⟩
end Go.Proofs.YtfpaihjcbpaneaaGreatDoor
