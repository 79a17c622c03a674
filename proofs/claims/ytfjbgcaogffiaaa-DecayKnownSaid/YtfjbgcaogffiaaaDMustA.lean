/-
  decay.must: a panic with a fault unless all numbers lie between two bounds.
  decay.curve: a panic with the first fault of a curve.
  decay.climate, decay.levels: a panic with the fault of a climate, of a span of levels.
-/
import Derived.Test.YtfjbgcaogffiaaaDBase
namespace Go.Proofs.Ytfjbgcaogffiaaa
open Go.RowKit D
set_option linter.unusedVariables false
set_option linter.unusedSimpArgs false
attribute [local go_sem high] run_minI run_maxI
theorem must1_any (B1 B2 : Nat) (x lo hi : Int) (w : World) (h1 : w.cell? ⟨B1, 0, none⟩ = some (.int .i64 lo)) (h2 : w.cell? ⟨B2, 0, none⟩ = some (.int .i64 hi)) :
    Calls Try.prog 110 #[.int .i64 x, .pointer (some ⟨B1, 0, none⟩), .pointer (some ⟨B2, 0, none⟩)] w fun e w' => e = .returned (.bool (!inB x lo hi)) ∧ w = w' := by
  by_cases g : x < lo
  · have hr : (!inB x lo hi) = true := by rw [inB_f (by omega)]; rfl
    have H := Lib.hid hr; clear hr
    go_enter Try.func110, Try.ntmps110
    go_wp2
    go_ret
    rw [H.out]
    exact ⟨rfl, rfl⟩
  · go_enter Try.func110, Try.ntmps110
    go_wp2
    go_ret
    have e0 : ∀ b : Bool, b = decide (hi < x) → b = !inB x lo hi := fun b hb => by rw [hb]; by_cases h : hi < x <;> simp [inB, h] <;> omega
    exact ⟨ret_bool (e0 _ rfl), rfl⟩
def idxBad (lo hi : Int) (l : List Int) : Int := if l.all (fun x => inB x lo hi) then -1 else l.findIdx (fun x => !inB x lo hi)
theorem idx_must {s : Sl} {l : List Int} (B1 B2 : Nat) (lo hi : Int) {w : World} (hs : IntsS w s l) (h1 : w.cell? ⟨B1, 0, none⟩ = some (.int .i64 lo)) (h2 : w.cell? ⟨B2, 0, none⟩ = some (.int .i64 hi)) :
    Calls Try.prog 114 #[.slice s.a l.length s.cap, .func (.func 110) #[] #[.pointer (some ⟨B1, 0, none⟩), .pointer (some ⟨B2, 0, none⟩)]] w fun e w' => (∃ n : Int, e = .returned (.int .i64 n) ∧ decide (0 ≤ n) = !(l.all (fun x => inB x lo hi))) ∧ w = w' := by
  obtain ⟨a, cap⟩ := s
  have hc : l.length ≤ cap := hs.le
  have hm : cap ≤ 9223372036854775807 := hs.max
  have HL0 := Lib.hid hs; clear hs
  go_enter Try.func114, Try.ntmps114
  go_wp2
  go_loop [8] (fun i => ∃ k : Nat, k ≤ l.length ∧ i = .int .i64 k ∧ ∀ j, j < k → inB (intD l j) lo hi = true) (fun i => l.length - (intOf i).toNat)
  case atStart => exact ⟨0, Nat.zero_le _, rfl, fun j h => absurd h (by omega)⟩
  case round =>
    obtain ⟨k, hk, rfl, hbad⟩ := hrel
    have HB := Lib.hid hbad; clear hbad
    by_cases hlt : k < l.length
    · obtain ⟨b, off, rfl, hc0⟩ := ints_at' HL0.out hlt
      obtain ⟨x, hx⟩ : ∃ x, x = intD l k := ⟨_, rfl⟩
      rw [← hx] at hc0
      have HX := Lib.hid hx; clear hx
      by_cases g1 : inB x lo hi = true
      · go_wp2_with (go_at_call 110; refine (must1_any _ _ _ _ _ _ (by assumption) (by assumption)).mono ?_; rintro e w' ⟨rfl, rfl⟩)
        go_round
        case rel => exact ⟨k + 1, by omega, by go_num, below_succ HB.out (by rw [← HX.out]; exact g1)⟩
        case measure => simp [intOf]; omega
      · go_wp2_with (go_at_call 110; refine (must1_any _ _ _ _ _ _ (by assumption) (by assumption)).mono ?_; rintro e w' ⟨rfl, rfl⟩)
        go_ret
        refine ⟨⟨_, rfl, ?_⟩, rfl⟩
        have hf : l.all (fun x => inB x lo hi) = false := by
          rw [List.all_eq_false]
          refine ⟨intD l k, ?_, by rw [← HX.out]; exact g1⟩
          rw [intD, List.getD_eq_getElem?_getD, List.getElem?_eq_getElem hlt]; exact List.getElem_mem hlt
        rw [hf]; simp
    · go_wp2
      go_ret
      refine ⟨⟨_, rfl, ?_⟩, rfl⟩
      have hf : l.all (fun x => inB x lo hi) = true := by
        rw [List.all_eq_true]
        intro x hx
        obtain ⟨j, hj, rfl⟩ := List.getElem_of_mem hx
        have := HB.out j (by omega)
        rwa [intD, List.getD_eq_getElem?_getD, List.getElem?_eq_getElem hj] at this
      rw [hf]; simp
theorem all_must {s : Sl} {l : List Int} (B1 B2 : Nat) (lo hi : Int) {w : World} (hs : IntsS w s l) (h1 : w.cell? ⟨B1, 0, none⟩ = some (.int .i64 lo)) (h2 : w.cell? ⟨B2, 0, none⟩ = some (.int .i64 hi)) :
    Calls Try.prog 109 #[.slice s.a l.length s.cap, .func (.func 110) #[] #[.pointer (some ⟨B1, 0, none⟩), .pointer (some ⟨B2, 0, none⟩)]] w fun e w' => e = .returned (.bool (!(l.all (fun x => inB x lo hi)))) ∧ w = w' := by
  have C := idx_must B1 B2 lo hi hs h1 h2
  generalize l.all (fun x => inB x lo hi) = t at *
  have HC := Lib.hid C; clear C hs h1 h2
  go_enter Try.func109, Try.ntmps109
  go_wp2_with (fail)
  refine HC.out.mono ?_
  rintro e w' ⟨⟨n, rfl, hn⟩, rfl⟩
  have HN := Lib.hid hn; clear hn
  go_wp2
  all_goals go_ret
  all_goals exact ⟨ret_bool (by rw [← HN.out]), rfl⟩
theorem must_ok (part at_ e lo hi : Int) {s : Sl} {l : List Int} {w : World} (hs : IntsS w s l) (h : ∀ x ∈ l, lo ≤ x ∧ x ≤ hi) :
    Calls Try.prog 97 #[.agg #[.int .i64 part, .int .i64 at_, .int .i64 e], .int .i64 lo, .int .i64 hi, .slice s.a l.length s.cap] w fun en w' =>
      en = .returned (.tuple #[]) ∧ Below w.heap.size w w' := by
  have ht : l.all (fun x => inB x lo hi) = true := List.all_eq_true.2 fun x hx => inB_t (h x hx)
  have C : ∀ W : World, Below w.heap.size w W → ∀ B1 B2, W.cell? ⟨B1, 0, none⟩ = some (.int .i64 lo) → W.cell? ⟨B2, 0, none⟩ = some (.int .i64 hi) → _ := fun W hb B1 B2 h1 h2 => all_must B1 B2 lo hi (hs.below hb) h1 h2
  rw [ht] at C
  have HC := Lib.hid C; clear C hs h ht
  go_enter Try.func97, Try.ntmps97
  go_wp2_with (fail)
  refine (HC.out _ ?_ _ _ ?_ ?_).mono ?_
  · repeat' (first | exact Below.refl _ _ | assumption | refine below_drewN ?_ _ | refine Below.drew ?_ | refine Below.alloc ?_ (by first | assumption | omega | (simp <;> omega)) _ | refine Below.setCell ?_ (by first | assumption | omega | (simp <;> omega)) _)
  · go_simp
  · go_simp
  rintro e w' ⟨rfl, rfl⟩
  go_wp2_with (fail)
  go_end0
  exact ⟨rfl, by repeat' (first | exact Below.refl _ _ | assumption | refine below_drewN ?_ _ | refine Below.drew ?_ | refine Below.alloc ?_ (by first | assumption | omega | (simp <;> omega)) _ | refine Below.setCell ?_ (by first | assumption | omega | (simp <;> omega)) _)⟩
theorem must_no (part at_ e lo hi : Int) {s : Sl} {l : List Int} {w : World} (hs : IntsS w s l) (x : Int) (hx : x ∈ l) (h : ¬ (lo ≤ x ∧ x ≤ hi)) :
    Calls Try.prog 97 #[.agg #[.int .i64 part, .int .i64 at_, .int .i64 e], .int .i64 lo, .int .i64 hi, .slice s.a l.length s.cap] w fun en w' =>
      en = .panicked [{ v := .iface 103 (.agg #[.int .i64 part, .int .i64 at_, .int .i64 e]), recovered := false }] ∧ Below w.heap.size w w' := by
  have ht : l.all (fun x => inB x lo hi) = false := List.all_eq_false.2 ⟨x, hx, by rw [inB_f h]; simp⟩
  have C : ∀ W : World, Below w.heap.size w W → ∀ B1 B2, W.cell? ⟨B1, 0, none⟩ = some (.int .i64 lo) → W.cell? ⟨B2, 0, none⟩ = some (.int .i64 hi) → _ := fun W hb B1 B2 h1 h2 => all_must B1 B2 lo hi (hs.below hb) h1 h2
  rw [ht] at C
  have HC := Lib.hid C; clear C hs h ht
  go_enter Try.func97, Try.ntmps97
  go_wp2_with (fail)
  refine (HC.out _ ?_ _ _ ?_ ?_).mono ?_
  · repeat' (first | exact Below.refl _ _ | assumption | refine below_drewN ?_ _ | refine Below.drew ?_ | refine Below.alloc ?_ (by first | assumption | omega | (simp <;> omega)) _ | refine Below.setCell ?_ (by first | assumption | omega | (simp <;> omega)) _)
  · go_simp
  · go_simp
  rintro e w' ⟨rfl, rfl⟩
  go_wp2_with (fail)
  exact ⟨rfl, rfl, by repeat' (first | exact Below.refl _ _ | assumption | refine below_drewN ?_ _ | refine Below.drew ?_ | refine Below.alloc ?_ (by first | assumption | omega | (simp <;> omega)) _ | refine Below.setCell ?_ (by first | assumption | omega | (simp <;> omega)) _)⟩
theorem ints1 {w : World} {b : Nat} {x : Int} (h : w.cell? ⟨b, 0, none⟩ = some (.int .i64 x)) : IntsS w ⟨some ⟨b, 0, none⟩, 1⟩ [x] :=
  ⟨by simp, by simp, fun i j hi hj => by
    obtain rfl : i = 0 := by simp at hi; omega
    obtain rfl : j = 0 := by omega
    exact ⟨b, 0, rfl, h⟩⟩
theorem ints2 {w : World} {b : Nat} {x y : Int} (h : w.cell? ⟨b, 0, none⟩ = some (.int .i64 x)) (h' : w.cell? ⟨b, 1, none⟩ = some (.int .i64 y)) : IntsS w ⟨some ⟨b, 0, none⟩, 2⟩ [x, y] :=
  ⟨by simp, by simp, fun i j hi hj => by
    obtain rfl : j = 0 := by omega
    rcases (by simp at hi; omega : i = 0 ∨ i = 1) with rfl | rfl
    · exact ⟨b, 0, rfl, h⟩
    · exact ⟨b, 0, rfl, h'⟩⟩
theorem must1_ok (part at_ e lo hi x : Int) {b : Nat} {w : World} (hc : w.cell? ⟨b, 0, none⟩ = some (.int .i64 x)) (h : lo ≤ x ∧ x ≤ hi) :
    Calls Try.prog 97 #[.agg #[.int .i64 part, .int .i64 at_, .int .i64 e], .int .i64 lo, .int .i64 hi, .slice (some ⟨b, 0, none⟩) 1 1] w fun en w' => en = .returned (.tuple #[]) ∧ Below w.heap.size w w' :=
  must_ok (s := ⟨some ⟨b, 0, none⟩, 1⟩) (l := [x]) part at_ e lo hi (ints1 hc) (by simpa using h)
theorem must1_no (part at_ e lo hi x : Int) {b : Nat} {w : World} (hc : w.cell? ⟨b, 0, none⟩ = some (.int .i64 x)) (h : ¬ (lo ≤ x ∧ x ≤ hi)) :
    Calls Try.prog 97 #[.agg #[.int .i64 part, .int .i64 at_, .int .i64 e], .int .i64 lo, .int .i64 hi, .slice (some ⟨b, 0, none⟩) 1 1] w fun en w' =>
      en = .panicked [{ v := .iface 103 (.agg #[.int .i64 part, .int .i64 at_, .int .i64 e]), recovered := false }] ∧ Below w.heap.size w w' :=
  must_no (s := ⟨some ⟨b, 0, none⟩, 1⟩) (l := [x]) part at_ e lo hi (ints1 hc) x (by simp) h
theorem must2_ok (part at_ e lo hi x y : Int) {b : Nat} {w : World} (hc : w.cell? ⟨b, 0, none⟩ = some (.int .i64 x)) (hc' : w.cell? ⟨b, 1, none⟩ = some (.int .i64 y)) (h : (lo ≤ x ∧ x ≤ hi) ∧ (lo ≤ y ∧ y ≤ hi)) :
    Calls Try.prog 97 #[.agg #[.int .i64 part, .int .i64 at_, .int .i64 e], .int .i64 lo, .int .i64 hi, .slice (some ⟨b, 0, none⟩) 2 2] w fun en w' => en = .returned (.tuple #[]) ∧ Below w.heap.size w w' :=
  must_ok (s := ⟨some ⟨b, 0, none⟩, 2⟩) (l := [x, y]) part at_ e lo hi (ints2 hc hc') (by simpa using h)
theorem must2_no (part at_ e lo hi x y : Int) {b : Nat} {w : World} (hc : w.cell? ⟨b, 0, none⟩ = some (.int .i64 x)) (hc' : w.cell? ⟨b, 1, none⟩ = some (.int .i64 y)) (h : ¬ ((lo ≤ x ∧ x ≤ hi) ∧ (lo ≤ y ∧ y ≤ hi))) :
    Calls Try.prog 97 #[.agg #[.int .i64 part, .int .i64 at_, .int .i64 e], .int .i64 lo, .int .i64 hi, .slice (some ⟨b, 0, none⟩) 2 2] w fun en w' =>
      en = .panicked [{ v := .iface 103 (.agg #[.int .i64 part, .int .i64 at_, .int .i64 e]), recovered := false }] ∧ Below w.heap.size w w' := by
  by_cases hx : lo ≤ x ∧ x ≤ hi
  · exact must_no (s := ⟨some ⟨b, 0, none⟩, 2⟩) (l := [x, y]) part at_ e lo hi (ints2 hc hc') y (by simp) (fun hy => h ⟨hx, hy⟩)
  · exact must_no (s := ⟨some ⟨b, 0, none⟩, 2⟩) (l := [x, y]) part at_ e lo hi (ints2 hc hc') x (by simp) hx
end Go.Proofs.Ytfjbgcaogffiaaa
namespace Go.Proofs.Ytfjbgcaogffiaaa
open Go.RowKit D
set_option linter.unusedVariables false
set_option linter.unusedSimpArgs false
attribute [local go_sem high] run_minI run_maxI
def faultV (part at_ e : Int) : Ending := .panicked [{ v := .iface 103 (.agg #[.int .i64 part, .int .i64 at_, .int .i64 e]), recovered := false }]
def doneOr (part at_ e : Int) : Ending := if e = 0 then .returned (.tuple #[]) else faultV part at_ e
theorem doneOr_0 (p a : Int) : doneOr p a 0 = .returned (.tuple #[]) := if_pos rfl
theorem doneOr_n (p a : Int) {e : Int} (h : e ≠ 0) : doneOr p a e = faultV p a e := if_neg h
set_option maxRecDepth 100000 in
set_option maxHeartbeats 1600000 in
theorem curveP (part lo hi : Int) {s : Sl} {l : List Pt} {w : World} (hl : PtsS w s l) (l0 : -300 ≤ lo) (l1 : hi ≤ 1000) :
    Calls Try.prog 96 #[.int .i64 part, .slice s.a l.length s.cap, .int .i64 lo, .int .i64 hi] w fun e w' => e = doneOr part (D.curve l lo hi).1 (D.curve l lo hi).2 ∧ Below w.heap.size w w' := by
  obtain ⟨a, cap⟩ := s
  have hc : l.length ≤ cap := hl.le
  have hm : cap ≤ 9223372036854775807 := hl.max
  have HL0 := Lib.hid hl; clear hl
  by_cases hlen : 2 ≤ l.length ∧ l.length ≤ 8
  · go_enter Try.func96, Try.ntmps96
    go_wp2_with (fail)
    refine (must1_ok _ _ _ _ _ (l.length : Int) ?_ (by omega)).mono ?_
    · go_simp
    rintro e w1 ⟨rfl, hb1⟩
    have HB1 : Below w.heap.size w w1 := (below_alloc w _).trans (hb1.mono (by simp))
    clear hb1
    go_wp2_with (fail)
    go_loopw [18] (fun i wr => ∃ k : Nat, k ≤ l.length ∧ i = .int .i64 k ∧ Below w.heap.size w wr ∧ ∀ j, j < k → badPt lo hi l j = 0) (fun i _ => l.length - (intOf i).toNat)
    case atStart => exact ⟨0, Nat.zero_le _, rfl, HB1, fun j h => absurd h (by omega)⟩
    case round =>
      obtain ⟨k, hk, rfl, hbw, hbad⟩ := hrel
      have HB := Lib.hid hbad; clear hbad
      by_cases hlt : k < l.length
      · have HLr := Lib.hid (HL0.out.below hbw)
        obtain ⟨b, off, rfl, hc0, hc1⟩ := pts_at HLr.out hlt
        have hlb : b < wr.heap.size := cell_lt hc0
        obtain ⟨px, hpx⟩ : ∃ x, x = (ptD l k).at_ := ⟨_, rfl⟩
        obtain ⟨pf, hpf⟩ : ∃ x, x = (ptD l k).fac := ⟨_, rfl⟩
        rw [← hpx] at hc0; rw [← hpf] at hc1
        have HX := Lib.hid hpx; clear hpx
        have HF := Lib.hid hpf; clear hpf
        have F0 : ∀ W, Below (wr.heap.size + 1) (wr.alloc (.cells #[.int .i64 px, .int .i64 pf] 120)) W → W.cell? ⟨wr.heap.size, 0, none⟩ = some (.int .i64 px) ∧ W.cell? ⟨wr.heap.size, 1, none⟩ = some (.int .i64 pf) := fun W hW =>
          ⟨(hW.cell (p := ⟨wr.heap.size, 0, none⟩) (by simp)).trans (by go_simp), (hW.cell (p := ⟨wr.heap.size, 1, none⟩) (by simp)).trans (by go_simp)⟩
        have F := Lib.hid F0; clear F0
        by_cases g1 : lo ≤ px ∧ px ≤ hi
        · by_cases g2 : 0 ≤ pf ∧ pf ≤ 1000
          · have HG := Lib.hid (And.intro g1 g2)
            go_wp2_with (fail)
            refine (must1_ok _ _ _ _ _ px ?_ g1).mono ?_
            · go_simp
            rintro e w1 ⟨rfl, hb⟩
            have B1 : Below (wr.heap.size + 1) (wr.alloc (.cells #[.int .i64 px, .int .i64 pf] 120)) w1 := ((Below.refl _ _).alloc (by simp) _).trans (hb.mono (by simp))
            clear hb
            obtain ⟨p0, p1⟩ := F.out _ B1
            go_wp2_with (fail)
            refine (must1_ok _ _ _ _ _ pf ?_ g2).mono ?_
            · go_simp
            rintro e w2 ⟨rfl, hb⟩
            have B2 : Below (wr.heap.size + 1) (wr.alloc (.cells #[.int .i64 px, .int .i64 pf] 120)) w2 := B1.trans (((Below.refl _ _).alloc (by simpa using B1.size) _).trans (hb.mono (by have := B1.size; simp at this ⊢; omega)))
            clear hb p0 p1
            obtain ⟨p0, p1⟩ := F.out _ B2
            by_cases g3 : 0 < k
            · obtain ⟨b', off', he, hd0, hd1⟩ := pts_at HLr.out (i := k - 1) (by omega)
              obtain ⟨rfl, rfl⟩ : b' = b ∧ off' = off := by simpa using he.symm
              clear he
              obtain ⟨qx, hqx⟩ : ∃ x, x = (ptD l (k - 1)).at_ := ⟨_, rfl⟩
              obtain ⟨qf, hqf⟩ : ∃ x, x = (ptD l (k - 1)).fac := ⟨_, rfl⟩
              rw [← hqx] at hd0; rw [← hqf] at hd1
              have HQX := Lib.hid hqx; clear hqx
              have HQF := Lib.hid hqf; clear hqf
              have hq0 := badPt_rng (HB.out (k - 1) (by omega))
              rw [← HQX.out, ← HQF.out] at hq0
              have G : ∀ W, Below (wr.heap.size + 1) (wr.alloc (.cells #[.int .i64 px, .int .i64 pf] 120)) W → W.cell? ⟨b', off' + (k - 1) * 2, none⟩ = some (.int .i64 qx) ∧ W.cell? ⟨b', off' + (k - 1) * 2 + 1, none⟩ = some (.int .i64 qf) := fun W hW => by
                have hW' : Below wr.heap.size wr W := (below_alloc wr _).trans (hW.mono (by simp))
                exact ⟨(hW'.cell (p := ⟨b', off' + (k - 1) * 2, none⟩) hlb).trans hd0, (hW'.cell (p := ⟨b', off' + (k - 1) * 2 + 1, none⟩) hlb).trans hd1⟩
              have GH := Lib.hid G; clear G
              clear hd0 hd1
              obtain ⟨hd0, hd1⟩ := GH.out _ B2
              have pw1 : IntKind.i64.wrap ((k : Int) - 1) = (k : Int) - 1 := IntWalk.i64_in _ (by omega)
              have pw2 : (1 : Int) ≤ (k : Int) := by omega
              have pw3 : ((k : Int) - 1).toNat = k - 1 := by omega
              have hk0 : decide ((0 : Int) < (k : Int)) = true := by simp; omega
              have w4 : (k : Int) - 1 < (l.length : Int) := by omega
              have w5 : IntKind.i64.wrap (px - qx) = px - qx := IntWalk.i64_in _ (by omega)
              go_wp2_with (fail)
              by_cases g4 : px ≤ qx
              · have hno : ¬ (((1 : Int) ≤ 1 ∧ (1 : Int) ≤ px - qx) ∧ ((1 : Int) ≤ px - qx ∧ px - qx ≤ px - qx)) := by omega
                have HN := Lib.hid hno; clear hno
                have hz2 := B2.size; simp only [World.size_alloc] at hz2
                have Bw2 : Below w.heap.size w w2 := hbw.trans (((below_alloc wr _).trans (B2.mono (by simp))).mono hbw.size)
                have hz3 := Bw2.size
                have HR := Lib.hid (curve_at hlen HB.out hlt (badPt_2 HX.out HF.out HQX.out HQF.out HG.out g3 (.inl (by omega))) (by omega))
                go_region_held2 (fun w' => Below w.heap.size w w' ∧ w'.cell? ⟨wr.heap.size, 0, none⟩ = some (.int .i64 px) ∧ w'.cell? ⟨b', off' + (k - 1) * 2, none⟩ = some (.int .i64 qx))
                  ((first | exact hF.elim | exact ⟨Bw2.drew, p0, hd0⟩ | exact ⟨(Bw2.alloc hz3 _).drew, (F.out _ (B2.alloc hz2 _).drew).1, (GH.out _ (B2.alloc hz2 _).drew).1⟩))
                  ((go_at_call 97; refine calls_panics (must2_no _ _ _ _ _ 1 (px - qx) (by go_simp) (by go_simp) HN.out) (by rintro e w' ⟨rfl, hb⟩; exact ⟨rfl, by rw [HR.out]; exact (doneOr_n _ _ (by decide)).symm, Below.trans (Bw2.alloc hz3 _).drew (hb.mono (by simp; omega))⟩) (fun hF => ?_); dsimp only))
                exact hF.elim
              · have hyes : (((1 : Int) ≤ 1 ∧ (1 : Int) ≤ px - qx) ∧ ((1 : Int) ≤ px - qx ∧ px - qx ≤ px - qx)) := by omega
                have HN := Lib.hid hyes; clear hyes
                have hz2 := B2.size; simp only [World.size_alloc] at hz2
                go_region_held2 (fun w' => Below (wr.heap.size + 1) (wr.alloc (.cells #[.int .i64 px, .int .i64 pf] 120)) w' ∧ w'.cell? ⟨wr.heap.size, 0, none⟩ = some (.int .i64 px) ∧ w'.cell? ⟨b', off' + (k - 1) * 2, none⟩ = some (.int .i64 qx))
                  ((first | exact ⟨B2.drew, p0, hd0⟩ | exact ⟨(B2.alloc hz2 _).drew, (F.out _ (B2.alloc hz2 _).drew).1, (GH.out _ (B2.alloc hz2 _).drew).1⟩ | exact ⟨(B2.alloc hz2 _).drew.trans (hb3.mono (by simp; omega)), (F.out _ ((B2.alloc hz2 _).drew.trans (hb3.mono (by simp; omega)))).1, (GH.out _ ((B2.alloc hz2 _).drew.trans (hb3.mono (by simp; omega)))).1⟩))
                  ((go_at_call 97; refine (must2_ok _ _ _ _ _ 1 (px - qx) (by go_simp) (by go_simp) HN.out).mono ?_; rintro e w3 ⟨rfl, hb3⟩))
                have B3 := (B2.alloc hz2 _).drew.trans (hb3.mono (by simp; omega))
                clear hb3 p0 p1 hd0 hd1
                obtain ⟨p0, p1⟩ := F.out _ B3
                obtain ⟨hd0, hd1⟩ := GH.out _ B3
                go_wp2_with (fail)
                clear hz2
                have hz2 := B3.size; simp only [World.size_alloc] at hz2
                have Bw3 : Below w.heap.size w w3 := hbw.trans (((below_alloc wr _).trans (B3.mono (by simp))).mono hbw.size)
                have hz3 := Bw3.size
                by_cases g5 : qf ≤ pf
                · have hyes : qf ≤ pf ∧ pf ≤ 1000 := ⟨g5, g2.2⟩
                  have HN := Lib.hid hyes; clear hyes
                  go_region_held2 (fun w' => Below (wr.heap.size + 1) (wr.alloc (.cells #[.int .i64 px, .int .i64 pf] 120)) w' ∧ w'.cell? ⟨wr.heap.size, 1, none⟩ = some (.int .i64 pf) ∧ w'.cell? ⟨b', off' + (k - 1) * 2 + 1, none⟩ = some (.int .i64 qf))
                    ((first | exact ⟨B3.drew, p1, hd1⟩ | exact ⟨(B3.alloc hz2 _).drew, (F.out _ (B3.alloc hz2 _).drew).2, (GH.out _ (B3.alloc hz2 _).drew).2⟩ | exact ⟨(B3.alloc hz2 _).drew.trans (hb4.mono (by simp; omega)), (F.out _ ((B3.alloc hz2 _).drew.trans (hb4.mono (by simp; omega)))).2, (GH.out _ ((B3.alloc hz2 _).drew.trans (hb4.mono (by simp; omega)))).2⟩))
                    ((go_at_call 97; refine (must1_ok _ _ _ _ _ pf (by go_simp) HN.out).mono ?_; rintro e w4 ⟨rfl, hb4⟩))
                  have B4 := (B3.alloc hz2 _).drew.trans (hb4.mono (by simp; omega))
                  have Bw4 : Below w.heap.size w w4 := hbw.trans (((below_alloc wr _).trans (B4.mono (by simp))).mono hbw.size)
                  clear hb4
                  go_wp2_with (fail)
                  go_roundw
                  case rel => exact ⟨k + 1, by omega, by go_num, Bw4, below_succ HB.out (badPt_0 HX.out HF.out HQX.out HQF.out HG.out (by omega))⟩
                  case measure => simp [intOf]; omega
                · have hno : ¬ (qf ≤ pf ∧ pf ≤ 1000) := fun h => g5 h.1
                  have HN := Lib.hid hno; clear hno
                  have HR := Lib.hid (curve_at hlen HB.out hlt (badPt_2 HX.out HF.out HQX.out HQF.out HG.out g3 (.inr (by omega))) (by omega))
                  go_region_held2 (fun w' => Below w.heap.size w w' ∧ w'.cell? ⟨wr.heap.size, 1, none⟩ = some (.int .i64 pf) ∧ w'.cell? ⟨b', off' + (k - 1) * 2 + 1, none⟩ = some (.int .i64 qf))
                    ((first | exact hF.elim | exact ⟨Bw3.drew, p1, hd1⟩ | exact ⟨(Bw3.alloc hz3 _).drew, (F.out _ (B3.alloc hz2 _).drew).2, (GH.out _ (B3.alloc hz2 _).drew).2⟩))
                    ((go_at_call 97; refine calls_panics (must1_no _ _ _ _ _ pf (by go_simp) HN.out) (by rintro e w' ⟨rfl, hb⟩; exact ⟨rfl, by rw [HR.out]; exact (doneOr_n _ _ (by decide)).symm, Below.trans (Bw3.alloc hz3 _).drew (hb.mono (by simp; omega))⟩) (fun hF => ?_); dsimp only))
                  exact hF.elim
            · have hk0 : decide ((0 : Int) < (k : Int)) = false := by simp; omega
              have Bw2 : Below w.heap.size w w2 := hbw.trans (((below_alloc wr _).trans (B2.mono (by simp))).mono hbw.size)
              go_wp2_with (fail)
              go_roundw
              case rel =>
                obtain rfl : k = 0 := by omega
                exact ⟨1, by omega, by go_num, Bw2, below_succ HB.out (badPt_00 HX.out HF.out HG.out)⟩
              case measure => simp [intOf]; omega
          · have HR := Lib.hid (curve_at hlen HB.out hlt (badPt_7 HX.out HF.out (fun h => g2 h.2)) (by omega))
            go_wp2_with (fail)
            refine (must1_ok _ _ _ _ _ px ?_ g1).mono ?_
            · go_simp
            rintro e w1 ⟨rfl, hb⟩
            have B1 : Below (wr.heap.size + 1) (wr.alloc (.cells #[.int .i64 px, .int .i64 pf] 120)) w1 := ((Below.refl _ _).alloc (by simp) _).trans (hb.mono (by simp))
            clear hb
            obtain ⟨p0, p1⟩ := F.out _ B1
            have Bw1 : Below w.heap.size w w1 := hbw.trans (((below_alloc wr _).trans (B1.mono (by simp))).mono hbw.size)
            have hz1 := Bw1.size
            go_wp2_with (fail)
            refine (must1_no _ _ _ _ _ pf ?_ g2).mono ?_
            · go_simp
            rintro e w2 ⟨rfl, hb⟩
            exact ⟨rfl, by rw [HR.out]; exact (doneOr_n _ _ (by decide)).symm, Below.trans (Bw1.alloc hz1 _) (hb.mono (by simp; omega))⟩
        · have HR := Lib.hid (curve_at hlen HB.out hlt (badPt_7 HX.out HF.out (fun h => g1 h.1)) (by omega))
          have hz1 := hbw.size
          go_wp2_with (fail)
          refine (must1_no _ _ _ _ _ px ?_ g1).mono ?_
          · go_simp
          rintro e w1 ⟨rfl, hb⟩
          exact ⟨rfl, by rw [HR.out]; exact (doneOr_n _ _ (by decide)).symm, Below.trans ((hbw.alloc hz1 _).alloc (by simp; omega) _) (hb.mono (by simp; omega))⟩
      · obtain rfl : k = l.length := by omega
        have HR := Lib.hid (curve_ok hlen HB.out)
        go_wp2_with (fail)
        go_end0
        exact ⟨by rw [HR.out]; exact (doneOr_0 _ _).symm, hbw⟩
  · have HR : Hid (D.curve l lo hi = (0, 3)) := by show _ = _; rw [D.curve, if_neg hlen]
    go_enter Try.func96, Try.ntmps96
    go_wp2_with (fail)
    refine (must1_no _ _ _ _ _ (l.length : Int) ?_ (by omega)).mono ?_
    · go_simp
    rintro e w1 ⟨rfl, hb⟩
    exact ⟨rfl, by rw [HR.out]; exact (doneOr_n _ _ (by decide)).symm, (below_alloc w _).trans (hb.mono (by simp))⟩
end Go.Proofs.Ytfjbgcaogffiaaa
namespace Go.Proofs.Ytfjbgcaogffiaaa
open Go.RowKit D
set_option linter.unusedVariables false
set_option linter.unusedSimpArgs false
attribute [local go_sem high] run_minI run_maxI
def faultO (part at_ e : Int) : Obj := .cells #[.int .i64 part, .int .i64 at_, .int .i64 e] 103 (0, 0)
def dayO (d : Day) : Obj := .cells #[.int .i64 d.tlo, .int .i64 d.thi, .int .i64 d.dlo, .int .i64 d.dhi] 48 (0, 0)
def spanO (lo hi : Int) : Obj := .cells #[.int .i64 lo, .int .i64 hi] 28 (0, 0)
theorem heap_two (w : World) (o p : Obj) : ((w.alloc o).alloc p).heap[w.heap.size]? = some o ∧ ((w.alloc o).alloc p).heap[w.heap.size + 1]? = some p := by
  refine ⟨(Below.heap_alloc _ _ _ (by simp)).trans (heap_alloc_new w _), ?_⟩
  have := heap_alloc_new (w.alloc o) p; rwa [World.size_alloc] at this
theorem fault_set {w W : World} {part at_ e : Int} {o : Obj} (e' : Int) (h : Below (w.heap.size + 2) ((w.alloc (faultO part at_ e)).alloc o) W) :
    Below (w.heap.size + 2) ((w.alloc (faultO part at_ e')).alloc o) (W.setCell ⟨w.heap.size, 2, none⟩ (.int .i64 e')) := by
  refine ⟨h.os, h.tape, h.output, by have := h.size; simp [World.setCell] at this ⊢; exact this, fun k hk => ?_⟩
  by_cases hkn : k = w.heap.size
  · subst hkn
    have h0 := (h.block w.heap.size (by omega)).trans (heap_two w _ o).1
    rw [(heap_two w _ o).1]
    simp [World.setCell, Array.getElem?_modify, h0, faultO]
  · rw [Below.heap_setCell _ _ _ _ hkn, h.block k hk]
    show ((w.heap.push _).push _)[k]? = ((w.heap.push _).push _)[k]?
    simp only [Array.getElem?_push, Array.size_push]
    split
    · rfl
    · rfl
theorem fault_at {w W : World} {part at_ e : Int} {o : Obj} (h : Below (w.heap.size + 2) ((w.alloc (faultO part at_ e)).alloc o) W) :
    W.cell? ⟨w.heap.size, 0, none⟩ = some (.int .i64 part) ∧ W.cell? ⟨w.heap.size, 1, none⟩ = some (.int .i64 at_) ∧ W.cell? ⟨w.heap.size, 2, none⟩ = some (.int .i64 e) ∧ W.frozen? ⟨w.heap.size, 2, none⟩ = false := by
  have h0 := (h.block w.heap.size (by omega)).trans (heap_two w _ o).1
  simp [World.cell?, World.frozen?, h0, faultO]
theorem day_at {w W : World} {o : Obj} {d : Day} (h : Below (w.heap.size + 2) ((w.alloc o).alloc (dayO d)) W) :
    W.cell? ⟨w.heap.size + 1, 0, none⟩ = some (.int .i64 d.tlo) ∧ W.cell? ⟨w.heap.size + 1, 1, none⟩ = some (.int .i64 d.thi) ∧ W.cell? ⟨w.heap.size + 1, 2, none⟩ = some (.int .i64 d.dlo) ∧ W.cell? ⟨w.heap.size + 1, 3, none⟩ = some (.int .i64 d.dhi) := by
  have h0 := (h.block (w.heap.size + 1) (by omega)).trans (heap_two w o _).2
  simp [World.cell?, h0, dayO]
theorem span_at' {w W : World} {o : Obj} {lo hi : Int} (h : Below (w.heap.size + 2) ((w.alloc o).alloc (spanO lo hi)) W) :
    W.cell? ⟨w.heap.size + 1, 0, none⟩ = some (.int .i64 lo) ∧ W.cell? ⟨w.heap.size + 1, 1, none⟩ = some (.int .i64 hi) := by
  have h0 := (h.block (w.heap.size + 1) (by omega)).trans (heap_two w o _).2
  simp [World.cell?, h0, spanO]
theorem two_below (w : World) (o p : Obj) : Below w.heap.size w ((w.alloc o).alloc p) := (below_alloc w o).alloc (by simp) p
theorem climate_7' {d : Day} (h : ¬ ((((-300 ≤ d.tlo ∧ d.tlo ≤ 600) ∧ (-300 ≤ d.thi ∧ d.thi ≤ 600)) ∧ (0 ≤ d.dlo ∧ d.dlo ≤ 1000)) ∧ (0 ≤ d.dhi ∧ d.dhi ≤ 1000))) : climateE d = 7 := by rw [climateE, if_neg h]
set_option maxRecDepth 100000 in
set_option maxHeartbeats 1600000 in
theorem climateP (part at_ e0 : Int) (d : Day) (w : World) :
    Calls Try.prog 69 #[.agg #[.int .i64 part, .int .i64 at_, .int .i64 e0], .agg #[.int .i64 d.tlo, .int .i64 d.thi, .int .i64 d.dlo, .int .i64 d.dhi]] w fun e w' => e = doneOr part at_ (climateE d) ∧ Below w.heap.size w w' := by
  have Bwx : Below (w.heap.size + 2) ((w.alloc (faultO part at_ 7)).alloc (dayO d)) ((w.alloc (faultO part at_ 7)).alloc (dayO d)) := Below.refl _ _
  have hzwx : w.heap.size + 2 ≤ ((w.alloc (faultO part at_ 7)).alloc (dayO d)).heap.size := by simp
  have X : ∀ W, Below (w.heap.size + 2) ((w.alloc (faultO part at_ 7)).alloc (dayO d)) W → Below w.heap.size w W := fun W h => (two_below w _ _).trans (h.mono (by omega))
  have X2 : ∀ W, Below (w.heap.size + 2) ((w.alloc (faultO part at_ 2)).alloc (dayO d)) W → Below w.heap.size w W := fun W h => (two_below w _ _).trans (h.mono (by omega))
  have HX := Lib.hid X; clear X
  have HX2 := Lib.hid X2; clear X2
  by_cases g1 : (-300 ≤ d.tlo ∧ d.tlo ≤ 600) ∧ (-300 ≤ d.thi ∧ d.thi ≤ 600)
  · by_cases g2 : (0 ≤ d.dlo ∧ d.dlo ≤ 1000) ∧ (0 ≤ d.dhi ∧ d.dhi ≤ 1000)
    · have hg : (((-300 ≤ d.tlo ∧ d.tlo ≤ 600) ∧ (-300 ≤ d.thi ∧ d.thi ≤ 600)) ∧ (0 ≤ d.dlo ∧ d.dlo ≤ 1000)) ∧ (0 ≤ d.dhi ∧ d.dhi ≤ 1000) := ⟨⟨g1, g2.1⟩, g2.2⟩
      have HG := Lib.hid hg; clear hg
      by_cases g3 : d.tlo ≤ d.thi ∧ d.thi ≤ 600
      · by_cases g4 : d.dlo ≤ d.dhi ∧ d.dhi ≤ 1000
        · have HR : Hid (climateE d = 0) := by show _ = _; rw [climateE, if_pos HG.out, if_neg (by omega)]
          go_enter Try.func69, Try.ntmps69
          go_wp2_with (fail)
          refine (must2_ok _ _ _ _ _ (d.tlo) (d.thi) ?_ ?_ g1).mono ?_
          · go_simp
          · go_simp
          rintro e w1 ⟨rfl, hb⟩
          have Bw1 := (Bwx.alloc hzwx _).trans (hb.mono (by simp <;> omega))
          have hzw1 := Bw1.size; simp only [World.size_alloc] at hzw1
          clear hb
          obtain ⟨k0, k1, k2, kf⟩ := fault_at Bw1
          obtain ⟨d0, d1, d2, d3⟩ := day_at Bw1
          go_wp2_with (fail)
          refine (must2_ok _ _ _ _ _ (d.dlo) (d.dhi) ?_ ?_ g2).mono ?_
          · go_simp
          · go_simp
          rintro e w2 ⟨rfl, hb⟩
          have Bw2 := (Bw1.alloc hzw1 _).trans (hb.mono (by simp <;> omega))
          have hzw2 := Bw2.size; simp only [World.size_alloc] at hzw2
          clear hb
          clear k0 k1 k2 kf d0 d1 d2 d3
          obtain ⟨k0, k1, k2, kf⟩ := fault_at Bw2
          obtain ⟨d0, d1, d2, d3⟩ := day_at Bw2
          have Bv2 := fault_set 2 Bw2
          have hzv2 := Bv2.size; simp only [World.size_alloc] at hzv2
          go_wp2_with (fail)
          refine (must1_ok _ _ _ _ _ (d.thi) ?_ g3).mono ?_
          · go_simp
          rintro e w3 ⟨rfl, hb⟩
          have Bw3 := (Bv2.alloc hzv2 _).trans (hb.mono (by simp <;> omega))
          have hzw3 := Bw3.size; simp only [World.size_alloc] at hzw3
          clear hb
          clear k0 k1 k2 kf d0 d1 d2 d3
          obtain ⟨k0, k1, k2, kf⟩ := fault_at Bw3
          obtain ⟨d0, d1, d2, d3⟩ := day_at Bw3
          go_wp2_with (fail)
          refine (must1_ok _ _ _ _ _ (d.dhi) ?_ g4).mono ?_
          · go_simp
          rintro e w4 ⟨rfl, hb⟩
          have Bw4 := (Bw3.alloc hzw3 _).trans (hb.mono (by simp <;> omega))
          have hzw4 := Bw4.size; simp only [World.size_alloc] at hzw4
          clear hb
          go_wp2_with (fail)
          go_end0
          exact ⟨by rw [HR.out]; exact (doneOr_0 _ _).symm, HX2.out _ Bw4⟩
        · have HR : Hid (climateE d = 2) := by show _ = _; rw [climateE, if_pos HG.out, if_pos (by omega)]
          go_enter Try.func69, Try.ntmps69
          go_wp2_with (fail)
          refine (must2_ok _ _ _ _ _ (d.tlo) (d.thi) ?_ ?_ g1).mono ?_
          · go_simp
          · go_simp
          rintro e w1 ⟨rfl, hb⟩
          have Bw1 := (Bwx.alloc hzwx _).trans (hb.mono (by simp <;> omega))
          have hzw1 := Bw1.size; simp only [World.size_alloc] at hzw1
          clear hb
          obtain ⟨k0, k1, k2, kf⟩ := fault_at Bw1
          obtain ⟨d0, d1, d2, d3⟩ := day_at Bw1
          go_wp2_with (fail)
          refine (must2_ok _ _ _ _ _ (d.dlo) (d.dhi) ?_ ?_ g2).mono ?_
          · go_simp
          · go_simp
          rintro e w2 ⟨rfl, hb⟩
          have Bw2 := (Bw1.alloc hzw1 _).trans (hb.mono (by simp <;> omega))
          have hzw2 := Bw2.size; simp only [World.size_alloc] at hzw2
          clear hb
          clear k0 k1 k2 kf d0 d1 d2 d3
          obtain ⟨k0, k1, k2, kf⟩ := fault_at Bw2
          obtain ⟨d0, d1, d2, d3⟩ := day_at Bw2
          have Bv2 := fault_set 2 Bw2
          have hzv2 := Bv2.size; simp only [World.size_alloc] at hzv2
          go_wp2_with (fail)
          refine (must1_ok _ _ _ _ _ (d.thi) ?_ g3).mono ?_
          · go_simp
          rintro e w3 ⟨rfl, hb⟩
          have Bw3 := (Bv2.alloc hzv2 _).trans (hb.mono (by simp <;> omega))
          have hzw3 := Bw3.size; simp only [World.size_alloc] at hzw3
          clear hb
          clear k0 k1 k2 kf d0 d1 d2 d3
          obtain ⟨k0, k1, k2, kf⟩ := fault_at Bw3
          obtain ⟨d0, d1, d2, d3⟩ := day_at Bw3
          go_wp2_with (fail)
          refine (must1_no _ _ _ _ _ d.dhi ?_ g4).mono ?_
          · go_simp
          rintro e w4 ⟨rfl, hb⟩
          exact ⟨rfl, by rw [HR.out]; exact (doneOr_n _ _ (by decide)).symm, HX2.out _ ((Bw3.alloc hzw3 _).trans (hb.mono (by simp <;> omega)))⟩
      · have HR : Hid (climateE d = 2) := by show _ = _; rw [climateE, if_pos HG.out, if_pos (by omega)]
        go_enter Try.func69, Try.ntmps69
        go_wp2_with (fail)
        refine (must2_ok _ _ _ _ _ (d.tlo) (d.thi) ?_ ?_ g1).mono ?_
        · go_simp
        · go_simp
        rintro e w1 ⟨rfl, hb⟩
        have Bw1 := (Bwx.alloc hzwx _).trans (hb.mono (by simp <;> omega))
        have hzw1 := Bw1.size; simp only [World.size_alloc] at hzw1
        clear hb
        obtain ⟨k0, k1, k2, kf⟩ := fault_at Bw1
        obtain ⟨d0, d1, d2, d3⟩ := day_at Bw1
        go_wp2_with (fail)
        refine (must2_ok _ _ _ _ _ (d.dlo) (d.dhi) ?_ ?_ g2).mono ?_
        · go_simp
        · go_simp
        rintro e w2 ⟨rfl, hb⟩
        have Bw2 := (Bw1.alloc hzw1 _).trans (hb.mono (by simp <;> omega))
        have hzw2 := Bw2.size; simp only [World.size_alloc] at hzw2
        clear hb
        clear k0 k1 k2 kf d0 d1 d2 d3
        obtain ⟨k0, k1, k2, kf⟩ := fault_at Bw2
        obtain ⟨d0, d1, d2, d3⟩ := day_at Bw2
        have Bv2 := fault_set 2 Bw2
        have hzv2 := Bv2.size; simp only [World.size_alloc] at hzv2
        go_wp2_with (fail)
        refine (must1_no _ _ _ _ _ d.thi ?_ g3).mono ?_
        · go_simp
        rintro e w3 ⟨rfl, hb⟩
        exact ⟨rfl, by rw [HR.out]; exact (doneOr_n _ _ (by decide)).symm, HX2.out _ ((Bv2.alloc hzv2 _).trans (hb.mono (by simp <;> omega)))⟩
    · have HR := Lib.hid (climate_7' (d := d) (fun h => g2 ⟨h.1.2, h.2⟩))
      go_enter Try.func69, Try.ntmps69
      go_wp2_with (fail)
      refine (must2_ok _ _ _ _ _ (d.tlo) (d.thi) ?_ ?_ g1).mono ?_
      · go_simp
      · go_simp
      rintro e w1 ⟨rfl, hb⟩
      have Bw1 := (Bwx.alloc hzwx _).trans (hb.mono (by simp <;> omega))
      have hzw1 := Bw1.size; simp only [World.size_alloc] at hzw1
      clear hb
      obtain ⟨k0, k1, k2, kf⟩ := fault_at Bw1
      obtain ⟨d0, d1, d2, d3⟩ := day_at Bw1
      go_wp2_with (fail)
      refine (must2_no _ _ _ _ _ (d.dlo) (d.dhi) ?_ ?_ g2).mono ?_
      · go_simp
      · go_simp
      rintro e w2 ⟨rfl, hb⟩
      exact ⟨rfl, by rw [HR.out]; exact (doneOr_n _ _ (by decide)).symm, HX.out _ ((Bw1.alloc hzw1 _).trans (hb.mono (by simp <;> omega)))⟩
  · have HR := Lib.hid (climate_7' (d := d) (fun h => g1 h.1.1))
    go_enter Try.func69, Try.ntmps69
    go_wp2_with (fail)
    refine (must2_no _ _ _ _ _ (d.tlo) (d.thi) ?_ ?_ g1).mono ?_
    · go_simp
    · go_simp
    rintro e w1 ⟨rfl, hb⟩
    exact ⟨rfl, by rw [HR.out]; exact (doneOr_n _ _ (by decide)).symm, HX.out _ ((Bwx.alloc hzwx _).trans (hb.mono (by simp <;> omega)))⟩
set_option maxRecDepth 100000 in
set_option maxHeartbeats 1600000 in
theorem levelsP (part at_ e0 lo hi : Int) (w : World) :
    Calls Try.prog 72 #[.agg #[.int .i64 part, .int .i64 at_, .int .i64 e0], .agg #[.int .i64 lo, .int .i64 hi]] w fun e w' => e = doneOr part at_ (levelsE lo hi) ∧ Below w.heap.size w w' := by
  have Bwx : Below (w.heap.size + 2) ((w.alloc (faultO part at_ 7)).alloc (spanO lo hi)) ((w.alloc (faultO part at_ 7)).alloc (spanO lo hi)) := Below.refl _ _
  have hzwx : w.heap.size + 2 ≤ ((w.alloc (faultO part at_ 7)).alloc (spanO lo hi)).heap.size := by simp
  have X : ∀ W, Below (w.heap.size + 2) ((w.alloc (faultO part at_ 7)).alloc (spanO lo hi)) W → Below w.heap.size w W := fun W h => (two_below w _ _).trans (h.mono (by omega))
  have X2 : ∀ W, Below (w.heap.size + 2) ((w.alloc (faultO part at_ 2)).alloc (spanO lo hi)) W → Below w.heap.size w W := fun W h => (two_below w _ _).trans (h.mono (by omega))
  have HX := Lib.hid X; clear X
  have HX2 := Lib.hid X2; clear X2
  by_cases g1 : (0 ≤ lo ∧ lo ≤ 1000000) ∧ (0 ≤ hi ∧ hi ≤ 1000000)
  · have HG := Lib.hid g1
    by_cases g3 : lo ≤ hi ∧ hi ≤ 1000000
    · have HR : Hid (levelsE lo hi = 0) := by show _ = _; rw [levelsE, if_pos HG.out, if_neg (by omega)]
      go_enter Try.func72, Try.ntmps72
      go_wp2_with (fail)
      refine (must2_ok _ _ _ _ _ (lo) (hi) ?_ ?_ g1).mono ?_
      · go_simp
      · go_simp
      rintro e w2 ⟨rfl, hb⟩
      have Bw2 := (Bwx.alloc hzwx _).trans (hb.mono (by simp <;> omega))
      have hzw2 := Bw2.size; simp only [World.size_alloc] at hzw2
      clear hb
      obtain ⟨k0, k1, k2, kf⟩ := fault_at Bw2
      obtain ⟨d0, d1⟩ := span_at' Bw2
      have Bv2 := fault_set 2 Bw2
      have hzv2 := Bv2.size; simp only [World.size_alloc] at hzv2
      go_wp2_with (fail)
      refine (must1_ok _ _ _ _ _ (hi) ?_ g3).mono ?_
      · go_simp
      rintro e w4 ⟨rfl, hb⟩
      have Bw4 := (Bv2.alloc hzv2 _).trans (hb.mono (by simp <;> omega))
      have hzw4 := Bw4.size; simp only [World.size_alloc] at hzw4
      clear hb
      go_wp2_with (fail)
      go_end0
      exact ⟨by rw [HR.out]; exact (doneOr_0 _ _).symm, HX2.out _ Bw4⟩
    · have HR : Hid (levelsE lo hi = 2) := by show _ = _; rw [levelsE, if_pos HG.out, if_pos (by omega)]
      go_enter Try.func72, Try.ntmps72
      go_wp2_with (fail)
      refine (must2_ok _ _ _ _ _ (lo) (hi) ?_ ?_ g1).mono ?_
      · go_simp
      · go_simp
      rintro e w2 ⟨rfl, hb⟩
      have Bw2 := (Bwx.alloc hzwx _).trans (hb.mono (by simp <;> omega))
      have hzw2 := Bw2.size; simp only [World.size_alloc] at hzw2
      clear hb
      obtain ⟨k0, k1, k2, kf⟩ := fault_at Bw2
      obtain ⟨d0, d1⟩ := span_at' Bw2
      have Bv2 := fault_set 2 Bw2
      have hzv2 := Bv2.size; simp only [World.size_alloc] at hzv2
      go_wp2_with (fail)
      refine (must1_no _ _ _ _ _ hi ?_ g3).mono ?_
      · go_simp
      rintro e w3 ⟨rfl, hb⟩
      exact ⟨rfl, by rw [HR.out]; exact (doneOr_n _ _ (by decide)).symm, HX2.out _ ((Bv2.alloc hzv2 _).trans (hb.mono (by simp <;> omega)))⟩
  · have HR : Hid (levelsE lo hi = 7) := by show _ = _; rw [levelsE, if_neg g1]
    go_enter Try.func72, Try.ntmps72
    go_wp2_with (fail)
    refine (must2_no _ _ _ _ _ (lo) (hi) ?_ ?_ g1).mono ?_
    · go_simp
    · go_simp
    rintro e w1 ⟨rfl, hb⟩
    exact ⟨rfl, by rw [HR.out]; exact (doneOr_n _ _ (by decide)).symm, HX.out _ ((Bwx.alloc hzwx _).trans (hb.mono (by simp <;> omega)))⟩
end Go.Proofs.Ytfjbgcaogffiaaa
