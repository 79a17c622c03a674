/-
  sort.SearchInts and decay.Grade.
  decay.Grade: what the call returns.
-/
import Derived.Test.YtfjbgcaogffiaaaDFactor
import Derived.Test.YtfjbgcaogffiaaaDApi1
import Derived.Test.YtfjbgcaogffiaaaDOk
namespace Go.Proofs.Ytfjbgcaogffiaaa
open Go.RowKit D
set_option linter.unusedVariables false
set_option linter.unusedSimpArgs false
attribute [local go_sem high] run_minI run_maxI
theorem sints1_any {s : Sl} {l : List Int} (B1 B2 : Nat) (n : Int) {i : Nat} {w : World} (hl : IntsS w s l) (hi : i < l.length) (h1 : w.cell? ⟨B1, 0, none⟩ = some (.slice s.a l.length s.cap)) (h2 : w.cell? ⟨B2, 0, none⟩ = some (.int .i64 n)) :
    Calls Try.prog 100 #[.int .i64 (i : Int), .pointer (some ⟨B1, 0, none⟩), .pointer (some ⟨B2, 0, none⟩)] w fun e w' => e = .returned (.bool (decide (n ≤ intD l i))) ∧ ∃ q, w' = w.drewN q := by
  obtain ⟨a, cap⟩ := s
  have hc : l.length ≤ cap := hl.le
  have hm : cap ≤ 9223372036854775807 := hl.max
  obtain ⟨b, off, rfl, hc0⟩ := ints_at' hl hi
  clear hl
  have hi0 : (0 : Int) ≤ (i : Int) := by omega
  have hi1 : (i : Int) < (l.length : Int) := by omega
  go_enter Try.func100, Try.ntmps100
  go_wp2_with (fail)
  go_quiet (fail)
  go_wp2_with (fail)
  go_ret
  exact ⟨rfl, _, rfl⟩
def slI (s : Sl) (n : Nat) : Obj := .cells #[.slice s.a n s.cap] 44 (0, 0)
theorem slI_at {w W : World} {s : Sl} {k : Nat} {n : Int} (h : Below (w.heap.size + 2) ((w.alloc (slI s k)).alloc (intO n)) W) :
    W.cell? ⟨w.heap.size, 0, none⟩ = some (.slice s.a k s.cap) ∧ W.cell? ⟨w.heap.size + 1, 0, none⟩ = some (.int .i64 n) := by
  have h0 := (h.block w.heap.size (by omega)).trans (heap_two w _ _).1
  have h1 := (h.block (w.heap.size + 1) (by omega)).trans (heap_two w _ _).2
  simp [World.cell?, h0, h1, slI, intO]
theorem sints_any {s : Sl} {l : List Int} (n : Int) {m : Nat} {w : World} (hl : IntsS w s l) (hlen : l.length ≤ 4000000000) (hm : m ≤ l.length) (h0 : ∀ i, i < m → ¬ n ≤ intD l i) (h1 : ∀ i, m ≤ i → i < l.length → n ≤ intD l i) :
    Calls Try.prog 73 #[.slice s.a l.length s.cap, .int .i64 n] w fun e w' => e = .returned (.int .i64 (m : Int)) ∧ Below w.heap.size w w' := by
  have hX : ∀ W, Below (w.heap.size + 2) ((w.alloc (slI s l.length)).alloc (intO n)) W → Below w.heap.size w W := fun W h => (two_below w _ _).trans (h.mono (by omega))
  have C : Calls Try.prog 85 #[.int .i64 (l.length : Int), .func (.func 100) #[] #[.pointer (some ⟨w.heap.size, 0, none⟩), .pointer (some ⟨w.heap.size + 1, 0, none⟩)]] ((w.alloc (slI s l.length)).alloc (intO n)) fun e w' => e = .returned (.int .i64 (m : Int)) ∧ Below ((w.alloc (slI s l.length)).alloc (intO n)).heap.size ((w.alloc (slI s l.length)).alloc (intO n)) w' := by
    refine (search_any (p := fun i => decide (n ≤ intD l i)) hlen (enters_of Try.func100 (by kernel_rfl) rfl) (fun i W1 hi hW1 => ?_)).mono ?_
    · have hW2 : Below (w.heap.size + 2) ((w.alloc (slI s l.length)).alloc (intO n)) W1 := hW1.mono (by simp)
      obtain ⟨h1, h2⟩ := slI_at hW2
      refine (sints1_any (s := s) (l := l) w.heap.size (w.heap.size + 1) n (hl.below (hX _ hW2)) hi h1 h2).mono ?_
      rintro e w' ⟨rfl, q, rfl⟩
      exact ⟨rfl, below_drewN (Below.refl _ _) _⟩
    · rintro e w' ⟨⟨k, rfl, ht⟩, hb⟩
      obtain rfl := turns_eq ht hm (fun i hi => by simpa using h0 i hi) (fun i h h' => by simpa using h1 i h h')
      exact ⟨rfl, hb⟩
  have HC := Lib.hid C; clear C hl h0 h1 hX
  go_enter Try.func73, Try.ntmps73
  go_wp2_with (fail)
  refine HC.out.mono ?_
  rintro e w' ⟨rfl, hb⟩
  have hb2 := (two_below w _ _).trans (hb.mono (by simp <;> omega))
  go_wp2_with (fail)
  go_ret
  exact ⟨rfl, hb2⟩
end Go.Proofs.Ytfjbgcaogffiaaa
namespace Go.Proofs.Ytfjbgcaogffiaaa
open Go.RowKit D
set_option linter.unusedVariables false
set_option linter.unusedSimpArgs false
attribute [local go_sem high] run_minI run_maxI
def gradeV (R : Rule) (n : Int) : Int × Int :=
  if (check R).2.2 ≠ 0 then (0, (check R).2.2) else if n < 0 ∨ 1000000 < n then (0, 7) else (grade R n, 0)
def cnt (R : Rule) (n : Int) : Nat := if n < R.g0 then 0 else if n < R.g1 then 1 else if n < R.g2 then 2 else 3
theorem cnt_grade {R : Rule} (h : RuleOk R) (n : Int) : (cnt R n : Int) = grade R n := by
  have h0 := h.g0; have h1 := h.g1; have h2 := h.g2
  rw [cnt, grade, b1, b1, b1]
  split
  · rw [if_neg (by omega), if_neg (by omega), if_neg (by omega)]; rfl
  · split
    · rw [if_pos (by omega), if_neg (by omega), if_neg (by omega)]; rfl
    · split
      · rw [if_pos (by omega), if_pos (by omega), if_neg (by omega)]; rfl
      · rw [if_pos (by omega), if_pos (by omega), if_pos (by omega)]; rfl
theorem cnt_le (R : Rule) (n : Int) : cnt R n ≤ 3 := by
  rw [cnt]; split
  · omega
  · split
    · omega
    · split <;> omega
theorem cnt_before {R : Rule} (h : RuleOk R) {n : Int} {i : Nat} (hi : i < cnt R n) : ¬ n + 1 ≤ intD [R.g0, R.g1, R.g2] i := by
  have h0 := h.g0; have h1 := h.g1; have h2 := h.g2
  have hc := cnt_le R n
  have h3 : i < 3 := by omega
  clear hc
  rw [cnt] at hi
  rcases (by omega : i = 0 ∨ i = 1 ∨ i = 2) with rfl | rfl | rfl <;> simp only [intD, List.getD_cons_zero, List.getD_cons_succ] <;> split at hi <;> (try omega) <;> split at hi <;> (try omega) <;> split at hi <;> omega
theorem cnt_behind {R : Rule} (h : RuleOk R) {n : Int} {i : Nat} (hi : cnt R n ≤ i) (h3 : i < 3) : n + 1 ≤ intD [R.g0, R.g1, R.g2] i := by
  have h0 := h.g0; have h1 := h.g1; have h2 := h.g2
  rw [cnt] at hi
  rcases (by omega : i = 0 ∨ i = 1 ∨ i = 2) with rfl | rfl | rfl <;> simp only [intD, List.getD_cons_zero, List.getD_cons_succ] <;> split at hi <;> (try omega) <;> split at hi <;> (try omega) <;> split at hi <;> omega
theorem ints3 {w : World} {b o : Nat} {x y z : Int} (h0 : w.cell? ⟨b, o, none⟩ = some (.int .i64 x)) (h1 : w.cell? ⟨b, o + 1, none⟩ = some (.int .i64 y)) (h2 : w.cell? ⟨b, o + 2, none⟩ = some (.int .i64 z)) : IntsS w ⟨some ⟨b, o, none⟩, 3⟩ [x, y, z] :=
  ⟨by simp, by simp, fun i j hi hj => by
    obtain rfl : j = 0 := by omega
    rcases (by simp at hi; omega : i = 0 ∨ i = 1 ∨ i = 2) with rfl | rfl | rfl
    · exact ⟨b, o, rfl, h0⟩
    · exact ⟨b, o, rfl, h1⟩
    · exact ⟨b, o, rfl, h2⟩⟩
set_option maxRecDepth 100000 in
set_option maxHeartbeats 800000 in
theorem gradeP_any {R : Rule} {hh hv : Sl} {w : World} (hR : RuleAt w R hh hv) (n : Int) :
    Calls Try.prog 43 #[.agg #[.slice hh.a R.heat.length hh.cap, .slice hv.a R.wet.length hv.cap, .int .i64 R.own, .int .i64 R.feed, .int .i64 R.g0, .int .i64 R.g1, .int .i64 R.g2, .int .i64 R.lost], .int .i64 n] w fun e w' => e = .returned (.tuple #[.int .i64 (gradeV R n).1, .int .i64 (gradeV R n).2]) ∧ Below w.heap.size w w' := by
  have C : Calls Try.prog 62 #[.agg #[.slice hh.a R.heat.length hh.cap, .slice hv.a R.wet.length hv.cap, .int .i64 R.own, .int .i64 R.feed, .int .i64 R.g0, .int .i64 R.g1, .int .i64 R.g2, .int .i64 R.lost]] (w.alloc (ruleCells R hh hv)) _ := rule_any (hR.below (below_alloc w _))
  obtain ⟨p1, p2, p3, hp⟩ : ∃ a b c, D.check R = (a, b, c) := ⟨_, _, _, rfl⟩
  rw [hp] at C
  have HC := Lib.hid C; clear C hR
  have hg : gradeV R n = if p3 ≠ 0 then (0, p3) else if n < 0 ∨ 1000000 < n then (0, 7) else (grade R n, 0) := by rw [gradeV, hp]
  have hcells : ∀ W, Below (w.heap.size + 1) (w.alloc (ruleCells R hh hv)) W → W.cell? ⟨w.heap.size, 4, none⟩ = some (.int .i64 R.g0) ∧ W.cell? ⟨w.heap.size, 4 + 1, none⟩ = some (.int .i64 R.g1) ∧ W.cell? ⟨w.heap.size, 4 + 2, none⟩ = some (.int .i64 R.g2) := fun W hb => by
    have h := (hb.block w.heap.size (by omega)).trans (heap_alloc_new w _)
    simp [World.cell?, h, ruleCells]
  have HCE := Lib.hid hcells; clear hcells
  by_cases z1 : p3 = 0
  · subst z1
    by_cases z2 : n < 0
    · have H : Hid (gradeV R n = (0, 7)) := by show _ = _; rw [hg, if_neg (fun h => h rfl), if_pos (.inl z2)]
      clear hg hp
      go_enter Try.func43, Try.ntmps43
      go_wp2_with (fail)
      refine HC.out.mono ?_
      rintro e w1 ⟨rfl, hb⟩
      have B1 : Below w.heap.size w w1 := (below_alloc w _).trans (hb.mono (by simp))
      have hz1 := B1.size
      clear hb
      go_wp2_with (fail)
      go_ret2
      rw [H.out]
      exact ⟨rfl, by repeat' (first | exact Below.refl _ _ | assumption | refine below_drewN ?_ _ | refine Below.drew ?_ | refine Below.alloc ?_ (by first | assumption | omega | (simp <;> omega)) _ | refine Below.setCell ?_ (by first | assumption | omega | (simp <;> omega)) _)⟩
    · by_cases z3 : 1000000 < n
      · have H : Hid (gradeV R n = (0, 7)) := by show _ = _; rw [hg, if_neg (fun h => h rfl), if_pos (.inr z3)]
        clear hg hp
        go_enter Try.func43, Try.ntmps43
        go_wp2_with (fail)
        refine HC.out.mono ?_
        rintro e w1 ⟨rfl, hb⟩
        have B1 : Below w.heap.size w w1 := (below_alloc w _).trans (hb.mono (by simp))
        have hz1 := B1.size
        clear hb
        go_wp2_with (fail)
        go_ret2
        rw [H.out]
        exact ⟨rfl, by repeat' (first | exact Below.refl _ _ | assumption | refine below_drewN ?_ _ | refine Below.drew ?_ | refine Below.alloc ?_ (by first | assumption | omega | (simp <;> omega)) _ | refine Below.setCell ?_ (by first | assumption | omega | (simp <;> omega)) _)⟩
      · have H : Hid (gradeV R n = (grade R n, 0)) := by show _ = _; rw [hg, if_neg (fun h => h rfl), if_neg (by omega)]
        have hok := (check_ok (R := R) (by rw [hp])).1
        have HO := Lib.hid hok
        clear hg hp hok
        go_enter Try.func43, Try.ntmps43
        go_wp2_with (fail)
        refine HC.out.mono ?_
        rintro e w1 ⟨rfl, hb⟩
        have G1 : Below (w.heap.size + 1) (w.alloc (ruleCells R hh hv)) w1 := hb.mono (by simp)
        have B1 : Below w.heap.size w w1 := (below_alloc w _).trans (hb.mono (by simp))
        have hz1 := B1.size
        have hz2 : w.heap.size < w1.heap.size := by have := G1.size; simp at this; omega
        clear hb
        go_wp2_with (fail)
        have G2 := G1.alloc (show w.heap.size + 1 ≤ w1.heap.size by omega) (.cells #[.int .i64 p1, .int .i64 p2, .int .i64 0] 103)
        obtain ⟨k0, k1, k2⟩ := HCE.out _ G2
        refine (sints_any (s := ⟨some ⟨w.heap.size, 4, none⟩, 3⟩) (l := [R.g0, R.g1, R.g2]) (n + 1) (m := cnt R n) (ints3 k0 k1 k2) (by simp) (cnt_le R n) (fun i hi => cnt_before HO.out hi) (fun i hi h3 => cnt_behind HO.out hi h3)).mono ?_
        rintro e w2 ⟨rfl, hb⟩
        have B2 : Below w.heap.size w w2 := (B1.alloc hz1 _).trans (hb.mono (by simp; omega))
        rw [cnt_grade HO.out]
        go_wp2_with (fail)
        go_ret2
        rw [H.out]
        exact ⟨rfl, B2⟩
  · have H : Hid (gradeV R n = (0, p3)) := by show _ = _; rw [hg, if_pos z1]
    have b1 : (p3 != 0) = true := by simpa using z1
    clear hg hp
    go_enter Try.func43, Try.ntmps43
    go_wp2_with (fail)
    refine HC.out.mono ?_
    rintro e w1 ⟨rfl, hb⟩
    have B1 : Below w.heap.size w w1 := (below_alloc w _).trans (hb.mono (by simp))
    have hz1 := B1.size
    clear hb
    go_wp2_with (fail)
    go_quiet (fail)
    go_wp2_with (fail)
    go_ret2
    rw [H.out]
    exact ⟨rfl, by repeat' (first | exact Below.refl _ _ | assumption | refine below_drewN ?_ _ | refine Below.drew ?_ | refine Below.alloc ?_ (by first | assumption | omega | (simp <;> omega)) _ | refine Below.setCell ?_ (by first | assumption | omega | (simp <;> omega)) _)⟩
end Go.Proofs.Ytfjbgcaogffiaaa
