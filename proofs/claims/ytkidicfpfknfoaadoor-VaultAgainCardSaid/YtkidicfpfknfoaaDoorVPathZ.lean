/-
  asked: the error of a site, a temperature and some rooms.
  Path: the fastest way.
-/
import Derived.Test.YtkidicfpfknfoaaDoorVCheck
import Derived.Test.YtkidicfpfknfoaaDoorVAir
import Derived.Test.YtkidicfpfknfoaaDoorVPathM
namespace Go.Proofs.YtkidicfpfknfoaaDoor.D
def outR (S : Site) (n : Int) : Bool := outB n 0 ((S.rooms.length : Int) - 1)
def askE (S : Site) (t : Span) (l : List Int) : Int := if (checkV S).2.2 ≠ 0 then (checkV S).2.2 else if spanE t ≠ 0 then spanE t else if anyF (fun i => outR S (intD l i)) l.length then 4 else 0
theorem oddV_span (t : Span) : oddV t.lo t.hi (-300) 600 = spanE t := by
  unfold oddV spanE
  rw [outB_in, outB_in]
  cases inB t.lo (-300) 600 <;> cases inB t.hi (-300) 600 <;> simp
end Go.Proofs.YtkidicfpfknfoaaDoor.D
namespace Go.Proofs.YtkidicfpfknfoaaDoor
open Go.RowKit D
set_option linter.unusedVariables false
set_option linter.unusedSimpArgs false
attribute [local go_sem high] run_minI run_maxI
attribute [local go_sem] upon2 cls_cell cls_frozen forall_const exists_eq_left'
attribute [local go_sem] FirstUpon
set_option maxRecDepth 100000 in
set_option maxHeartbeats 8000000 in
theorem asked_any {S : Site} {s : SSl} {t : Span} {l : List Int} {sl : Sl} {w : World} (hS : SiteAt w S s) (hL : IntsS w sl l) (hm : MaxAt w) :
    Calls Tryd.prog 58 #[.agg #[.slice s.r.a S.rooms.length s.r.cap, .slice s.c.a S.cans.length s.c.cap, .int .i64 S.rlo, .int .i64 S.rhi, .slice s.p.a S.steps.length s.p.cap], .agg #[.int .i64 t.lo, .int .i64 t.hi], .slice sl.a l.length sl.cap] w fun e w' => e = .returned (.int .i64 (askE S t l)) ∧ Below w.heap.size w w' := by
  have HS := Lib.hid hS; have HL := Lib.hid hL; have HM := Lib.hid hm
  have hll := hL.le; have hlm := hL.max
  have hrl := hS.rm.le; have hrm := hS.rm.max
  obtain ⟨p1, p2, p3, hp⟩ : ∃ a b c, checkV S = (a, b, c) := ⟨_, _, _, rfl⟩
  have HP := Lib.hid hp
  clear hS hL hm hp
  go_enter Tryd.func58, Tryd.ntmps58
  go_wp2_with (fail)
  refine calls_name ?_
  intro w1 hw1
  obtain ⟨n3, hn3⟩ : ∃ n, n = w.heap.size := ⟨_, rfl⟩
  obtain ⟨n4, hn4⟩ : ∃ n, n = n3 + 1 := ⟨_, rfl⟩
  have hE1 : Ext2 w w1 := by rw [hw1]; exact ext_trans (below_alloc' _ _) (below_alloc' _ _)
  have x3 : w1.heap[n3]? = some (Obj.cells #[.slice s.r.a S.rooms.length s.r.cap, .slice s.c.a S.cans.length s.c.cap, .int .i64 S.rlo, .int .i64 S.rhi, .slice s.p.a S.steps.length s.p.cap] 28) := by rw [hw1, hn3]; exact blk_alloc (blk_new _ _) _
  have x4 : w1.heap[n4]? = some (Obj.cells #[.int .i64 t.lo, .int .i64 t.hi] 25) := by rw [hw1, hn4, hn3]; exact blk_new' _ _ (by simp)
  rw [← hn3, ← hn4]
  clear hw1 hn3 hn4
  refine (check_any (HS.out.below hE1) (HM.out.below hE1)).mono ?_
  rintro e w2 ⟨rfl, hb2⟩
  rw [HP.out]
  dsimp only
  have x3 := Ext2.blk hb2 x3; have x4 := Ext2.blk hb2 x4
  have X3 := Lib.hid x3; have X4 := Lib.hid x4; have HE2 := Lib.hid (ext_trans hE1 hb2)
  clear hb2 hE1 x3 x4
  by_cases hp3 : p3 = 0
  case neg =>
    have hd : (p3 != 0) = true := by simp [hp3]
    have HPN := Lib.hid hp3
    clear hp3
    go_wp2_with (fail)
    go_ret
    exact ⟨ret_int (by unfold askE; rw [HP.out, if_pos HPN.out]), HE2.out⟩
  subst hp3
  have hd : ((0 : Int) != 0) = false := rfl
  have x4 := X4.out
  have q4c := cell_blk x4
  have q4f := frz_blk x4
  clear x4
  go_wp2_with (fail)
  refine (odd_any _ _ _ _ _).mono ?_
  rintro e w3 ⟨rfl, hb3⟩
  rw [oddV_span]
  obtain ⟨x, hx⟩ : ∃ x, x = spanE t := ⟨_, rfl⟩
  rw [← hx]
  have HX := Lib.hid hx
  have HE3 := Lib.hid (ext_trans HE2.out hb3)
  have Y3 := Lib.hid (Ext2.blk hb3 X3.out)
  clear hb3 q4c q4f hx hd
  by_cases hx0 : x = 0
  case neg =>
    have hd : (x != 0) = true := by simp [hx0]
    have HXN := Lib.hid hx0
    clear hx0
    go_wp2_with (fail)
    go_ret
    exact ⟨ret_int (by unfold askE; rw [HP.out, if_neg (by simp), ← HX.out, if_pos HXN.out]), HE3.out⟩
  subst hx0
  have hd : ((0 : Int) != 0) = false := rfl
  go_wp2_with (fail)
  obtain ⟨la, lc⟩ := sl
  dsimp only at hll hlm
  clear hd
  go_loopw [6, 29] (fun f6 z wr => f6 = .int .i64 0 ∧ ∃ k : Nat, z = .int .i64 (k : Int) ∧ k ≤ l.length ∧ Ext2 w wr ∧ wr.heap[n3]? = some (Obj.cells #[.slice s.r.a S.rooms.length s.r.cap, .slice s.c.a S.cans.length s.c.cap, .int .i64 S.rlo, .int .i64 S.rhi, .slice s.p.a S.steps.length s.p.cap] 28) ∧ ∀ j, j < k → outR S (intD l j) = false) (fun _ z _ => l.length - (intOf z).toNat)
  case atStart => exact ⟨rfl, 0, rfl, by omega, HE3.out, Y3.out, fun j h => absurd h (by omega)⟩
  case round =>
    obtain ⟨rfl, k, rfl, hk, hB, x3, hall⟩ := hrel
    have HA := Lib.hid hall; have HB := Lib.hid hB; have Z3 := Lib.hid x3
    clear hall hB
    by_cases hlt : k < l.length
    · go_light
      obtain ⟨b, off, h1, y0⟩ := int_cell (HL.out.below HB.out) hlt
      dsimp only at h1
      subst h1
      have i0 : (0 : Int) ≤ (k : Int) := by omega
      have i1 : (k : Int) < (l.length : Int) := by omega
      have w3' : IntKind.i64.wrap ((k : Int) + 1) = (k : Int) + 1 := IntWalk.i64_in _ (by omega)
      have w5' : IntKind.i64.wrap ((S.rooms.length : Int) - 1) = (S.rooms.length : Int) - 1 := IntWalk.i64_in _ (by omega)
      obtain ⟨v, hv⟩ : ∃ v, v = intD l k := ⟨_, rfl⟩
      rw [← hv] at y0
      have HV := Lib.hid hv
      have HK := Lib.hid hlt
      clear hv
      have q3c := cell_blk x3
      have q3f := frz_blk x3
      clear x3
      rcases (Bool.eq_false_or_eq_true (outB v 0 ((S.rooms.length : Int) - 1))).symm with ho | ho
      case inr =>
        have HO := Lib.hid ho
        go_wp2_with (go_at_call 40; (with_reducible refine (out_any _ _ _ _).mono ?_); rintro e w' ⟨rfl, rfl⟩)
        go_ret
        refine ⟨ret_int ?_, HB.out⟩
        have e : anyF (fun i => outR S (intD l i)) l.length = true := by
          unfold anyF
          rw [firstN_at (k := k) HA.out (by unfold outR; rw [← HV.out]; exact HO.out) HK.out]
          exact decide_eq_true HK.out
        unfold askE
        rw [HP.out, if_neg (by simp), ← HX.out, if_neg (by simp), if_pos e]
      have HO := Lib.hid ho
      go_wp2_with (go_at_call 40; (with_reducible refine (out_any _ _ _ _).mono ?_); rintro e w' ⟨rfl, rfl⟩)
      go_roundw
      case rel => exact ⟨rfl, k + 1, by go_num, by omega, HB.out, Z3.out, fun j hj => by
        by_cases hjk : j = k
        · rw [hjk, ← HV.out]; exact HO.out
        · exact HA.out j (by omega)⟩
      case measure => simp [intOf]; omega
    · obtain rfl : k = l.length := by omega
      have r1 : ¬ (l.length : Int) < (l.length : Int) := by omega
      clear x3
      go_wp2_with (fail)
      go_ret
      refine ⟨ret_int ?_, HB.out⟩
      unfold askE
      rw [HP.out, if_neg (by simp), ← HX.out, if_neg (by simp), if_neg]
      unfold anyF
      rw [firstN_none HA.out]
      simp
end Go.Proofs.YtkidicfpfknfoaaDoor
namespace Go.Proofs.YtkidicfpfknfoaaDoor.D
set_option linter.unusedVariables false
def pathX (S : Site) (base : Int) (t : Span) (fr to : Int) : Int := if pathE S base t fr to ≠ 0 then pathE S base t fr to else if (bestP S base t fr.toNat to.toNat).1 < 0 then 9 else 0
def pathL (S : Site) (base : Int) (t : Span) (fr to : Int) : List Sty := if pathX S base t fr to = 0 then (bestP S base t fr.toNat to.toNat).2 else []
def pathH (S : Site) (base : Int) (t : Span) (fr to : Int) : Int := if pathX S base t fr to = 0 then (bestP S base t fr.toNat to.toNat).1 else 0
theorem pathE_ask {S : Site} {base : Int} {t : Span} {fr to : Int} (hc : (checkV S).2.2 = 0) (hb : inB base 1 3 = true) : pathE S base t fr to = askE S t [fr, to] := by
  unfold pathE askE
  have h1 : ¬ (checkV S).2.2 ≠ 0 := by omega
  have h2 : ¬ (inB base 1 3 = false) := by rw [hb]; decide
  rw [if_neg h1, if_neg h2, if_neg h1]
  have e : anyF (fun i => outR S (intD [fr, to] i)) [fr, to].length = !(inB fr 0 ((S.rooms.length : Int) - 1) && inB to 0 ((S.rooms.length : Int) - 1)) := by
    have h0 : intD [fr, to] 0 = fr := rfl
    have h1 : intD [fr, to] 1 = to := rfl
    unfold anyF
    show decide (firstN _ 2 < 2) = _
    simp only [firstN, h0, h1, outR, outB_in]
    cases inB fr 0 ((S.rooms.length : Int) - 1) <;> cases inB to 0 ((S.rooms.length : Int) - 1) <;> rfl
  rw [e]
  cases inB fr 0 ((S.rooms.length : Int) - 1) <;> cases inB to 0 ((S.rooms.length : Int) - 1) <;> rfl
theorem pathE_ok {S : Site} {base : Int} {t : Span} {fr to : Int} (h : pathE S base t fr to = 0) : Chk S ∧ inB base 1 3 = true ∧ spanE t = 0 ∧ (0 ≤ fr ∧ fr < S.rooms.length) ∧ 0 ≤ to ∧ to < S.rooms.length := by
  unfold pathE at h
  split at h
  · rename_i h1; exact absurd h h1
  rename_i h1
  split at h
  · cases h
  rename_i h2
  split at h
  · rename_i h3; exact absurd h h3
  rename_i h3
  split at h
  · cases h
  rename_i h4
  have h5 : (inB fr 0 ((S.rooms.length : Int) - 1) && inB to 0 ((S.rooms.length : Int) - 1)) = true := by simpa using h4
  rw [Bool.and_eq_true, inB_iff, inB_iff] at h5
  exact ⟨chk_iff.1 (Decidable.not_not.1 h1), by simpa using h2, Decidable.not_not.1 h3, by omega, by omega⟩
theorem spanE_in {t : Span} (h : spanE t = 0) : TIn t := by
  unfold spanE at h
  split at h
  · cases h
  · rename_i h1
    have h2 : (inB t.lo (-300) 600 && inB t.hi (-300) 600) = true := by simpa using h1
    rw [Bool.and_eq_true, inB_iff, inB_iff] at h2
    exact ⟨h2.1.1, h2.1.2, h2.2.1, h2.2.2⟩
def bstK (S : Site) (base : Int) (t : Span) (fr to k : Nat) : Int × List Sty := (List.range k).foldl (fun st k => srch S base to k [] [] t fr 0 st) (-1, [])
theorem bstK_succ {S : Site} {base : Int} {t : Span} {fr to k : Nat} : bstK S base t fr to (k + 1) = srch S base to k [] [] t fr 0 (bstK S base t fr to k) := by
  unfold bstK; rw [List.range_succ, List.foldl_append]; rfl
theorem bstK_ok {S : Site} {base : Int} {t : Span} {fr to : Nat} : ∀ {k : Nat}, k ≤ 5 → StOk (bstK S base t fr to k)
  | 0, _ => ⟨by show (-1 : Int) ≤ -1; omega, by show (-1 : Int) ≤ 5000; omega, by show 0 ≤ 6; omega⟩
  | k + 1, h => by rw [bstK_succ]; exact srch_ok (bstK_ok (by omega)) (by omega) (by omega) (by simp; omega)
end Go.Proofs.YtkidicfpfknfoaaDoor.D
namespace Go.Proofs.YtkidicfpfknfoaaDoor
open Go.RowKit D
set_option linter.unusedVariables false
set_option linter.unusedSimpArgs false
attribute [local go_sem high] run_minI run_maxI
attribute [local go_sem] upon2 cls_cell cls_frozen forall_const exists_eq_left'
attribute [local go_sem] FirstUpon
theorem elBool : Elem Tryd.prog 124 4 (.bool false) 1 1 := ⟨by kernel_rfl, by kernel_rfl, rfl, by omega, by omega⟩
theorem ints_two {w : World} {b : Nat} {a c : Int} {t : TypeId} (h : w.heap[b]? = some (.cells #[.int .i64 a, .int .i64 c] t (0, 0))) : IntsS w ⟨some ⟨b, 0, none⟩, 2⟩ [a, c] :=
  ⟨Nat.le_refl _, by show 2 ≤ 9223372036854775807; omega, fun i j hi hj => ⟨b, 0, rfl, by
    have hi : i < 2 := hi
    rcases (by omega : i = 0 ∨ i = 1) with rfl | rfl <;> (obtain rfl : j = 0 := by omega) <;> rw [cell_blk h] <;> rfl⟩⟩
def PathOut (w : World) (S : Site) (base : Int) (t : Span) (fr to : Int) (e : Ending) (w' : World) : Prop :=
  ∃ sl : Sl, e = .returned (.tuple #[.slice sl.a (pathL S base t fr to).length sl.cap, .int .i64 (pathH S base t fr to), .int .i64 (pathX S base t fr to)]) ∧ RowS w' sl 2 (pathL S base t fr to).length (syC (pathL S base t fr to)) ∧ Below w.heap.size w w'
/-- Path is left with an error. -/
theorem pathNo {w W : World} {S : Site} {base : Int} {t : Span} {fr to : Int} {n10 n11 : Nat} {T : Array Value} {e : Int} (hx : pathX S base t fr to = e) (h0 : e ≠ 0) (hB : Below w.heap.size w W) (l10 : w.heap.size ≤ n10) (l11 : n10 < n11)
    (x10 : ∃ v, W.heap[n10]? = some (.cells #[v] 37 (0, 0))) (x11 : ∃ v, W.heap[n11]? = some (.cells #[v] 3 (0, 0))) (t10 : T.getD 10 undef = .pointer (some ⟨n10, 0, none⟩)) (t11 : T.getD 11 undef = .pointer (some ⟨n11, 0, none⟩)) (t12 : T.getD 12 undef = .int .i64 e) :
    bodyPost Tryd.prog Tryd.f16 (PathOut w S base t fr to) .ret { tmps := T, defers := [] } ((W.setCell ⟨n10, 0, none⟩ (.slice none 0 0)).setCell ⟨n11, 0, none⟩ (.int .i64 0)) := by
  obtain ⟨v, x11⟩ := x11
  obtain ⟨v', x10⟩ := x10
  have y10 := blk_set_ne (b' := n11) (o := 0) (v := .int .i64 0) (Eq.trans (blk_set x10 0 (.slice none 0 0)) rfl) (by omega)
  have y11 := Eq.trans (blk_set (blk_set_ne (b' := n10) (o := 0) (v := .slice none 0 0) x11 (by omega)) 0 (.int .i64 0)) rfl
  have c10 := cell_blk y10; have c11 := cell_blk y11
  have u10 : T[10]?.getD undef = .pointer (some ⟨n10, 0, none⟩) := by rw [← t10, Array.getD_eq_getD_getElem?]
  have u11 : T[11]?.getD undef = .pointer (some ⟨n11, 0, none⟩) := by rw [← t11, Array.getD_eq_getD_getElem?]
  have u12 : T[12]?.getD undef = .int .i64 e := by rw [← t12, Array.getD_eq_getD_getElem?]
  have e1 : pathL S base t fr to = [] := if_neg (by rw [hx]; exact h0)
  have e2 : pathH S base t fr to = 0 := if_neg (by rw [hx]; exact h0)
  refine bodyPost_ret (v := .tuple #[.slice none 0 0, .int .i64 0, .int .i64 e]) ?_ rfl ⟨⟨none, 0⟩, by rw [e1, e2, hx]; rfl, by rw [e1]; exact ⟨Nat.le_refl _, by decide, fun i j hi _ => absurd hi (Nat.not_lt_zero i)⟩, below_set (below_set hB l10) (by omega)⟩
  simp [results, Tryd.results16, go_sem, c10, c11, t10, t11, t12, u10, u11, u12]
set_option maxRecDepth 100000 in
set_option maxHeartbeats 8000000 in
theorem path_any {S : Site} {s : SSl} {base : Int} {t : Span} {fr to : Int} {w : World} (hS : SiteAt w S s) (hm : MaxAt w) :
    Calls Tryd.prog 16 #[.agg #[.slice s.r.a S.rooms.length s.r.cap, .slice s.c.a S.cans.length s.c.cap, .int .i64 S.rlo, .int .i64 S.rhi, .slice s.p.a S.steps.length s.p.cap], .int .i64 base, .agg #[.int .i64 t.lo, .int .i64 t.hi], .int .i64 fr, .int .i64 to] w (PathOut w S base t fr to) := by
  have HS := Lib.hid hS; have HM := Lib.hid hm
  have hrl := hS.rm.le; have hrm := hS.rm.max
  obtain ⟨p1, p2, p3, hp⟩ : ∃ a b c, checkV S = (a, b, c) := ⟨_, _, _, rfl⟩
  have HP := Lib.hid hp
  clear hS hm hp
  go_enter Tryd.func16, Tryd.ntmps16
  go_wp2_with (fail)
  refine calls_name ?_
  intro w1 hw1
  obtain ⟨n5, hn5⟩ : ∃ n, n = w.heap.size := ⟨_, rfl⟩
  obtain ⟨n6, hn6⟩ : ∃ n, n = n5 + 1 := ⟨_, rfl⟩
  obtain ⟨n7, hn7⟩ : ∃ n, n = n6 + 1 := ⟨_, rfl⟩
  obtain ⟨n9, hn9⟩ : ∃ n, n = n7 + 1 := ⟨_, rfl⟩
  obtain ⟨n10, hn10⟩ : ∃ n, n = n9 + 1 := ⟨_, rfl⟩
  obtain ⟨n11, hn11⟩ : ∃ n, n = n10 + 1 := ⟨_, rfl⟩
  have hE1 : Ext2 w w1 := by rw [hw1]; exact ext_trans (ext_trans (ext_trans (ext_trans (ext_trans (below_alloc' _ _) (below_alloc' _ _)) (below_alloc' _ _)) (below_alloc' _ _)) (below_alloc' _ _)) (below_alloc' _ _)
  have x5 : w1.heap[n5]? = some (Obj.cells #[.slice s.r.a S.rooms.length s.r.cap, .slice s.c.a S.cans.length s.c.cap, .int .i64 S.rlo, .int .i64 S.rhi, .slice s.p.a S.steps.length s.p.cap] 28) := by rw [hw1, hn5]; exact blk_alloc (blk_alloc (blk_alloc (blk_alloc (blk_alloc (blk_new _ _) _) _) _) _) _
  have x6 : w1.heap[n6]? = some (.cells #[.int .i64 base] 3 (0, 0)) := by rw [hw1, hn6, hn5]; exact blk_alloc (blk_alloc (blk_alloc (blk_alloc (blk_new' _ _ (by simp)) _) _) _) _
  have x7 : w1.heap[n7]? = some (Obj.cells #[.int .i64 t.lo, .int .i64 t.hi] 25) := by rw [hw1, hn7, hn6, hn5]; exact blk_alloc (blk_alloc (blk_alloc (blk_new' _ _ (by simp)) _) _) _
  have x9 : w1.heap[n9]? = some (.cells #[.int .i64 to] 3 (0, 0)) := by rw [hw1, hn9, hn7, hn6, hn5]; exact blk_alloc (blk_alloc (blk_new' _ _ (by simp)) _) _
  have x10 : w1.heap[n10]? = some (.cells #[.slice none 0 0] 37 (0, 0)) := by rw [hw1, hn10, hn9, hn7, hn6, hn5]; exact blk_alloc (blk_new' _ _ (by simp)) _
  have x11 : w1.heap[n11]? = some (.cells #[.int .i64 0] 3 (0, 0)) := by rw [hw1, hn11, hn10, hn9, hn7, hn6, hn5]; exact blk_new' _ _ (by simp)
  have hsz : w1.heap.size = w.heap.size + 6 := by rw [hw1]; simp
  rw [← hn5, ← hn6, ← hn7, ← hn9, ← hn10, ← hn11]
  have l5 : w.heap.size ≤ n5 := by omega
  have l56 : n5 < n6 := by omega
  have l67 : n6 < n7 := by omega
  have l79 : n7 < n9 := by omega
  have l910 : n9 < n10 := by omega
  have l1011 : n10 < n11 := by omega
  have l11 : n11 < w1.heap.size := by omega
  clear hw1 hn5 hn6 hn7 hn9 hn10 hn11 hsz
  refine (check_any (HS.out.below hE1) (HM.out.below hE1)).mono ?_
  rintro e w2 ⟨rfl, hb2⟩
  rw [HP.out]
  dsimp only
  have HE2 := Lib.hid (ext_trans hE1 hb2)
  have X5 := Lib.hid (Ext2.blk hb2 x5); have X6 := Lib.hid (Ext2.blk hb2 x6); have X7 := Lib.hid (Ext2.blk hb2 x7); have X9 := Lib.hid (Ext2.blk hb2 x9); have X10 := Lib.hid (Ext2.blk hb2 x10); have X11 := Lib.hid (Ext2.blk hb2 x11)
  clear hb2 hE1 x5 x6 x7 x9 x10 x11 l11
  have n1011 : ¬ n10 = n11 := by omega
  have n1110 : ¬ n11 = n10 := by omega
  by_cases hp3 : p3 = 0
  case neg =>
    have hd : (p3 != 0) = true := by simp [hp3]
    have HPN := Lib.hid hp3
    have x10 := X10.out; have x11 := X11.out
    have qyc := cell_blk x10
    have qyf := frz_blk x10
    have qhc := cell_blk x11
    have qhf := frz_blk x11
    clear hp3 x10 x11
    go_wp2_with (fail)
    have e1 : pathE S base t fr to = p3 := by unfold pathE; rw [HP.out, if_pos HPN.out]
    exact pathNo (e := p3) (by unfold pathX; rw [e1, if_pos HPN.out]) HPN.out HE2.out (by omega) l1011 ⟨_, X10.out⟩ ⟨_, X11.out⟩ rfl rfl rfl
  subst hp3
  have hd : ((0 : Int) != 0) = false := rfl
  have HCV : Hid ((checkV S).2.2 = 0) := Lib.hid (by rw [HP.out])
  have x6 := X6.out
  have qac := cell_blk x6
  have qaf := frz_blk x6
  clear x6
  rcases (Bool.eq_false_or_eq_true (outB base 1 3)).symm with ho | ho
  case inr =>
    have HO := Lib.hid ho
    have x10 := X10.out; have x11 := X11.out
    have qyc := cell_blk x10
    have qyf := frz_blk x10
    have qhc := cell_blk x11
    have qhf := frz_blk x11
    clear x10 x11
    go_wp2_with (go_at_call 40; (with_reducible refine (out_any _ _ _ _).mono ?_); rintro e w' ⟨rfl, rfl⟩)
    have e1 : pathE S base t fr to = 2 := by unfold pathE; rw [if_neg (by rw [HCV.out]; decide), if_pos (by have := HO.out; rw [outB_in] at this; simpa using this)]
    exact pathNo (e := 2) (by unfold pathX; rw [e1, if_pos (by decide)]) (by decide) HE2.out (by omega) l1011 ⟨_, X10.out⟩ ⟨_, X11.out⟩ rfl rfl rfl
  have HBI : Hid (inB base 1 3 = true) := Lib.hid (by have := ho; rw [outB_in] at this; simpa using this)
  have x5 := X5.out; have x7 := X7.out; have x9 := X9.out
  have qsc := cell_blk x5
  have qsf := frz_blk x5
  have qtc := cell_blk x7
  have qtf := frz_blk x7
  have qoc := cell_blk x9
  have qof := frz_blk x9
  clear x5 x7 x9
  go_wp2_with (go_at_call 40; (with_reducible refine (out_any _ _ _ _).mono ?_); rintro e w' ⟨rfl, rfl⟩)
  refine calls_name ?_
  intro w3 hw3
  obtain ⟨bq, hbq⟩ : ∃ b, b = w2.heap.size := ⟨_, rfl⟩
  have hE3 : Ext2 w2 w3 := by rw [hw3]; exact below_alloc' _ _
  have nq : w3.heap[bq]? = some (.cells #[.int .i64 fr, .int .i64 to] 3 (0, 0)) := by rw [hw3, hbq]; exact blk_new _ _
  rw [← hbq]
  clear hw3 hbq qac qaf qsc qsf qtc qtf qoc qof hd ho
  refine (asked_any (l := [fr, to]) (HS.out.below (ext_trans HE2.out hE3)) (ints_two nq) (HM.out.below (ext_trans HE2.out hE3))).mono ?_
  rintro e w4 ⟨rfl, hb4⟩
  rw [← pathE_ask HCV.out HBI.out]
  obtain ⟨pe, hpe⟩ : ∃ x, x = pathE S base t fr to := ⟨_, rfl⟩
  rw [← hpe]
  have HPE := Lib.hid hpe
  have hE4 := ext_trans hE3 hb4
  have HE4 := Lib.hid (ext_trans HE2.out hE4)
  have Y5 := Lib.hid (Ext2.blk hE4 X5.out); have Y6 := Lib.hid (Ext2.blk hE4 X6.out); have Y7 := Lib.hid (Ext2.blk hE4 X7.out); have Y9 := Lib.hid (Ext2.blk hE4 X9.out); have Y10 := Lib.hid (Ext2.blk hE4 X10.out); have Y11 := Lib.hid (Ext2.blk hE4 X11.out)
  clear hpe hE3 hb4 hE4 nq
  by_cases hp0 : pe = 0
  case neg =>
    have hd : (pe != 0) = true := by simp [hp0]
    have HPN := Lib.hid hp0
    have x10 := Y10.out; have x11 := Y11.out
    have qyc := cell_blk x10
    have qyf := frz_blk x10
    have qhc := cell_blk x11
    have qhf := frz_blk x11
    clear hp0 x10 x11
    go_wp2_with (fail)
    exact pathNo (e := pe) (by unfold pathX; rw [← HPE.out, if_pos HPN.out]) HPN.out HE4.out (by omega) l1011 ⟨_, Y10.out⟩ ⟨_, Y11.out⟩ rfl rfl rfl
  subst hp0
  have hd : ((0 : Int) != 0) = false := rfl
  obtain ⟨hck, -, hsp, ⟨hf0, hf1⟩, ht0, ht1⟩ := pathE_ok HPE.out.symm
  have hti := spanE_in hsp
  have HCK := Lib.hid hck; have HTI := Lib.hid hti
  have hrn := hck.len.1.2
  obtain ⟨fn, hfn⟩ : ∃ n : Nat, n = fr.toNat := ⟨_, rfl⟩
  obtain ⟨tn, htn⟩ : ∃ n : Nat, n = to.toNat := ⟨_, rfl⟩
  have ef : fr = (fn : Int) := by omega
  have et : to = (tn : Int) := by omega
  have HFN := Lib.hid hfn; have HTN := Lib.hid htn
  have hfl : fn < S.rooms.length := by omega
  have htl : tn < S.rooms.length := by omega
  clear hck hsp hti hfn htn hf0 hf1 ht0 ht1
  have HEF := Lib.hid ef; have HET := Lib.hid et
  have x5 := Y5.out; have x11 := Y11.out
  have l5' := blk_lt x5
  have l11' := blk_lt x11
  have n5' : ¬ n5 = w4.heap.size := by omega
  have n11' : ¬ n11 = w4.heap.size := by omega
  have m1 : n11 < w4.heap.size + 1 := by omega
  have k1 : ¬ n11 = w4.heap.size + 1 := by omega
  have m2 : n11 < w4.heap.size + 1 + 1 := by omega
  have k2 : ¬ n11 = w4.heap.size + 1 + 1 := by omega
  have m3 : n11 < w4.heap.size + 1 + 1 + 1 := by omega
  have k3 : ¬ n11 = w4.heap.size + 1 + 1 + 1 := by omega
  have m4 : n11 < w4.heap.size + 1 + 1 + 1 + 1 := by omega
  have k4 : ¬ n11 = w4.heap.size + 1 + 1 + 1 + 1 := by omega
  have m5 : n11 < w4.heap.size + 1 + 1 + 1 + 1 + 1 := by omega
  have k5 : ¬ n11 = w4.heap.size + 1 + 1 + 1 + 1 + 1 := by omega
  have m6 : n11 < w4.heap.size + 1 + 1 + 1 + 1 + 1 + 1 := by omega
  have k6 : ¬ n11 = w4.heap.size + 1 + 1 + 1 + 1 + 1 + 1 := by omega
  have qsc := cell_blk x5
  have qsf := frz_blk x5
  have qhc := cell_blk x11
  have qhf := frz_blk x11
  clear x5 x11 ef et
  have hsf := fun (a : Addr) (c : Array Value) (w : World) => run_store Tryd.prog w a (.func (.func 59) #[] c) .plain rfl
  go_wp2_with (at_make; refine wpList_mk elBool rfl _ rfl S.rooms.length rfl (by omega) ?_)
  refine wp_name ?_
  intro w5 hw5
  obtain ⟨bv, hbv⟩ : ∃ n, n = w4.heap.size := ⟨_, rfl⟩
  obtain ⟨bg, hbg⟩ : ∃ n, n = bv + 1 := ⟨_, rfl⟩
  obtain ⟨bb, hbb⟩ : ∃ n, n = bg + 1 := ⟨_, rfl⟩
  obtain ⟨be, hbe⟩ : ∃ n, n = bb + 1 := ⟨_, rfl⟩
  obtain ⟨bn, hbn⟩ : ∃ n, n = be + 1 := ⟨_, rfl⟩
  obtain ⟨bf, hbf⟩ : ∃ n, n = bn + 1 := ⟨_, rfl⟩
  rw [← hbv, ← hbg, ← hbb, ← hbe, ← hbn, ← hbf] at hw5 ⊢
  have hz : Ext2 (w4.setCell ⟨n11, 0, none⟩ (.int .i64 (-1))) w5 := by rw [hw5]; exact ext_trans (ext_trans (ext_trans (ext_trans (ext_trans (below_alloc' _ _) (below_alloc' _ _)) (below_alloc' _ _)) (below_alloc' _ _)) (below_alloc' _ _)) (below_alloc' _ _)
  have xv : w5.heap[bv]? = some (Obj.cells #[.slice s.r.a S.rooms.length s.r.cap, .slice s.c.a S.cans.length s.c.cap, .int .i64 S.rlo, .int .i64 S.rhi, .slice s.p.a S.steps.length s.p.cap, (.slice none 0 0)] 113) := by rw [hw5, hbv]; exact blk_alloc (blk_alloc (blk_alloc (blk_alloc (blk_alloc (blk_new' _ _ (World.size_setCell _ _ _).symm) _) _) _) _) _
  have xg : w5.heap[bg]? = some (.cells (madeCells #[.bool false] (S.rooms.length * 1)) 4 (0, 0)) := by rw [hw5, Nat.mul_one]; exact blk_alloc (blk_alloc (blk_alloc (blk_alloc (blk_new' _ _ (by simp [hbg, hbv])) _) _) _) _
  have xb : w5.heap[bb]? = some (.cells #[.slice (some ⟨bg, 0, none⟩) S.rooms.length S.rooms.length] 124 (0, 0)) := by rw [hw5]; exact blk_alloc (blk_alloc (blk_alloc (blk_new' _ _ (by simp [hbb, hbg, hbv])) _) _) _
  have xe : w5.heap[be]? = some (.cells #[] 44 (0, 0)) := by rw [hw5]; exact blk_alloc (blk_alloc (blk_new' _ _ (by simp [hbe, hbb, hbg, hbv])) _) _
  have xn : w5.heap[bn]? = some (.cells #[.slice (some ⟨be, 0, none⟩) 0 0] 37 (0, 0)) := by rw [hw5]; exact blk_alloc (blk_new' _ _ (by simp [hbn, hbe, hbb, hbg, hbv])) _
  have xf : w5.heap[bf]? = some (.cells #[.func (.func 59) #[] (bxPtrs ⟨n11, n9, bn, n10, bb, n5, n6, bv, bf, bg⟩)] 125 (0, 0)) := by rw [hw5]; exact blk_new' _ _ (by simp [hbf, hbn, hbe, hbb, hbg, hbv])
  have hxo : BxOk w.heap.size ⟨n11, n9, bn, n10, bb, n5, n6, bv, bf, bg⟩ := ⟨l5, l56, by show n6 < n9; omega, l910, l1011, by show n11 < bv; omega, by show bv < bg; omega, by show bg < bb; omega, by show bb < bn; omega, by show bn < bf; omega⟩
  have hbel : Below w.heap.size w w5 := below_ext (below_set (o := 0) (v := .int .i64 (-1)) HE4.out (show w.heap.size ≤ n11 by omega)) hz
  have hW5 : SrW w S s base tn ⟨n11, n9, bn, n10, bb, n5, n6, bv, bf, bg⟩ [] [] (-1, []) be 0 ⟨none, 0⟩ w5 :=
    ⟨hbel, hz.blk (Eq.trans (blk_set Y11.out 0 _) rfl), by rw [← HET.out]; exact hz.blk (blk_set_ne Y9.out (show n11 ≠ n9 by omega)), xn, own_empty xe (by omega), hz.blk (blk_set_ne Y10.out (show n11 ≠ n10 by omega)), own_nil _ _ _ _ _, by simp, xb,
      (own_made (sz := 1) (z := #[.bool false]) rfl Nat.one_pos (by unfold maxLen; omega) (by omega) xg).congr (fun i j hi hj => by rcases (show j = 0 by omega) with rfl; rfl), hz.blk (blk_set_ne Y5.out (show n11 ≠ n5 by omega)), hz.blk (blk_set_ne Y6.out (show n11 ≠ n6 by omega)), xv, xf⟩
  have HW5 := Lib.hid hW5; have HXO := Lib.hid hxo
  have Z7 := Lib.hid (hz.blk (blk_set_ne (b' := n11) (o := 0) (v := .int .i64 (-1)) Y7.out (by omega)))
  have lbb : n11 < bb := by omega
  have lbn : n11 < bn := by omega
  have lbf : n11 < bf := by omega
  clear hw5 hz xv xg xb xe xn xf hxo hbel hW5 hbv hbg hbb hbe hbn hbf qsc qsf qhc qhf hsf l5' l11' n5' n11' m1 m2 m3 m4 m5 m6 k1 k2 k3 k4 k5 k6 hd
  go_loopw [46] (fun z wr => ∃ k : Nat, z = .int .i64 (k : Int) ∧ k ≤ 5 ∧ wr.heap[n7]? = some (Obj.cells #[.int .i64 t.lo, .int .i64 t.hi] 25) ∧ ∃ gn cn ky, SrW w S s base tn ⟨n11, n9, bn, n10, bb, n5, n6, bv, bf, bg⟩ [] [] (bstK S base t fn tn k) gn cn ky wr) (fun z _ => 5 - (intOf z).toNat)
  case atStart => exact ⟨0, rfl, by omega, Z7.out, be, 0, ⟨none, 0⟩, HW5.out⟩
  case round =>
    obtain ⟨k, rfl, hk, x7, gn, cn, ky, hW⟩ := hrel
    have HWr := Lib.hid hW; have X7' := Lib.hid x7
    by_cases hlt : k < 5
    · go_light
      have i2 : (k : Int) < 5 := by omega
      have w3' : IntKind.i64.wrap ((k : Int) + 1) = (k : Int) + 1 := IntWalk.i64_in _ (by omega)
      have xf := hW.srch
      unfold bxPtrs at xf
      have qfc := cell_blk xf
      have qff := frz_blk xf
      have qtc := cell_blk x7
      have qtf := frz_blk x7
      clear hW x7 xf
      go_wp2_with (fail)
      have h := srch_any HS.out HCK.out HXO.out htl k HWr.out hfl rfl HTI.out (Int.le_refl 0) (by omega) (by simp; omega) (bstK_ok hk)
      rw [← HEF.out] at h
      refine h.mono ?_
      clear h
      rintro e w6 ⟨rfl, hsd, g', c', ky', h6⟩
      have H6 := Lib.hid h6; have X76 := Lib.hid (hsd.keep _ _ _ _ X7'.out (by decide))
      clear hsd h6 qfc qff qtc qtf
      go_wp2_with (fail)
      go_roundw
      case rel => exact ⟨k + 1, by go_num, by omega, X76.out, g', c', ky', by rw [bstK_succ]; exact H6.out⟩
      case measure => simp [intOf]; omega
    · obtain rfl : k = 5 := by omega
      have r1 : ¬ (5 : Int) < 5 := by omega
      have HB5 : Hid (bestP S base t fr.toNat to.toNat = bstK S base t fn tn 5) := Lib.hid (by rw [← HFN.out, ← HTN.out]; rfl)
      obtain ⟨st, hst⟩ : ∃ z, z = bstK S base t fn tn 5 := ⟨_, rfl⟩
      rw [← hst] at hW
      have HST := Lib.hid hst
      have HWs := Lib.hid hW
      have xh := hW.hours; have xy := hW.stays
      dsimp only at xh xy
      obtain ⟨hI, hhI⟩ : ∃ x, x = st.1 := ⟨_, rfl⟩
      rw [← hhI] at xh
      have HHI := Lib.hid hhI
      have XH := Lib.hid xh; have XY := Lib.hid xy
      have qhc := cell_blk xh
      have qhf := frz_blk xh
      have qyc := cell_blk xy
      have qyf := frz_blk xy
      clear hst hW xh xy hhI x7
      rcases (show hI < 0 ∨ 0 ≤ hI by omega) with hneg | hneg
      · have hd1 : decide (hI < 0) = true := decide_eq_true hneg
        have HNG := Lib.hid hneg
        go_wp2_with (fail)
        exact pathNo (e := 9) (by unfold pathX; rw [if_neg (by rw [← HPE.out]; decide), HB5.out, ← HST.out, ← HHI.out, if_pos HNG.out]) (by decide) HWs.out.bel (by omega) l1011 ⟨_, XY.out⟩ ⟨_, XH.out⟩ rfl rfl rfl
      · have hd1 : decide (hI < 0) = false := decide_eq_false (by omega)
        have hn1 : ¬ hI < 0 := by omega
        have HX0 : Hid (pathX S base t fr to = 0) := Lib.hid (by unfold pathX; rw [if_neg (by rw [← HPE.out]; decide), HB5.out, ← HST.out, ← HHI.out, if_neg hn1])
        go_wp2_with (fail)
        go_region
        go_wp2_with (fail)
        have y10 := blk_set_ne (b' := n11) (o := 0) (v := .int .i64 hI) (Eq.trans (blk_set XY.out 0 (.slice ky.a st.2.length ky.cap)) rfl) (show n11 ≠ n10 by omega)
        have y11 := Eq.trans (blk_set (blk_set_ne (b' := n10) (o := 0) (v := .slice ky.a st.2.length ky.cap) XH.out (show n10 ≠ n11 by omega)) 0 (.int .i64 hI)) rfl
        have c10 := cell_blk (blk_drew y10); have c11 := cell_blk (blk_drew y11)
        have e1 : pathL S base t fr to = st.2 := by unfold pathL; rw [if_pos HX0.out, HB5.out, ← HST.out]
        have e2 : pathH S base t fr to = hI := by unfold pathH; rw [if_pos HX0.out, HB5.out, ← HST.out, HHI.out]
        have hsd := (Sd.set (B := w.heap.size) (ts := [3, 37]) (o := 0) XY.out (by simp) (show w.heap.size ≤ n10 by omega) (.slice ky.a st.2.length ky.cap)).trans (Sd.set (o := 0) (blk_set_ne (b' := n10) (o := 0) (v := .slice ky.a st.2.length ky.cap) XH.out (show n10 ≠ n11 by omega)) (by simp) (show w.heap.size ≤ n11 by omega) (.int .i64 hI))
        refine bodyPost_ret (v := .tuple #[.slice ky.a st.2.length ky.cap, .int .i64 hI, .int .i64 0]) ?_ rfl ⟨⟨ky.a, ky.cap⟩, by rw [e1, e2, HX0.out], ?_, ((HWs.out.bel.trans hsd.bel).drew)⟩
        · simp [results, Tryd.results16, go_sem, c10, c11]
        · rw [e1]
          obtain ⟨⟨a', c'⟩, h1, h2⟩ := (HWs.out.staysO.sd hsd (by decide)).sl
          have h3 : Value.slice ky.a st.2.length ky.cap = Value.slice a' st.2.length c' := h1
          injection h3 with h4 _ h5
          rw [← h4, ← h5] at h2
          exact h2.below (Ext2.drew _)
end Go.Proofs.YtkidicfpfknfoaaDoor
