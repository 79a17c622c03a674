/-
  cmp.Compare of strings, cmp.Or, bench.first, bench.order, bench.strange.
  slices.SortFunc over notes, as bench.standing calls it.
-/
import Derived.Test.YtapeakbngligaaaGreatDoorBFlm
import Derived.StillTailTactics
import Derived.Sort.Walk0
import Derived.Sort.Grow
import Derived.Test.YtapeakbngligaaaGreatDoorBCut
import Derived.Shelf.SlSortCmp.WholeK
import Derived.Shelf.SlSortCmp.NoneTotal
import Derived.Shelf.Lay
import Derived.Ground.SlsfProg
namespace Go.Proofs.YtapeakbngligaaaGreatDoor
open Go.RowKit D
set_option linter.unusedVariables false
set_option linter.unusedSimpArgs false
attribute [local go_sem high] run_minI run_maxI
attribute [local go_sem] upon2 cls_cell cls_frozen forall_const exists_eq_left'
attribute [local go_sem] FirstUpon
theorem isNaN_any (a : ByteArray) (w : World) : Calls Tryz.prog 113 #[.string a] w fun e w' => e = .returned (.bool false) ∧ w' = w := by
  go_enter Tryz.func113, Tryz.ntmps113
  go_wp2
  go_ret
  exact ⟨ret_bool (by simp), rfl⟩
theorem bytesLess_ltB (a b : ByteArray) : Op.bytesLess a.toList b.toList = ltB a b := by
  rw [bytesLess_eq]; unfold ltB; rw [ByteArray.toList_eq, ByteArray.toList_eq]
set_option maxRecDepth 100000 in
set_option maxHeartbeats 2000000 in
theorem cmpS_any (a b : ByteArray) (w : World) : Calls Tryz.prog 86 #[.string a, .string b] w fun e w' => e = .returned (.int .i64 (cmpS a b)) ∧ w' = w := by
  have HA := Lib.hid fun W => isNaN_any a W
  have HB := Lib.hid fun W => isNaN_any b W
  have e1 := bytesLess_ltB a b
  have e2 := beq_list a b
  obtain ⟨r, hr⟩ : ∃ r, r = cmpS a b := ⟨_, rfl⟩
  rw [← hr]
  cases h1 : ltB a b with
  | true =>
    have hv : Hid (r = -1) := Lib.hid (by rw [hr]; unfold cmpS; rw [if_pos h1])
    rw [h1] at e1
    clear hr h1 e2
    go_enter Tryz.func86, Tryz.ntmps86
    go_wp2_with ((first | (with_reducible refine (HA.out _).mono ?_) | (with_reducible refine (HB.out _).mono ?_)); rintro e w' ⟨rfl, rfl⟩)
    go_ret
    exact ⟨ret_int hv.out.symm, rfl⟩
  | false =>
    rw [h1] at e1
    cases h2 : sameS a b with
    | true =>
      have hab := sameS_iff.1 h2
      have hv : Hid (r = 0) := Lib.hid (by rw [hr]; exact cmpS_zero.2 hab)
      rw [h2] at e2
      clear hr h1 h2 hab
      go_enter Tryz.func86, Tryz.ntmps86
      go_wp2_with ((first | (with_reducible refine (HA.out _).mono ?_) | (with_reducible refine (HB.out _).mono ?_)); rintro e w' ⟨rfl, rfl⟩)
      go_ret
      exact ⟨ret_int hv.out.symm, rfl⟩
    | false =>
      have hv : Hid (r = 1) := Lib.hid (by
        rw [hr]; unfold cmpS; rw [h1]
        cases h3 : ltB b a
        · have := ltB_total h1 h3
          rw [sameS_iff.2 this] at h2; cases h2
        · rfl)
      rw [h2] at e2
      clear hr h1 h2
      go_enter Tryz.func86, Tryz.ntmps86
      go_wp2_with ((first | (with_reducible refine (HA.out _).mono ?_) | (with_reducible refine (HB.out _).mono ?_)); rintro e w' ⟨rfl, rfl⟩)
      go_ret
      exact ⟨ret_int hv.out.symm, rfl⟩
set_option maxRecDepth 100000 in
set_option maxHeartbeats 2000000 in
theorem orI_any {l : List Int} {s : Sl} {w : World} (hs : IntsS w s l) : Calls Tryz.prog 112 #[.slice s.a l.length s.cap] w fun e w' => e = .returned (.int .i64 (fst0 l)) ∧ w' = w := by
  have hc := hs.le; have hm := hs.max
  obtain ⟨sa, sc⟩ := s
  dsimp only at hc hm
  have HS := Lib.hid hs; clear hs
  obtain ⟨n, hn'⟩ : ∃ n, n = l.length := ⟨_, rfl⟩
  rw [← hn'] at hc ⊢
  have HN := Lib.hid hn'; clear hn'
  go_enter Tryz.func112, Tryz.ntmps112
  go_wp2_with (fail)
  go_loopw [8] (fun i wr => ∃ k : Nat, k ≤ n ∧ i = .int .i64 k ∧ fst0 l = fst0 (l.drop k) ∧ wr = w) (fun i _ => n - (intOf i).toNat)
  case atStart => exact ⟨0, Nat.zero_le _, rfl, rfl, rfl⟩
  case round =>
    obtain ⟨k, hk, rfl, hd, rfl⟩ := hrel
    by_cases hlt : k < n
    · have hkl : k < l.length := by rw [← HN.out]; exact hlt
      obtain ⟨b, off, hsa, c0⟩ := int_cell HS.out hkl
      dsimp only at hsa
      subst hsa
      have hdk : l.drop k = intD l k :: l.drop (k + 1) := by
        rw [List.drop_eq_getElem_cons hkl]
        unfold intD; rw [List.getD_eq_getElem?_getD, List.getElem?_eq_getElem hkl]; rfl
      rw [hdk, fst0] at hd
      obtain ⟨x, hx⟩ : ∃ x, x = intD l k := ⟨_, rfl⟩
      rw [← hx] at c0 hd
      have HD := Lib.hid hd
      have h0 : (0 : Int) ≤ (k : Int) := by omega
      have h1 : (k : Int) < (n : Int) := by omega
      have w2' : IntKind.i64.wrap ((k : Int) + 1) = (k : Int) + 1 := IntWalk.i64_in _ (by omega)
      clear hd hdk hx hkl
      by_cases hx0 : x = 0
      · have HF : Hid (fst0 l = fst0 (l.drop (k + 1))) := Lib.hid (by rw [HD.out, if_neg (by simpa using hx0)])
        have hb : (x != 0) = false := by simpa using hx0
        go_wp2_with (fail)
        go_roundw
        case rel => exact ⟨k + 1, by omega, by go_num, HF.out, trivial⟩
        case measure => simp [intOf]; omega
      · have HF : Hid (fst0 l = x) := Lib.hid (by rw [HD.out, if_pos hx0])
        have hb : (x != 0) = true := by simpa using hx0
        go_wp2_with (fail)
        go_ret
        exact ⟨ret_int HF.out.symm, rfl⟩
    · obtain rfl : n = k := by omega
      have HF : Hid (fst0 l = 0) := Lib.hid (by rw [hd, List.drop_of_length_le (by rw [← HN.out]; exact Nat.le_refl _)]; rfl)
      clear hd
      go_wp2_with (fail)
      go_ret
      exact ⟨ret_int HF.out.symm, rfl⟩
theorem first_any {l : List Int} {s : Sl} {w : World} (hs : IntsS w s l) : Calls Tryz.prog 85 #[.slice s.a l.length s.cap] w fun e w' => e = .returned (.int .i64 (fst0 l)) ∧ w' = w := by
  have HO := Lib.hid (orI_any hs)
  obtain ⟨v, hv⟩ : ∃ v, v = fst0 l := ⟨_, rfl⟩
  rw [← hv] at HO ⊢
  clear hs hv
  go_enter Tryz.func85, Tryz.ntmps85
  go_wp2_with (fail)
  (with_reducible refine HO.out.mono ?_)
  rintro e w' ⟨rfl, rfl⟩
  go_wp2_with (fail)
  go_ret
  exact ⟨rfl, rfl⟩
theorem ints8 {w : World} {b : Nat} {x0 x1 x2 x3 x4 x5 x6 x7 : Int} (h : w.heap[b]? = some (.cells #[.int .i64 x0, .int .i64 x1, .int .i64 x2, .int .i64 x3, .int .i64 x4, .int .i64 x5, .int .i64 x6, .int .i64 x7] 3 (0, 0))) : IntsS w ⟨some ⟨b, 0, none⟩, 8⟩ [x0, x1, x2, x3, x4, x5, x6, x7] := by
  refine ⟨Nat.le_refl _, by simp only; omega, fun i j hi hj => ⟨b, 0, rfl, ?_⟩⟩
  obtain rfl : j = 0 := by omega
  rw [cell_blk h]
  rcases (by simp only [List.length_cons, List.length_nil] at hi; omega : i = 0 ∨ i = 1 ∨ i = 2 ∨ i = 3 ∨ i = 4 ∨ i = 5 ∨ i = 6 ∨ i = 7) with rfl | rfl | rfl | rfl | rfl | rfl | rfl | rfl <;> rfl
/-- A note whose numbers stay small. -/
def NoteIn (x : Note) : Prop := (-1000000 ≤ x.from_ ∧ x.from_ ≤ 1000000) ∧ (-1000000 ≤ x.until_ ∧ x.until_ ≤ 1000000) ∧ (-1000000 ≤ x.kind ∧ x.kind ≤ 1000000) ∧ (-1000000 ≤ x.number ∧ x.number ≤ 1000000) ∧ (-1000000 ≤ x.rev ∧ x.rev ≤ 1000000) ∧ (-1000000 ≤ x.mlo ∧ x.mlo ≤ 1000000) ∧ (-1000000 ≤ x.mhi ∧ x.mhi ≤ 1000000)
theorem grow_name {w w1 : World} {os : Array Obj} (h : w1 = Go.Sort.grow w os) (o : Obj) : w1.alloc o = Go.Sort.grow w (os.push o) := by
  rw [h, Go.Sort.alloc_eq_grow, Go.Sort.grow_grow]; rfl
set_option maxRecDepth 100000 in
set_option maxHeartbeats 8000000 in
theorem order_any {a b : Note} (ha : NoteIn a) (hb : NoteIn b) (w : World) : Calls Tryz.prog 57 #[.agg #[.string a.by_, .int .i64 a.number, .int .i64 a.rev, .int .i64 a.kind, .int .i64 a.from_, .int .i64 a.until_, .int .i64 a.mlo, .int .i64 a.mhi], .agg #[.string b.by_, .int .i64 b.number, .int .i64 b.rev, .int .i64 b.kind, .int .i64 b.from_, .int .i64 b.until_, .int .i64 b.mlo, .int .i64 b.mhi]] w fun e w' => e = .returned (.int .i64 (ordV a b)) ∧ ∃ q os, w' = Go.Sort.grow (w.drewN q) os := by
  obtain ⟨a1, a2, a3, a4, a5, a6, a7⟩ := ha
  obtain ⟨b1, b2, b3, b4, b5, b6, b7⟩ := hb
  have k1 : IntKind.i64.wrap (a.from_ - b.from_) = a.from_ - b.from_ := IntWalk.i64_in _ (by omega)
  have k2 : IntKind.i64.wrap (a.until_ - b.until_) = a.until_ - b.until_ := IntWalk.i64_in _ (by omega)
  have k3 : IntKind.i64.wrap (a.kind - b.kind) = a.kind - b.kind := IntWalk.i64_in _ (by omega)
  have k4 : IntKind.i64.wrap (a.number - b.number) = a.number - b.number := IntWalk.i64_in _ (by omega)
  have k5 : IntKind.i64.wrap (a.rev - b.rev) = a.rev - b.rev := IntWalk.i64_in _ (by omega)
  have k6 : IntKind.i64.wrap (a.mlo - b.mlo) = a.mlo - b.mlo := IntWalk.i64_in _ (by omega)
  have k7 : IntKind.i64.wrap (a.mhi - b.mhi) = a.mhi - b.mhi := IntWalk.i64_in _ (by omega)
  clear a1 a2 a3 a4 a5 a6 a7 b1 b2 b3 b4 b5 b6 b7
  have HC := Lib.hid fun W => cmpS_any a.by_ b.by_ W
  go_enter Tryz.func57, Tryz.ntmps57
  go_upto_region 1 with (fail)
  refine wp_name ?_
  intro w3 hw3
  obtain ⟨n3, hn3⟩ : ∃ n, n = w.heap.size := ⟨_, rfl⟩
  obtain ⟨n4, hn4⟩ : ∃ n, n = n3 + 1 := ⟨_, rfl⟩
  have x3 : w3.heap[n3]? = some (Obj.cells #[.string a.by_, .int .i64 a.number, .int .i64 a.rev, .int .i64 a.kind, .int .i64 a.from_, .int .i64 a.until_, .int .i64 a.mlo, .int .i64 a.mhi] 58) := by rw [hw3, hn3]; exact blk_alloc (blk_new _ _) _
  have x4 : w3.heap[n4]? = some (Obj.cells #[.string b.by_, .int .i64 b.number, .int .i64 b.rev, .int .i64 b.kind, .int .i64 b.from_, .int .i64 b.until_, .int .i64 b.mlo, .int .i64 b.mhi] 58) := by rw [hw3, hn4, hn3]; exact blk_new' _ _ (by simp)
  have hg3 : ∃ os, w3 = Go.Sort.grow w os := ⟨_, by rw [hw3]; rw [grow_name (w := w) (os := #[(Obj.cells #[.string a.by_, .int .i64 a.number, .int .i64 a.rev, .int .i64 a.kind, .int .i64 a.from_, .int .i64 a.until_, .int .i64 a.mlo, .int .i64 a.mhi] 58)]) (by rw [Go.Sort.alloc_eq_grow])]⟩
  have HG3 := Lib.hid hg3
  rw [← hn3, ← hn4]
  clear hw3 hn3 hn4 hg3
  have q3c := cell_blk x3
  have q3f := frz_blk x3
  have q4c := cell_blk x4
  have q4f := frz_blk x4
  refine wp_region_still_tail 44 (by kernel_rfl) (by kernel_rfl) ?_
  simp only [List.take_succ_cons, List.take_zero, List.drop_succ_cons, List.drop_zero]
  repeat ((with_reducible refine wpStill_step (fun K hK => ?_)); go_simp; first | ((with_reducible refine hK _ ?_); clear hK K) | ((refine ⟨_, HC.out _, hK _ ?_⟩); clear hK K))
  refine wpStill_nil ?_
  change wpList _ _ _ _ _ w3.drew
  refine wpL_name ?_
  intro w4 hw4
  have hg4 : ∃ q os, w4 = Go.Sort.grow (w.drewN q) os := by
    obtain ⟨os, h⟩ := HG3.out
    exact ⟨1, os, by rw [hw4, h]; rfl⟩
  have HG4 := Lib.hid hg4
  clear hw4 hg4 q3c q3f q4c q4f x3 x4
  go_wp2_with (fail)
  refine calls_name ?_
  intro w5 hw5
  obtain ⟨n5, hn5⟩ : ∃ n, n = w4.heap.size := ⟨_, rfl⟩
  have x5 : w5.heap[n5]? = some (.cells #[.int .i64 (a.from_ - b.from_), .int .i64 (a.until_ - b.until_), .int .i64 (a.kind - b.kind), .int .i64 (cmpS a.by_ b.by_), .int .i64 (a.number - b.number), .int .i64 (a.rev - b.rev), .int .i64 (a.mlo - b.mlo), .int .i64 (a.mhi - b.mhi)] 3 (0, 0)) := by rw [hw5, hn5]; exact blk_new _ _
  have HF := Lib.hid (first_any (ints8 x5))
  have hg5 : ∃ q os, w5 = Go.Sort.grow (w.drewN q) os := by
    obtain ⟨q, os, h⟩ := HG4.out
    exact ⟨q, _, by rw [hw5]; exact grow_name h _⟩
  have HG5 := Lib.hid hg5
  rw [← hn5]
  clear hw5 hn5 x5 hg5
  refine HF.out.mono ?_
  rintro e w' ⟨rfl, rfl⟩
  go_wp2_with (fail)
  go_ret
  exact ⟨rfl, HG5.out⟩
end Go.Proofs.YtapeakbngligaaaGreatDoor
namespace Go.Proofs
open Go.Shelf Go.RowKit Go.Lib Go.Sort
shelf_lay_g SlLaysF0.n6 Slsf 6 at Tryz 56 as Tryz.sortNt
namespace YtapeakbngligaaaGreatDoor
open D
theorem sort_kept {α : Type} [Inhabited α] {enc : α → List Value} {k : Nat} {w : World} {blk off n : Nat} {d' : Array α} {os : Array Obj} : Bx blk w (sortWorldK enc k w blk off n d' os) := by
  refine ⟨rfl, rfl, rfl, ?_, fun i hi hne => ?_⟩
  · simp [sortWorldK, grow, putRowK, putRow, mapBlock, Sort.ahead]
  · simp [sortWorldK, grow, putRowK, putRow, mapBlock, Sort.ahead, Array.getElem?_append, hi, Array.getElem_modify, Ne.symm hne]
theorem noteIn_default : NoteIn (default : Note) := by unfold NoteIn; decide
abbrev NtA := { x : Note // NoteIn x }
instance : Inhabited NtA := ⟨⟨default, noteIn_default⟩⟩
def encN (x : NtA) : List Value := [.string x.1.by_, .int .i64 x.1.number, .int .i64 x.1.rev, .int .i64 x.1.kind, .int .i64 x.1.from_, .int .i64 x.1.until_, .int .i64 x.1.mlo, .int .i64 x.1.mhi]
def cmpN (x y : NtA) : Int := ordV x.1 y.1
theorem ltN_iff {x y : NtA} : ltOf cmpN x y = decide (ordV x.1 y.1 < 0) := rfl
theorem swoN : SWO (ltOf cmpN) where
  irrefl x := by rw [ltN_iff, ordV_zero.2 rfl]; rfl
  trans x y z h1 h2 := by rw [ltN_iff] at *; exact decide_eq_true (ordV_trans (of_decide_eq_true h1) (of_decide_eq_true h2))
  ntrans x y z h1 h2 := by
    rw [ltN_iff] at *
    have a := of_decide_eq_false h1; have b := of_decide_eq_false h2
    refine decide_eq_false fun hc => ?_
    have e1 := ordV_swap x.1 y.1; have e2 := ordV_swap y.1 z.1
    rcases (by omega : ordV x.1 y.1 = 0 ∨ ordV y.1 x.1 < 0) with h | h
    · rw [ordV_zero.1 h] at hc; exact b hc
    · rcases (by omega : ordV y.1 z.1 = 0 ∨ ordV z.1 y.1 < 0) with g | g
      · rw [← ordV_zero.1 g] at hc; exact a hc
      · have := ordV_trans (ordV_trans hc g) h
        rw [ordV_zero.2 rfl] at this; omega
theorem cmpLaysN (blk off size : Nat) (w : World) : CmpLays Tryz.prog 57 #[] encN 8 cmpN blk off size w := fun _ _ _ _ x y => order_any x.2 y.2 _
theorem orderEnters : ∀ args w, (callFunc 57 args).run Tryz.prog w = .ok (.enter 57 args) w := enters_of Tryz.func57 (by kernel_rfl) rfl
theorem ntD_attach {L : List Note} (hin : ∀ y ∈ L, NoteIn y) {i : Nat} (hi : i < L.length) : ((L.attachWith NoteIn hin).toArray[i]!).1 = ntD L i := by
  rw [getElem!_pos _ _ (by simpa using hi)]
  simp [ntD, List.getD_eq_getElem?_getD, List.getElem?_eq_getElem hi]
theorem encN_at (x : NtA) (l : List Note) (i : Nat) (h : x.1 = ntD l i) {j : Nat} (hj : j < 8) : (encN x)[j]! = ntC l i j := by
  unfold encN
  rw [h]
  rcases (by omega : j = 0 ∨ j = 1 ∨ j = 2 ∨ j = 3 ∨ j = 4 ∨ j = 5 ∨ j = 6 ∨ j = 7) with rfl | rfl | rfl | rfl | rfl | rfl | rfl | rfl <;> rfl
theorem sortN_any {L : List Note} {v : Value} {base : Nat} {w : World} (hO : OwnR w base 58 8 v L.length (ntC L)) (hin : ∀ y ∈ L, NoteIn y) (hnd : L.Nodup) (hn : L.length ≤ 1000000) (hb : base ≤ w.heap.size) :
    Calls Tryz.prog 56 #[v, .func (.func 57) #[] #[]] w fun e w' => e = .returned (.tuple #[]) ∧ ∃ (L' : List Note) (s : Sl), v = .slice s.a L'.length s.cap ∧ NotesS w' s L' ∧ InOrd L' ∧ (∀ y, y ∈ L' ↔ y ∈ L) ∧ Below base w w' := by
  rcases Nat.eq_zero_or_pos L.length with h0 | h0
  · have hL : L = [] := List.eq_nil_of_length_eq_zero h0
    have hv : ∃ a cap, v = .slice a 0 cap ∧ cap ≤ 9223372036854775807 := by
      rcases hO.forms with ⟨rfl, -⟩ | ⟨g, cap, rfl, -, -, hc, -⟩
      · exact ⟨none, 0, rfl, by omega⟩
      · exact ⟨_, cap, by rw [h0], hc⟩
    obtain ⟨a, cap, rfl, hcap⟩ := hv
    refine (AnyF.slices_SortFunc_none Tryz.sortNt a cap _ w).mono ?_
    rintro e w' ⟨rfl, rfl⟩
    subst hL
    exact ⟨rfl, [], ⟨a, cap⟩, rfl, ⟨Nat.zero_le _, hcap, fun i j hi => absurd hi (Nat.not_lt_zero i)⟩, List.Pairwise.nil, fun y => Iff.rfl, Below.refl _ _⟩
  · obtain ⟨g, cap, rfl, hgb, hnc, hcm, hrow, hfz⟩ := own_some hO h0
    obtain ⟨d, hd⟩ : ∃ d, d = (L.attachWith NoteIn hin).toArray := ⟨_, rfl⟩
    have hds : d.size = L.length := by rw [hd]; simp
    have hH : HoldsK encN 8 w g 0 d := fun t ht => by
      have ht' : t < d.size * 8 := by simpa using ht
      have hi : t / 8 < L.length := by omega
      rw [get_flatK _ _ _ _ ht']
      have h1 := hrow.2 (t / 8) (t % 8) hi (by omega)
      rw [Nat.zero_add, show t / 8 * 8 + t % 8 = t by omega] at h1
      refine ⟨?_, hfz _⟩
      rw [Nat.zero_add, h1, encN_at _ L (t / 8) (by rw [hd]; exact ntD_attach hin hi) (by omega)]
      rfl
    have hcon := AnyQ.slices_SortFunc Tryz.sortNt 8 Tryz.isAgg58 Tryz.sizeOf58 encN (fun _ => rfl) (fun x v hv => by simp [encN] at hv; rcases hv with rfl | rfl | rfl | rfl | rfl | rfl | rfl | rfl <;> rfl) cmpN swoN 57 #[] g 0 cap d w orderEnters (cmpLaysN g 0 d.size w) hH hrow.1 (by omega)
    rw [hds] at hcon
    refine hcon.mono ?_
    rintro e w' ⟨rfl, d', n, os, hp, hs, rfl⟩
    obtain ⟨hp1, -, hp2⟩ := hp
    have hds' : d'.size = L.length := hp1.trans hds
    have hp3 : d'.toList.Perm d.toList := by
      have e1 : (d'.extract 0 d.size).toList = d'.toList := by rw [← hp1]; simp
      have e2 : (d.extract 0 d.size).toList = d.toList := by simp
      rw [hds] at e1 e2
      rw [← e1, ← e2]; exact hp2
    have hdl : d.toList.map (·.1) = L := by rw [hd]; simp
    have hp4 : (d'.toList.map (·.1)).Perm L := by rw [← hdl]; exact hp3.map _
    have hl' : (d'.toList.map (·.1)).length = L.length := hp4.length_eq
    have hnt : ∀ i, i < L.length → (d'[i]!).1 = ntD (d'.toList.map (·.1)) i := fun i hi => by
      have hi' : i < d'.size := by omega
      rw [getElem!_pos d' i hi']
      simp [ntD, List.getD_eq_getElem?_getD, hi']
    have hH' := holdsK_sortWorldK_c encN 8 w g 0 d d' n os hH hrow.1 hp1
    refine ⟨rfl, d'.toList.map (·.1), ⟨some ⟨g, 0, none⟩, cap⟩, by rw [hl'], ⟨by rw [hl']; exact hnc, hcm, fun i j hi hj => ⟨g, 0, rfl, ?_⟩⟩, ?_, fun y => hp4.mem_iff, sort_kept.below hgb hb⟩
    · rw [hl'] at hi
      rw [(hH'.cell (i := i) (c := j) (by omega) hj).1, encN_at _ _ i (hnt i hi) hj]
    · have hnd' : (d'.toList.map (·.1)).Nodup := hp4.nodup_iff.2 hnd
      unfold InOrd
      rw [List.pairwise_iff_getElem]
      intro i j hi hj hij
      rw [hl'] at hi hj
      have h1 := hs i j (Nat.zero_le _) hij hj
      rw [ltN_iff] at h1
      have h2 := of_decide_eq_false h1
      have e1 : (d'[i]!).1 = (d'.toList.map (·.1))[i] := by rw [getElem!_pos d' i (by omega)]; simp
      have e2 : (d'[j]!).1 = (d'.toList.map (·.1))[j] := by rw [getElem!_pos d' j (by omega)]; simp
      rw [e1, e2] at h2
      have hne : (d'.toList.map (·.1))[i] ≠ (d'.toList.map (·.1))[j] := List.pairwise_iff_getElem.1 hnd' i j (by rw [hl']; exact hi) (by rw [hl']; exact hj) hij
      have e3 := ordV_swap (d'.toList.map (·.1))[i] (d'.toList.map (·.1))[j]
      have e4 : ordV (d'.toList.map (·.1))[i] (d'.toList.map (·.1))[j] ≠ 0 := fun h => hne (ordV_zero.1 h)
      omega
end YtapeakbngligaaaGreatDoor
end Go.Proofs
