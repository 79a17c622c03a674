/-
  The function values of narrow, Gaps, place; slices.SortFunc over gaps.
-/
import Derived.Test.YtapeakbngligaaaGreatDoorBOrS
import Derived.Test.YtapeakbngligaaaGreatDoorBTld
namespace Go.Proofs
open Go.Shelf Go.RowKit Go.Lib Go.Sort
shelf_lay_g SlLaysF0.n6 Slsf 6 at Tryz 28 as Tryz.sortGp
namespace YtapeakbngligaaaGreatDoor
open D
set_option linter.unusedVariables false
set_option linter.unusedSimpArgs false
attribute [local go_sem high] run_minI run_maxI
attribute [local go_sem] upon2 cls_cell cls_frozen forall_const exists_eq_left'
attribute [local go_sem] FirstUpon atBlk_cell
theorem every_any (x : Gap) (w : World) : Calls Tryz.prog 50 #[.agg #[.int .i64 x.frame, .int .i64 x.kind, .int .i64 x.lo, .int .i64 x.hi]] w fun e w' => e = .returned (.bool true) ∧ Below w.heap.size w w' := by
  go_enter Tryz.func50, Tryz.ntmps50
  go_wp2_with (fail)
  go_ret
  exact ⟨rfl, below_alloc' _ _⟩
theorem sameF_any {x y : Gap} {b : Nat} {w : World} (h : w.heap[b]? = some (Obj.cells #[.int .i64 y.frame, .int .i64 y.kind, .int .i64 y.lo, .int .i64 y.hi] 49)) : Calls Tryz.prog 27 #[.agg #[.int .i64 x.frame, .int .i64 x.kind, .int .i64 x.lo, .int .i64 x.hi], .pointer (some ⟨b, 0, none⟩)] w fun e w' => e = .returned (.bool (decide (x.frame = y.frame))) ∧ Below w.heap.size w w' := by
  have HB := Lib.hid h
  clear h
  go_enter Tryz.func27, Tryz.ntmps27
  go_upto_region 1 with (fail)
  refine wp_name ?_
  intro w3 hw3
  obtain ⟨n3, hn3⟩ : ∃ n, n = w.heap.size := ⟨_, rfl⟩
  have x3 : w3.heap[n3]? = some (Obj.cells #[.int .i64 x.frame, .int .i64 x.kind, .int .i64 x.lo, .int .i64 x.hi] 49) := by rw [hw3, hn3]; exact blk_new _ _
  have hE3 : Ext2 w w3 := by rw [hw3]; exact below_alloc' _ _
  rw [← hn3]
  have xb := hE3.blk HB.out
  have HE3 := Lib.hid hE3
  clear hw3 hn3 hE3
  have q3c := cell_blk x3
  have q3f := frz_blk x3
  have qbc := cell_blk xb
  have qbf := frz_blk xb
  clear x3 xb
  go_wp2_with (fail)
  go_ret
  exact ⟨ret_bool (by by_cases h : x.frame = y.frame <;> simp [h]), HE3.out⟩
theorem upto_any {x : Gap} {f : Int} {b : Nat} {w : World} (h : w.heap[b]? = some (.cells #[.int .i64 f] 3 (0, 0))) : Calls Tryz.prog 54 #[.agg #[.int .i64 x.frame, .int .i64 x.kind, .int .i64 x.lo, .int .i64 x.hi], .pointer (some ⟨b, 0, none⟩)] w fun e w' => e = .returned (.bool (decide (x.frame ≤ f))) ∧ Below w.heap.size w w' := by
  have HB := Lib.hid h
  clear h
  go_enter Tryz.func54, Tryz.ntmps54
  go_upto_region 1 with (fail)
  refine wp_name ?_
  intro w3 hw3
  obtain ⟨n3, hn3⟩ : ∃ n, n = w.heap.size := ⟨_, rfl⟩
  have x3 : w3.heap[n3]? = some (Obj.cells #[.int .i64 x.frame, .int .i64 x.kind, .int .i64 x.lo, .int .i64 x.hi] 49) := by rw [hw3, hn3]; exact blk_new _ _
  have hE3 : Ext2 w w3 := by rw [hw3]; exact below_alloc' _ _
  rw [← hn3]
  have xb := hE3.blk HB.out
  have HE3 := Lib.hid hE3
  clear hw3 hn3 hE3
  have q3c := cell_blk x3
  have q3f := frz_blk x3
  have qbc := cell_blk xb
  have qbf := frz_blk xb
  clear x3 xb
  go_wp2_with (fail)
  go_ret
  exact ⟨ret_bool (by first | rfl | simp), HE3.out⟩
theorem frameC_any {a b : Gap} (ha : GapIn a) (hb : GapIn b) (w : World) : Calls Tryz.prog 29 #[.agg #[.int .i64 a.frame, .int .i64 a.kind, .int .i64 a.lo, .int .i64 a.hi], .agg #[.int .i64 b.frame, .int .i64 b.kind, .int .i64 b.lo, .int .i64 b.hi]] w fun e w' => e = .returned (.int .i64 (a.frame - b.frame)) ∧ ∃ q os, w' = Go.Sort.grow (w.drewN q) os := by
  unfold GapIn at ha hb
  have k1 : IntKind.i64.wrap (a.frame - b.frame) = a.frame - b.frame := IntWalk.i64_in _ (by omega)
  clear ha hb
  go_enter Tryz.func29, Tryz.ntmps29
  go_upto_region 1 with (fail)
  refine wp_name ?_
  intro w3 hw3
  obtain ⟨n3, hn3⟩ : ∃ n, n = w.heap.size := ⟨_, rfl⟩
  obtain ⟨n4, hn4⟩ : ∃ n, n = n3 + 1 := ⟨_, rfl⟩
  have x3 : w3.heap[n3]? = some (Obj.cells #[.int .i64 a.frame, .int .i64 a.kind, .int .i64 a.lo, .int .i64 a.hi] 49) := by rw [hw3, hn3]; exact blk_alloc (blk_new _ _) _
  have x4 : w3.heap[n4]? = some (Obj.cells #[.int .i64 b.frame, .int .i64 b.kind, .int .i64 b.lo, .int .i64 b.hi] 49) := by rw [hw3, hn4, hn3]; exact blk_new' _ _ (by simp)
  have hg3 : ∃ q os, w3 = Go.Sort.grow (w.drewN q) os := ⟨0, _, by rw [hw3]; rw [grow_name (w := w) (os := #[(Obj.cells #[.int .i64 a.frame, .int .i64 a.kind, .int .i64 a.lo, .int .i64 a.hi] 49)]) (by rw [Go.Sort.alloc_eq_grow])]; rfl⟩
  have HG3 := Lib.hid hg3
  rw [← hn3, ← hn4]
  clear hw3 hn3 hn4 hg3
  have q3c := cell_blk x3
  have q3f := frz_blk x3
  have q4c := cell_blk x4
  have q4f := frz_blk x4
  clear x3 x4
  go_wp2_with (fail)
  go_ret
  exact ⟨rfl, HG3.out⟩
theorem gapIn_default : GapIn (default : Gap) := by unfold GapIn; decide
abbrev GpA := { x : Gap // GapIn x }
instance : Inhabited GpA := ⟨⟨default, gapIn_default⟩⟩
def encG (x : GpA) : List Value := [.int .i64 x.1.frame, .int .i64 x.1.kind, .int .i64 x.1.lo, .int .i64 x.1.hi]
def cmpG (x y : GpA) : Int := x.1.frame - y.1.frame
theorem ltG_iff {x y : GpA} : ltOf cmpG x y = decide (x.1.frame - y.1.frame < 0) := rfl
theorem swoG : SWO (ltOf cmpG) where
  irrefl x := by rw [ltG_iff]; exact decide_eq_false (by omega)
  trans x y z h1 h2 := by rw [ltG_iff] at *; have a := of_decide_eq_true h1; have b := of_decide_eq_true h2; exact decide_eq_true (by omega)
  ntrans x y z h1 h2 := by rw [ltG_iff] at *; have a := of_decide_eq_false h1; have b := of_decide_eq_false h2; exact decide_eq_false (by omega)
theorem cmpLaysG (blk off size : Nat) (w : World) : CmpLays Tryz.prog 29 #[] encG 4 cmpG blk off size w := fun _ _ _ _ x y => frameC_any x.2 y.2 _
theorem gpD_attach {L : List Gap} (hin : ∀ y ∈ L, GapIn y) {i : Nat} (hi : i < L.length) : ((L.attachWith GapIn hin).toArray[i]!).1 = gpD L i := by
  rw [getElem!_pos _ _ (by simpa using hi)]
  simp [gpD, List.getD_eq_getElem?_getD, List.getElem?_eq_getElem hi]
theorem encG_at (x : GpA) (l : List Gap) (i : Nat) (h : x.1 = gpD l i) {j : Nat} (hj : j < 4) : (encG x)[j]! = gpC l i j := by
  unfold encG
  rw [h]
  rcases (by omega : j = 0 ∨ j = 1 ∨ j = 2 ∨ j = 3) with rfl | rfl | rfl | rfl <;> rfl
theorem sortG_any {L : List Gap} {v : Value} {base : Nat} {w : World} (hO : OwnR w base 49 4 v L.length (gpC L)) (hin : ∀ y ∈ L, GapIn y) (hnd : L.Pairwise fun a b => a.frame ≠ b.frame) (hn : L.length ≤ 1000000) (hb : base ≤ w.heap.size) :
    Calls Tryz.prog 28 #[v, .func (.func 29) #[] #[]] w fun e w' => e = .returned (.tuple #[]) ∧ ∃ (L' : List Gap) (s : Sl), v = .slice s.a L'.length s.cap ∧ GapsS w' s L' ∧ InFr L' ∧ (∀ y, y ∈ L' ↔ y ∈ L) ∧ Below base w w' := by
  rcases Nat.eq_zero_or_pos L.length with h0 | h0
  · have hL : L = [] := List.eq_nil_of_length_eq_zero h0
    have hv : ∃ a cap, v = .slice a 0 cap ∧ cap ≤ 9223372036854775807 := by
      rcases hO.forms with ⟨rfl, -⟩ | ⟨g, cap, rfl, -, -, hc, -⟩
      · exact ⟨none, 0, rfl, by omega⟩
      · exact ⟨_, cap, by rw [h0], hc⟩
    obtain ⟨a, cap, rfl, hcap⟩ := hv
    refine (AnyF.slices_SortFunc_none Tryz.sortGp a cap _ w).mono ?_
    rintro e w' ⟨rfl, rfl⟩
    subst hL
    exact ⟨rfl, [], ⟨a, cap⟩, rfl, ⟨Nat.zero_le _, hcap, fun i j hi => absurd hi (Nat.not_lt_zero i)⟩, List.Pairwise.nil, fun y => Iff.rfl, Below.refl _ _⟩
  · obtain ⟨g, cap, rfl, hgb, hnc, hcm, hrow, hfz⟩ := own_some hO h0
    obtain ⟨d, hd⟩ : ∃ d, d = (L.attachWith GapIn hin).toArray := ⟨_, rfl⟩
    have hds : d.size = L.length := by rw [hd]; simp
    have hH : HoldsK encG 4 w g 0 d := fun t ht => by
      have ht' : t < d.size * 4 := by simpa using ht
      have hi : t / 4 < L.length := by omega
      rw [get_flatK _ _ _ _ ht']
      have h1 := hrow.2 (t / 4) (t % 4) hi (by omega)
      rw [Nat.zero_add, show t / 4 * 4 + t % 4 = t by omega] at h1
      refine ⟨?_, hfz _⟩
      rw [Nat.zero_add, h1, encG_at _ L (t / 4) (by rw [hd]; exact gpD_attach hin hi) (by omega)]
      rfl
    have hcon := AnyQ.slices_SortFunc Tryz.sortGp 4 Tryz.isAgg49 Tryz.sizeOf49 encG (fun _ => rfl) (fun x v hv => by simp [encG] at hv; rcases hv with rfl | rfl | rfl | rfl <;> rfl) cmpG swoG 29 #[] g 0 cap d w (enters_of Tryz.func29 (by kernel_rfl) rfl) (cmpLaysG g 0 d.size w) hH hrow.1 (by omega)
    rw [hds] at hcon
    refine hcon.mono ?_
    rintro e w' ⟨rfl, d', n, os, hp, hs, rfl⟩
    obtain ⟨hp1, -, hp2⟩ := hp
    have hds' : d'.size = L.length := hp1.trans hds
    have hp3 : d'.toList.Perm d.toList := by
      have e1 : (d'.extract 0 d.size).toList = d'.toList := by rw [← hp1]; simp
      have e2 : (d.extract 0 d.size).toList = d.toList := by simp
      rw [hds] at e1 e2
      rw [← e1, ← e2]; exact hp2
    have hdl : d.toList.map (·.1) = L := by rw [hd]; simp
    have hp4 : (d'.toList.map (·.1)).Perm L := by rw [← hdl]; exact hp3.map _
    have hl' : (d'.toList.map (·.1)).length = L.length := hp4.length_eq
    have hnt : ∀ i, i < L.length → (d'[i]!).1 = gpD (d'.toList.map (·.1)) i := fun i hi => by
      have hi' : i < d'.size := by omega
      rw [getElem!_pos d' i hi']
      simp [gpD, List.getD_eq_getElem?_getD, hi']
    have hH' := holdsK_sortWorldK_c encG 4 w g 0 d d' n os hH hrow.1 hp1
    refine ⟨rfl, d'.toList.map (·.1), ⟨some ⟨g, 0, none⟩, cap⟩, by rw [hl'], ⟨by rw [hl']; exact hnc, hcm, fun i j hi hj => ⟨g, 0, rfl, ?_⟩⟩, ?_, fun y => hp4.mem_iff, sort_kept.below hgb hb⟩
    · rw [hl'] at hi
      rw [(hH'.cell (i := i) (c := j) (by omega) hj).1, encG_at _ _ i (hnt i hi) hj]
    · have hnd' : (d'.toList.map (·.1)).Pairwise fun a b => a.frame ≠ b.frame := hp4.symm.pairwise hnd fun {a b} h => Ne.symm h
      unfold InFr
      rw [List.pairwise_iff_getElem]
      intro i j hi hj hij
      rw [hl'] at hi hj
      have h1 := hs i j (Nat.zero_le _) hij hj
      rw [ltG_iff] at h1
      have h2 := of_decide_eq_false h1
      have e1 : (d'[i]!).1 = (d'.toList.map (·.1))[i] := by rw [getElem!_pos d' i (by omega)]; simp
      have e2 : (d'[j]!).1 = (d'.toList.map (·.1))[j] := by rw [getElem!_pos d' j (by omega)]; simp
      rw [e1, e2] at h2
      have hne := List.pairwise_iff_getElem.1 hnd' i j (by rw [hl']; exact hi) (by rw [hl']; exact hj) hij
      omega
end YtapeakbngligaaaGreatDoor
end Go.Proofs
