/-
  film.Frames as bench calls it; foot; what lies between two marks.
  slices.Clone, IndexFunc and DeleteFunc over gaps.
-/
import Derived.Test.YtapeakbngligaaaGreatDoorBLay
import Derived.Test.YtapeakbngligaaaGreatDoorBPlA
import Derived.Test.YtapeakbngligaaaGreatDoorBMrg
import Derived.Test.YtapeakbngligaaaGreatDoorBTld
namespace Go.Proofs.YtapeakbngligaaaGreatDoor
open Go.RowKit D
set_option linter.unusedVariables false
set_option linter.unusedSimpArgs false
attribute [local go_sem high] run_minI run_maxI
attribute [local go_sem] upon2 cls_cell cls_frozen forall_const exists_eq_left'
attribute [local go_sem] FirstUpon atBlk_cell
theorem frames_any {g : Int} (hg : footV g ≠ 0) (w : World) : Calls Tryz.prog 88 #[.int .i64 g, .int .i64 1, .int .i64 0] w fun e w' => e = .returned (.tuple #[.int .i64 (footV g), .int .i64 0]) ∧ Below w.heap.size w w' := by
  have HSZ := Lib.hid fun W => size_any g W
  have hc := foot_cases g
  obtain ⟨v, hv⟩ : ∃ v, v = footV g := ⟨_, rfl⟩
  rw [← hv] at hg hc ⊢
  have HSV : Hid (∀ W, Calls Tryz.prog 114 #[.int .i64 g] W fun e w' => e = .returned (.tuple #[.int .i64 v, .int .i64 (longV g)]) ∧ Below W.heap.size W w') := Lib.hid fun W => by rw [hv]; exact HSZ.out W
  obtain ⟨L, hL⟩ : ∃ L, L = longV g := ⟨_, rfl⟩
  rw [← hL] at HSV
  clear hv hL HSZ
  rcases hc with rfl | rfl | rfl | rfl
  · have o1 : outB 0 0 15 = false := by decide
    have o2 : outB 1 0 12500 = false := by decide
    go_enter Tryz.func88, Tryz.ntmps88
    go_wp2_with (fail)
    refine (HSV.out _).mono ?_
    rintro e w3 ⟨rfl, hE3⟩
    have HE3 := Lib.hid hE3
    clear hE3
    go_wp2_with (fail)
    refine (fout_any _ _ _ _).mono ?_
    rintro e w' ⟨rfl, rfl⟩
    go_wp2_with (fail)
    refine (fout_any _ _ _ _).mono ?_
    rintro e w' ⟨rfl, rfl⟩
    go_wp2_with (fail)
    go_ret2
    exact ⟨rfl, HE3.out⟩
  · have o1 : outB 0 0 39 = false := by decide
    have o2 : outB 1 0 5000 = false := by decide
    go_enter Tryz.func88, Tryz.ntmps88
    go_wp2_with (fail)
    refine (HSV.out _).mono ?_
    rintro e w3 ⟨rfl, hE3⟩
    have HE3 := Lib.hid hE3
    clear hE3
    go_wp2_with (fail)
    refine (fout_any _ _ _ _).mono ?_
    rintro e w' ⟨rfl, rfl⟩
    go_wp2_with (fail)
    refine (fout_any _ _ _ _).mono ?_
    rintro e w' ⟨rfl, rfl⟩
    go_wp2_with (fail)
    go_ret2
    exact ⟨rfl, HE3.out⟩
  · have o1 : outB 0 0 79 = false := by decide
    have o2 : outB 1 0 2500 = false := by decide
    go_enter Tryz.func88, Tryz.ntmps88
    go_wp2_with (fail)
    refine (HSV.out _).mono ?_
    rintro e w3 ⟨rfl, hE3⟩
    have HE3 := Lib.hid hE3
    clear hE3
    go_wp2_with (fail)
    refine (fout_any _ _ _ _).mono ?_
    rintro e w' ⟨rfl, rfl⟩
    go_wp2_with (fail)
    refine (fout_any _ _ _ _).mono ?_
    rintro e w' ⟨rfl, rfl⟩
    go_wp2_with (fail)
    go_ret2
    exact ⟨rfl, HE3.out⟩
  · exact absurd rfl hg
theorem foot_any {T : Task} {t : TSl} {N : List Note} {ns : Sl} {B g F : Nat} {w : World} (h : Tab w T t N ns B g F) : Calls Tryz.prog 66 #[.pointer (some ⟨B, 0, none⟩)] w fun e w' => e = .returned (.int .i64 (footV T.reel.gauge)) ∧ Below w.heap.size w w' := by
  have HFR := Lib.hid (frames_any h.ok.task.reel.foot w)
  have x0 := h.tab.blk
  obtain ⟨v, hv⟩ : ∃ v, v = footV T.reel.gauge := ⟨_, rfl⟩
  rw [← hv] at HFR ⊢
  clear h hv
  go_enter Tryz.func66, Tryz.ntmps66
  have q0c := cell_blk x0
  have q0f := frz_blk x0
  clear x0
  go_wp2_with (fail)
  refine HFR.out.mono ?_
  rintro e w3 ⟨rfl, hE3⟩
  have HE3 := Lib.hid hE3
  clear q0c q0f hE3
  go_wp2_with (fail)
  go_ret
  exact ⟨rfl, HE3.out⟩
theorem between_any {x : Gap} {a b : D.Mark} {ba bb : Nat} {w : World} (ha : w.heap[ba]? = some (Obj.cells #[.int .i64 a.frame, .int .i64 a.roll, .int .i64 a.number] 68)) (hb : w.heap[bb]? = some (Obj.cells #[.int .i64 b.frame, .int .i64 b.roll, .int .i64 b.number] 68)) : Calls Tryz.prog 67 #[.agg #[.int .i64 x.frame, .int .i64 x.kind, .int .i64 x.lo, .int .i64 x.hi], .pointer (some ⟨ba, 0, none⟩), .pointer (some ⟨bb, 0, none⟩)] w fun e w' => e = .returned (.bool (betw a b x)) ∧ Below w.heap.size w w' := by
  have HA := Lib.hid ha; have HB := Lib.hid hb
  have lA := blk_lt ha; have lB := blk_lt hb
  clear ha hb
  go_enter Tryz.func67, Tryz.ntmps67
  go_upto_region 1 with (fail)
  refine wp_name ?_
  intro w3 hw3
  obtain ⟨n3, hn3⟩ : ∃ n, n = w.heap.size := ⟨_, rfl⟩
  have x3 : w3.heap[n3]? = some (Obj.cells #[.int .i64 x.frame, .int .i64 x.kind, .int .i64 x.lo, .int .i64 x.hi] 49) := by rw [hw3, hn3]; exact blk_new _ _
  have hE3 : Ext2 w w3 := by rw [hw3]; exact below_alloc' _ _
  rw [← hn3]
  have xa := hE3.blk HA.out; have xb := hE3.blk HB.out
  have HE3 := Lib.hid hE3
  clear hw3 hn3 hE3 lA lB
  have q3c := cell_blk x3
  have q3f := frz_blk x3
  have qac := cell_blk xa
  have qaf := frz_blk xa
  have qbc := cell_blk xb
  have qbf := frz_blk xb
  clear x3 xa xb
  by_cases h1 : a.frame < x.frame
  · have b1 : decide (a.frame < x.frame) = true := decide_eq_true h1
    have HF : Hid (betw a b x = decide (x.frame ≤ b.frame)) := Lib.hid (by unfold betw; rw [b1]; rfl)
    go_wp2_with (fail)
    go_ret
    exact ⟨ret_bool HF.out.symm, HE3.out⟩
  · have b1 : decide (a.frame < x.frame) = false := decide_eq_false h1
    have HF : Hid (betw a b x = false) := Lib.hid (by unfold betw; rw [b1]; rfl)
    go_wp2_with (fail)
    go_ret
    exact ⟨ret_bool HF.out.symm, HE3.out⟩
end Go.Proofs.YtapeakbngligaaaGreatDoor
namespace Go.Proofs.YtapeakbngligaaaGreatDoor
open Go.RowKit D
set_option linter.unusedVariables false
set_option linter.unusedSimpArgs false
attribute [local go_sem high] run_minI run_maxI
attribute [local go_sem] upon2 cls_cell cls_frozen forall_const exists_eq_left'
set_option maxRecDepth 100000 in
set_option maxHeartbeats 2000000 in
theorem cloneG_any {s : Sl} {l : List Gap} {w : World} (hl : GapsS w s l) (hn : l.length ≤ 1000000) : Calls Tryz.prog 65 #[.slice s.a l.length s.cap] w fun e w' => (∃ v, e = .returned v ∧ OwnR w' w.heap.size 49 4 v l.length (gpC l)) ∧ Below w.heap.size w w' := by
  obtain ⟨a, cap⟩ := s
  have q22 : ∀ (w : World) (a : Option Addr) (n c n' c' : Nat), (binOp .eql 44 (.slice a n c) (.slice none n' c')).run Tryz.prog w = .ok (.bool a.isNone) w := fun w a n c n' c' => Lib.run_eql_slice_nil w 44 49 a n c n' c' (by kernel_rfl)
  have HL := Lib.hid hl
  cases a with
  | none =>
    have h0 : l.length = 0 := by
      rcases Nat.eq_zero_or_pos l.length with h0 | h0
      · exact h0
      · obtain ⟨b, off, hb, -⟩ := hl.cell 0 0 h0 (by omega); cases hb
    rw [h0]
    clear hl
    go_enter Tryz.func65, Tryz.ntmps65
    go_wp2_with (fail)
    go_ret
    exact ⟨⟨_, rfl, own_nil _ _ _ _ _⟩, Below.refl _ _⟩
  | some ad =>
    obtain ⟨n, hn'⟩ : ∃ n, n = l.length := ⟨_, rfl⟩
    rw [← hn'] at hn ⊢
    have HN := Lib.hid hn'
    have hcp := hl.le; have hcm := hl.max
    rw [← hn'] at hcp
    dsimp only at hcp hcm
    clear hl hn'
    go_enter Tryz.func65, Tryz.ntmps65
    go_wp2_with (at_builtin; refine app_sl_at elGap (v := .slice (some ⟨w.heap.size, 0, none⟩) 0 0) (n0 := 0) (c0 := gpC []) (c2 := gpC l) rfl _ _ rfl w.heap.size rfl (own_empty (blk_new _ _) (Nat.le_refl _)) ⟨some ad, cap⟩ n rfl (by rw [HN.out]; exact HL.out.below (below_alloc' _ _)) (gpC_one _) (by omega) (by simp) (fun i j hi _ => absurd hi (Nat.not_lt_zero i)) (fun i j _ _ => by rw [Nat.zero_add]) ?_; intro v1 w1 hO1 hg1 _; rw [Nat.zero_add] at hO1)
    go_ret
    exact ⟨⟨v1, rfl, hO1⟩, ((Below.refl _ w).alloc (Nat.le_refl _) _).grown hg1 (by simp) (fun k hk => by have hk : some w.heap.size = some k := hk; have := Option.some.inj hk; omega)⟩
/-- The place of the first one, or -1. -/
def fIdx (p : Nat → Bool) (n : Nat) : Int := if firstN p n < n then (firstN p n : Nat) else -1
set_option maxRecDepth 100000 in
set_option maxHeartbeats 2000000 in
theorem idxG_any {fn g0 : Nat} {lb : Array Value} {p : Nat → Bool} {s : Sl} {l : List Gap} {w : World} (hn : l.length ≤ 1000000) (hs : GapsS w s l) (eg : ∀ args w, (callFunc fn args).run Tryz.prog w = .ok (.enter fn args) w)
    (hp : ∀ (i : Nat) (W : World), i < l.length → Ext2 w W → Calls Tryz.prog fn (#[.agg #[.int .i64 (gpD l i).frame, .int .i64 (gpD l i).kind, .int .i64 (gpD l i).lo, .int .i64 (gpD l i).hi]] ++ lb) W fun e w' => e = .returned (.bool (p i)) ∧ Below W.heap.size W w') :
    Calls Tryz.prog 89 #[.slice s.a l.length s.cap, .func (.func fn) #[] lb] w fun e w' => e = .returned (.int .i64 (fIdx p l.length)) ∧ Below w.heap.size w w' := by
  have HP := Lib.hid hp; clear hp
  have hc := hs.le
  have hm := hs.max
  obtain ⟨sa, sc⟩ := s
  dsimp only at hc hm
  have HS := Lib.hid hs; clear hs
  obtain ⟨n, hn'⟩ : ∃ n, n = l.length := ⟨_, rfl⟩
  rw [← hn'] at hn hc ⊢
  have HN := Lib.hid hn'; clear hn'
  go_enter Tryz.func89, Tryz.ntmps89
  go_wp2_with (fail)
  go_loopw [8] (fun i wr => ∃ k : Nat, k ≤ n ∧ i = .int .i64 k ∧ (∀ j, j < k → p j = false) ∧ Ext2 w wr) (fun i _ => n - (intOf i).toNat)
  case atStart => exact ⟨0, Nat.zero_le _, rfl, fun j h => absurd h (by omega), Below.refl _ _⟩
  case round =>
    obtain ⟨k, hk, rfl, hb, hB⟩ := hrel
    have HB := Lib.hid hb; have HE := Lib.hid hB; clear hb hB
    by_cases hlt : k < n
    · go_light
      have hkl : k < l.length := by have := HN.out; omega
      obtain ⟨b, off, ha, c0, c1, c2, c3⟩ := gp_cells (HS.out.below HE.out) hkl
      dsimp only at ha
      subst ha
      have hpk := HP.out k wr hkl HE.out
      obtain ⟨x, hx⟩ : ∃ x, x = gpD l k := ⟨_, rfl⟩
      rw [← hx] at c0 c1 c2 c3 hpk
      have HPK := Lib.hid hpk
      have h0 : (0 : Int) ≤ (k : Int) := by omega
      have h1 : (k : Int) < (n : Int) := by omega
      have w2' : IntKind.i64.wrap ((k : Int) + 1) = (k : Int) + 1 := IntWalk.i64_in _ (by omega)
      clear hpk hx hkl
      go_wp2_with (fail)
      refine HPK.out.mono ?_
      rintro e w1 ⟨rfl, hb1⟩
      have HE1 := Lib.hid (ext_trans HE.out hb1)
      clear hb1 c0 c1 c2 c3
      cases hpp : p k with
      | true =>
        have HM : Hid (fIdx p n = (k : Int)) := Lib.hid (by unfold fIdx; rw [firstN_at HB.out hpp hlt, if_pos hlt])
        clear hpp
        go_wp2_with (fail)
        go_ret
        exact ⟨ret_int HM.out.symm, HE1.out⟩
      | false =>
        have HM := Lib.hid hpp; clear hpp
        go_wp2_with (fail)
        go_roundw
        case rel =>
          refine ⟨k + 1, by omega, by go_num, fun j hj => ?_, HE1.out⟩
          rcases Nat.lt_or_ge j k with h | h
          · exact HB.out j h
          · obtain rfl : j = k := by omega
            exact HM.out
        case measure => simp [intOf]; omega
    · obtain rfl : n = k := by omega
      have HM : Hid (fIdx p n = -1) := Lib.hid (by unfold fIdx; rw [firstN_none HB.out, if_neg (by omega)])
      go_wp2_with (fail)
      go_ret
      exact ⟨ret_int HM.out.symm, HE.out⟩
theorem zeroCells_get (z : Array Value) (n : Nat) (u : Value) (hu : u ∈ (Builtin.zeroCells z n).toList) (hz : 0 < z.size) : u ∈ z.toList := by
  simp only [Builtin.zeroCells, Array.toList_map, List.mem_map] at hu
  obtain ⟨i, -, rfl⟩ := hu
  have h : i % z.size < z.size := Nat.mod_lt _ hz
  rw [getElem!_pos z _ h]
  exact Array.getElem_mem_toList h
set_option linter.unnecessarySimpa false in
theorem run_clear_rows {P : Program} (w : World) (t e ty : TypeId) (z : Value) (ht : P.underlying t = some (.slice e)) (hv : ∀ w, (zeroValue e).run P w = .ok z w) (hz : 0 < z.cells.size) (h1 : ∀ u ∈ z.cells.toList, u.oneCell' = true) (b o n c : Nat) (hn : 0 < n)
    (hc : ∀ j, j < n * z.cells.size → (w.cell? ⟨b, o + j, none⟩).isSome = true) (hf : ∀ j, j < n * z.cells.size → w.frozen? ⟨b, o + j, none⟩ = false) :
    (Builtin.clear_ #[t] ty #[.slice (some ⟨b, o, none⟩) n c]).run P w = .ok (.tuple #[]) (w.setCells b o (Builtin.zeroCells z.cells n).toList) := by
  have hl : (Builtin.zeroCells z.cells n).toList.length = n * z.cells.size := by simp [Builtin.zeroCells]
  have hst := run_storeCells_cells (P := P) b o (Builtin.zeroCells z.cells n).toList 0 w (by intro j hj; rw [hl] at hj; simpa using hc j hj) (by intro j hj; rw [hl] at hj; simpa using hf j hj) (fun v hv' => h1 v (zeroCells_get _ _ _ hv' hz))
  simp only [Nat.add_zero] at hst
  obtain ⟨m, rfl⟩ : ∃ m, n = m + 1 := ⟨n - 1, by omega⟩
  simp [Builtin.clear_, run_underlying ht, hv, hst]
theorem bx_setCells {b : Nat} : ∀ (vs : List Value) (o : Nat) (W : World), Bx b W (W.setCells b o vs)
  | [], _, _ => Bx.refl _ _
  | v :: r, o, W => (Bx.set (o := o) v).trans (bx_setCells r (o + 1) (W.setCell ⟨b, o, none⟩ v))
theorem filter_all {l : List Gap} {p : Gap → Bool} {k : Nat} (h : ∀ j, j < k → p (gpD l j) = false) (hk : k ≤ l.length) : (l.take k).filter (fun x => !p x) = l.take k := by
  rw [List.filter_eq_self]
  intro x hx
  obtain ⟨j, hj, rfl⟩ := List.mem_iff_getElem.1 hx
  rw [List.length_take] at hj
  have e : (l.take k)[j] = gpD l j := by
    unfold gpD; rw [List.getD_eq_getElem?_getD, List.getElem?_eq_getElem (by omega)]; simp
  rw [e, h j (by omega)]; rfl
theorem gpD_take {l : List Gap} {k j : Nat} (h : j < k) : gpD (l.take k) j = gpD l j := by
  unfold gpD
  simp only [List.getD_eq_getElem?_getD, List.getElem?_take, if_pos h]
theorem gpC_take {l : List Gap} {k i j : Nat} (h : i < k) : gpC (l.take k) i j = gpC l i j := by unfold gpC; rw [gpD_take h]
theorem filter_len (l : List Gap) (p : Gap → Bool) (k : Nat) : ((l.take k).filter p).length ≤ k := Nat.le_trans (List.length_filter_le _ _) (by rw [List.length_take]; omega)
theorem own_cut {w : World} {base g cap : Nat} {e : TypeId} {sz n m : Nat} {c : Nat → Nat → Value} (h : OwnR w base e sz (.slice (some ⟨g, 0, none⟩) n cap) n c) (hm : m ≤ n) : OwnR w base e sz (.slice (some ⟨g, 0, none⟩) m cap) m c := by
  obtain ⟨k, rfl⟩ : ∃ k, n = m + k := ⟨n - m, by omega⟩
  clear hm
  induction k with
  | zero => exact h
  | succ k ih => exact ih (own_pop h)
theorem own_set_out {w : World} {base g cap : Nat} {e : TypeId} {sz m o : Nat} {c : Nat → Nat → Value} {v : Value} (h : OwnR w base e sz (.slice (some ⟨g, 0, none⟩) m cap) m c) (ho : m * sz ≤ o) : OwnR (w.setCell ⟨g, o, none⟩ v) base e sz (.slice (some ⟨g, 0, none⟩) m cap) m c := by
  obtain ⟨hl, ⟨h0, -⟩ | ⟨g', cap', cur, h1, hb, hg, hn, hc, hs, ht⟩⟩ := h
  · cases h0
  · cases h1
    refine ⟨hl, .inr ⟨g, cap, cur.setIfInBounds o v, rfl, hb, blk_set hg o v, hn, hc, by simp [hs], ?_⟩⟩
    rw [Array.toList_setIfInBounds, List.take_set_of_le ho]
    exact ht
theorem own_setCells {base g cap : Nat} {e : TypeId} {sz m : Nat} {c : Nat → Nat → Value} : ∀ (vs : List Value) (o : Nat) (w : World), OwnR w base e sz (.slice (some ⟨g, 0, none⟩) m cap) m c → m * sz ≤ o → OwnR (w.setCells g o vs) base e sz (.slice (some ⟨g, 0, none⟩) m cap) m c
  | [], _, _, h, _ => h
  | v :: r, o, w, h, ho => own_setCells r (o + 1) (w.setCell ⟨g, o, none⟩ v) (own_set_out h ho) (by omega)
theorem filter_lt {l : List Gap} {p : Gap → Bool} {k j : Nat} (hk : k < l.length) (hp : p (gpD l k) = true) (hj : k < j) (hjl : j ≤ l.length) : ((l.take j).filter fun x => !p x).length < j := by
  have e : (l.take j).length = j := by rw [List.length_take]; omega
  have h : ((l.take j).filter fun x => !p x).length < (l.take j).length := by
    refine List.length_filter_lt_length_iff_exists.2 ⟨gpD l k, ?_, by simp [hp]⟩
    rw [← gpD_take hj]; exact gp_mem (by rw [e]; exact hj)
  omega
set_option maxRecDepth 100000 in
set_option maxHeartbeats 2000000 in
theorem delG_any {fn g0 cap base : Nat} {lb : Array Value} {p : Gap → Bool} {l : List Gap} {w : World} (hn : l.length ≤ 1000000) (ho : OwnR w base 49 4 (.slice (some ⟨g0, 0, none⟩) l.length cap) l.length (gpC l)) (eg : ∀ args w, (callFunc fn args).run Tryz.prog w = .ok (.enter fn args) w)
    (hp : ∀ (i : Nat) (W : World), i < l.length → Bx g0 w W → Calls Tryz.prog fn (#[.agg #[.int .i64 (gpD l i).frame, .int .i64 (gpD l i).kind, .int .i64 (gpD l i).lo, .int .i64 (gpD l i).hi]] ++ lb) W fun e w' => e = .returned (.bool (p (gpD l i))) ∧ Below W.heap.size W w') :
    Calls Tryz.prog 68 #[.slice (some ⟨g0, 0, none⟩) l.length cap, .func (.func fn) #[] lb] w fun e w' => e = .returned (.slice (some ⟨g0, 0, none⟩) (l.filter fun x => !p x).length cap) ∧ OwnR w' base 49 4 (.slice (some ⟨g0, 0, none⟩) (l.filter fun x => !p x).length cap) (l.filter fun x => !p x).length (gpC (l.filter fun x => !p x)) ∧ Bx g0 w w' := by
  have HI := Lib.hid (idxG_any (g0 := g0) (p := fun i => p (gpD l i)) hn (own_row ho) eg (fun i W hi hW => hp i W hi (Bx.ext hW)))
  have HP := Lib.hid hp
  dsimp only at HI
  have HO := Lib.hid ho
  obtain ⟨n, hn'⟩ : ∃ n, n = l.length := ⟨_, rfl⟩
  have HN := Lib.hid hn'
  rcases Nat.lt_or_ge (firstN (fun i => p (gpD l i)) l.length) l.length with hlt | hge
  · have hsp := firstN_spec (p := fun i => p (gpD l i)) (n := l.length)
    obtain ⟨k0, hk0⟩ : ∃ k, k = firstN (fun i => p (gpD l i)) l.length := ⟨_, rfl⟩
    have e1 : fIdx (fun i => p (gpD l i)) l.length = (k0 : Int) := by unfold fIdx; rw [if_pos hlt, hk0]
    rw [← hk0] at hlt hsp
    obtain ⟨hbe, hp0⟩ := hsp
    have hp0 := hp0 hlt
    rw [e1] at HI
    have hneg : ((k0 : Int) == -1) = false := beq_eq_false_iff_ne.2 (by omega)
    have hM0 : (l.take (k0 + 1)).filter (fun x => !p x) = l.take k0 := by
      rw [filter_take (d := default) hlt, if_neg (by rw [show p (l.getD k0 default) = true from hp0]; simp)]
      exact filter_all hbe (by omega)
    have HM0 := Lib.hid hM0; have HP0 := Lib.hid hp0; have HBE := Lib.hid hbe
    rw [← hn'] at hlt HI hn HO ⊢
    have w0' : IntKind.i64.wrap ((k0 : Int) + 1) = (k0 : Int) + 1 := IntWalk.i64_in _ (by omega)
    clear ho hp hM0 hp0 hbe hn' hk0 e1
    go_enter Tryz.func68, Tryz.ntmps68
    go_wp2_with (fail)
    refine HI.out.mono ?_
    rintro e w1 ⟨rfl, hb1⟩
    have HB1 := Lib.hid (Bx.ext (b := g0) hb1)
    have HO1 := Lib.hid (HO.out.below hb1)
    clear hb1
    go_wp2_with (fail)
    go_loopw [5, 6] (fun i j wr => ∃ (m q : Nat) (c : Nat → Nat → Value), i = .int .i64 (m : Int) ∧ j = .int .i64 (q : Int) ∧ k0 < q ∧ q ≤ n ∧ m = ((l.take q).filter fun x => !p x).length ∧ Bx g0 w wr ∧ OwnR wr base 49 4 (.slice (some ⟨g0, 0, none⟩) n cap) n c ∧ (∀ a t, a < m → t < 4 → c a t = gpC ((l.take q).filter fun x => !p x) a t) ∧ (∀ a t, q ≤ a → t < 4 → c a t = gpC l a t)) (fun _ j _ => n - (intOf j).toNat)
    case atStart =>
      refine ⟨k0, k0 + 1, gpC l, rfl, by go_num, by omega, by omega, ?_, HB1.out, HO1.out, fun a t ha ht => ?_, fun _ _ _ _ => rfl⟩
      · rw [HM0.out, List.length_take, ← HN.out]; omega
      · rw [HM0.out, gpC_take ha]
    case round =>
      clear HB1 HO1
      obtain ⟨m, q, c, rfl, rfl, hkq, hqn, hm, hB, hOr, hc1, hc2⟩ := hrel
      have hml : m < q := by rw [hm]; exact filter_lt (by rw [← HN.out]; omega) HP0.out hkq (by rw [← HN.out]; exact hqn)
      obtain ⟨hr, hfro, hlc, hcm⟩ : RowC wr g0 0 4 n c ∧ (∀ o, wr.frozen? ⟨g0, o, none⟩ = false) ∧ n ≤ cap ∧ cap ≤ 9223372036854775807 := by
        rcases hOr.forms with ⟨_, h⟩ | ⟨g, cap', he, -, h1, h2, hr, hf, -⟩
        · omega
        · obtain ⟨rfl, rfl⟩ : g0 = g ∧ cap = cap' := by simpa using he
          exact ⟨hr, hf, h1, h2⟩
      have hgz := hr.1
      have HM := Lib.hid hm; have HOR := Lib.hid hOr; have HC1 := Lib.hid hc1; have HC2 := Lib.hid hc2; have HB := Lib.hid hB
      clear hm hOr hB
      by_cases hlq : q < n
      · go_light
        have hql : q < l.length := by rw [← HN.out]; exact hlq
        obtain ⟨c0, c1, c2, c3⟩ := hr.four (i := q) hlq
        rw [hc2 q 0 (Nat.le_refl _) (by omega), Nat.zero_add] at c0
        rw [hc2 q 1 (Nat.le_refl _) (by omega), Nat.zero_add] at c1
        rw [hc2 q 2 (Nat.le_refl _) (by omega), Nat.zero_add] at c2
        rw [hc2 q 3 (Nat.le_refl _) (by omega), Nat.zero_add] at c3
        simp only [gpC] at c0 c1 c2 c3
        have hst := filter_take (p := fun x => !p x) (d := default) hql
        rw [show l.getD q default = gpD l q from rfl] at hst
        have hpq := HP.out q
        obtain ⟨x, hx⟩ : ∃ x, x = gpD l q := ⟨_, rfl⟩
        rw [← hx] at c0 c1 c2 c3 hst hpq
        have HST := Lib.hid hst
        have HPQ := Lib.hid fun W => hpq W hql
        have p0 : (0 : Int) ≤ (q : Int) := by omega
        have p1 : (q : Int) < (n : Int) := by omega
        have p2 : (0 : Int) ≤ (m : Int) := by omega
        have p3 : (m : Int) < (n : Int) := by omega
        have w2' : IntKind.i64.wrap ((q : Int) + 1) = (q : Int) + 1 := IntWalk.i64_in _ (by omega)
        have w3' : IntKind.i64.wrap ((m : Int) + 1) = (m : Int) + 1 := IntWalk.i64_in _ (by omega)
        clear hx hst hpq hql hc1 hc2 hr hfro
        go_upto_region 8 with (fail)
        clear c0 c1 c2 c3
        refine wp_name ?_
        intro w5 hw5
        obtain ⟨n7, hn7⟩ : ∃ n, n = wr.heap.size := ⟨_, rfl⟩
        have x7 : w5.heap[n7]? = some (Obj.cells #[.int .i64 x.frame, .int .i64 x.kind, .int .i64 x.lo, .int .i64 x.hi] 49) := by rw [hw5, hn7]; exact blk_new _ _
        have hE5 : Ext2 wr w5 := by rw [hw5]; exact below_alloc' _ _
        have lg7 : ¬ n7 = g0 := by omega
        have HB5 := Lib.hid (HB.out.trans (Bx.ext hE5)); have HO5 := Lib.hid (HOR.out.below hE5)
        rw [← hn7]
        clear hw5 hn7 hE5 HB HOR hgz
        have q7c := cell_blk x7
        have q7f := frz_blk x7
        go_wp2_with (fail)
        refine (HPQ.out w5 HB5.out).mono ?_
        rintro e w6 ⟨rfl, hE6⟩
        have x7 := Ext2.blk hE6 x7
        have HB6 := Lib.hid (HB5.out.trans (Bx.ext hE6)); have HO6 := Lib.hid (HO5.out.below hE6)
        clear q7c q7f hE6 HB5 HO5
        have q7c := cell_blk x7
        have q7f := frz_blk x7
        clear x7
        cases hpx : p x with
        | true =>
          have hs2 : (l.take (q + 1)).filter (fun x => !p x) = (l.take q).filter (fun x => !p x) := by rw [HST.out, hpx]; rfl
          have HS2 := Lib.hid hs2
          clear hs2 hpx
          go_wp2_with (fail)
          go_roundw
          case rel => exact ⟨m, q + 1, c, rfl, by go_num, by omega, by omega, by rw [HS2.out]; exact HM.out, HB6.out, HO6.out, fun a t ha ht => by rw [HS2.out]; exact HC1.out a t ha ht, fun a t ha ht => HC2.out a t (by omega) ht⟩
          case measure => simp [intOf]; omega
        | false =>
          have hs2 : (l.take (q + 1)).filter (fun x => !p x) = (l.take q).filter (fun x => !p x) ++ [x] := by rw [HST.out, hpx]; rfl
          have HS2 := Lib.hid hs2
          obtain ⟨hr, hfro⟩ : RowC w6 g0 0 4 n c ∧ (∀ o, w6.frozen? ⟨g0, o, none⟩ = false) := by
            rcases HO6.out.forms with ⟨_, h⟩ | ⟨g, cap', he, -, -, -, hr, hf, -⟩
            · omega
            · obtain ⟨rfl, rfl⟩ : g0 = g ∧ cap = cap' := by simpa using he
              exact ⟨hr, hf⟩
          obtain ⟨d0, d1, d2, d3⟩ := hr.four (i := m) (by omega)
          simp only [Nat.zero_add] at d0 d1 d2 d3
          have f0 := hfro (m * 4); have f1 := hfro (m * 4 + 1); have f2 := hfro (m * 4 + 2); have f3 := hfro (m * 4 + 3)
          clear hs2 hpx hr hfro
          go_wp2_with (fail)
          go_roundw
          case rel =>
            have hml2 : m < n := by omega
            have h1 := HO6.out.set hml2 (j := 0) (by omega) (.int .i64 x.frame)
            have h2 := h1.set hml2 (j := 1) (by omega) (.int .i64 x.kind)
            have h3 := h2.set hml2 (j := 2) (by omega) (.int .i64 x.lo)
            have h4 := h3.set hml2 (j := 3) (by omega) (.int .i64 x.hi)
            rw [Nat.add_zero] at h4
            refine ⟨m + 1, q + 1, _, by go_num, by go_num, by omega, by omega, by rw [HS2.out, List.length_append, ← HM.out]; rfl, (((HB6.out.trans (Bx.set _)).trans (Bx.set _)).trans (Bx.set _)).trans (Bx.set _), h4, fun a t ha ht => ?_, fun a t ha ht => ?_⟩
            · rw [HS2.out, ← gpC_snoc (by rw [← HM.out]; exact ha) ht, ← HM.out]
              by_cases hqm : a = m
              · subst hqm
                rw [upd_at]
                rcases (by omega : t = 0 ∨ t = 1 ∨ t = 2 ∨ t = 3) with rfl | rfl | rfl | rfl <;> simp
              · rw [upd_lt (by omega), if_neg (fun h => hqm h.1), if_neg (fun h => hqm h.1), if_neg (fun h => hqm h.1), if_neg (fun h => hqm h.1)]
                exact HC1.out a t (by omega) ht
            · rw [if_neg (by omega), if_neg (by omega), if_neg (by omega), if_neg (by omega)]
              exact HC2.out a t (by omega) ht
          case measure => simp [intOf]; omega
      · obtain rfl : n = q := by omega
        have hfl : (l.take n).filter (fun x => !p x) = l.filter (fun x => !p x) := by rw [HN.out, List.take_length]
        obtain ⟨z, hz⟩ : ∃ z : Value, z = .agg #[.int .i64 0, .int .i64 0, .int .i64 0, .int .i64 0] := ⟨_, rfl⟩
        have hzs : z.cells.size = 4 := by rw [hz]; rfl
        have HCL : Hid (∀ ty, (Builtin.clear_ #[44] ty #[.slice (some ⟨g0, m * 4, none⟩) (n - m) (cap - m)]).run Tryz.prog wr = .ok (.tuple #[]) (wr.setCells g0 (m * 4) (Builtin.zeroCells z.cells (n - m)).toList)) := Lib.hid fun ty => run_clear_rows wr _ 49 ty z (by kernel_rfl) (by intro w; rw [hz]; exact Tryz.zeroValue49 w) (by omega) (by rw [hz]; intro u hu; simp [Value.cells] at hu; rw [hu]; rfl) g0 (m * 4) (n - m) (cap - m) (by omega) (fun j hj => by
          rw [hzs] at hj
          have h := hr.2 ((m * 4 + j) / 4) ((m * 4 + j) % 4) (by omega) (by omega)
          rw [Nat.zero_add, show (m * 4 + j) / 4 * 4 + (m * 4 + j) % 4 = m * 4 + j by omega] at h
          rw [h]; rfl) (fun j hj => hfro _)
        obtain ⟨cl, hclz⟩ : ∃ cl, cl = (Builtin.zeroCells z.cells (n - m)).toList := ⟨_, rfl⟩
        rw [← hclz] at HCL
        have hcl := HCL.out
        have HFL := Lib.hid hfl
        have HOC := Lib.hid (own_setCells cl (m * 4) wr (own_cut HOR.out (Nat.le_of_lt hml)) (Nat.le_refl _))
        clear hr hfro hc1 hc2 hz hzs hclz HCL z hfl
        have hmc : m ≤ cap := by omega
        have hmn : m ≤ n := by omega
        have d1 : (m : Int) ≤ (cap : Int) := by omega
        go_wp2_with (fail)
        go_ret
        rw [← HFL.out]
        refine ⟨by rw [HM.out]; rfl, ?_, HB.out.trans (bx_setCells _ _ _)⟩
        rw [← HM.out]
        exact OwnR.congr HOC.out fun a t ha ht => HC1.out a t ha ht
  · have e1 : fIdx (fun i => p (gpD l i)) l.length = -1 := by unfold fIdx; rw [if_neg (by omega)]
    rw [e1] at HI
    have hM : l.filter (fun x => !p x) = l := by
      have hall := (firstN_spec (p := fun i => p (gpD l i)) (n := l.length)).1
      have hle := firstN_le (fun i => p (gpD l i)) l.length
      have := filter_all (l := l) (p := p) (k := l.length) (fun j hj => hall j (by omega)) (Nat.le_refl _)
      rwa [List.take_length] at this
    rw [hM]
    rw [← hn'] at HI hn ⊢
    clear ho hp hn' e1 hM hge
    go_enter Tryz.func68, Tryz.ntmps68
    go_wp2_with (fail)
    refine HI.out.mono ?_
    rintro e w1 ⟨rfl, hb1⟩
    have HB1 := Lib.hid hb1
    clear hb1
    go_wp2_with (fail)
    go_ret
    exact ⟨rfl, by rw [HN.out]; exact HO.out.below HB1.out, Bx.ext HB1.out⟩
end Go.Proofs.YtapeakbngligaaaGreatDoor
