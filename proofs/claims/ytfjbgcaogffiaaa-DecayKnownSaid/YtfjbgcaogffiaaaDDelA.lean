/-
  slices.Clone over tests; the function value that decay.Moved hands to slices.DeleteFunc.
  slices.IndexFunc over tests; the function value of decay.Moved.
  clear of a slice whose elements are of more cells than one.
  Plain: the tests that stay, by the first one that goes.
  slices.DeleteFunc over tests.
-/
import Derived.Test.YtfjbgcaogffiaaaDMvA
import Derived.Test.YtfjbgcaogffiaaaDRegB
import Derived.Lib.SliceRun
namespace Go.Proofs.Ytfjbgcaogffiaaa
open Go.RowKit D
set_option linter.unusedVariables false
set_option linter.unusedSimpArgs false
attribute [local go_sem high] run_minI run_maxI
attribute [local go_sem] upon2 cls_cell cls_frozen forall_const exists_eq_left'
set_option maxRecDepth 100000 in
set_option maxHeartbeats 2000000 in
theorem clone_any {s : Sl} {l : List D.Test} {w : World} (hl : TestsS w s l) (hn : l.length ≤ 20) : Calls Try.prog 75 #[.slice s.a l.length s.cap] w fun e w' => (∃ v, e = .returned v ∧ OwnR w' w.heap.size 51 3 v l.length (testC l)) ∧ Below w.heap.size w w' := by
  obtain ⟨a, cap⟩ := s
  have q22 : ∀ (w : World) (a : Option Addr) (n c n' c' : Nat), (binOp .eql 29 (.slice a n c) (.slice none n' c')).run Try.prog w = .ok (.bool a.isNone) w := fun w a n c n' c' => Lib.run_eql_slice_nil w 29 51 a n c n' c' (by kernel_rfl)
  rcases Nat.eq_zero_or_pos l.length with h0 | h0
  · rw [h0]
    obtain ⟨i0, hi, hz0, hz1, hz2⟩ := info_parts elTest.info
    cases a with
    | none =>
      clear hl
      go_enter Try.func75, Try.ntmps75
      go_wp2_with (fail)
      go_ret
      exact ⟨⟨_, rfl, own_nil _ _ _ _ _⟩, Below.refl _ _⟩
    | some ad =>
      clear hl
      go_enter Try.func75, Try.ntmps75
      go_wp2_with (at_builtin; refine wpList_append_own _ rfl _ _ 29 rfl w.heap.size 51 i0 _ 3 24 elTest.und hi hz0 hz1 hz2 elTest.zs elTest.pos _ _ _ rfl (World.ownsRow_made w #[] 0 (Nat.le_refl _) (Nat.zero_le _) (by simp)) ad 0 _ [] rfl (by simp) (fun j u hj => by simp at hj) (fun u hu => by simp at hu) (by unfold maxLen; omega) (by omega) (by simp) ?_; intro v1 w1 hO1 hg1 hn1)
      go_ret
      exact ⟨⟨v1, rfl, hO1⟩, ((Below.refl _ w).alloc (Nat.le_refl _) _).grown hg1 (by simp) (fun k hk => by have hk : some w.heap.size = some k := hk; have := Option.some.inj hk; omega)⟩
  · obtain ⟨b, off, ha, hr⟩ := hl.row h0 (by omega)
    dsimp only at ha
    subst ha
    have HR := Lib.hid hr
    clear hl hr
    have HM : Hid ((w.alloc (.cells #[] 51)).ownsRow w.heap.size 51 3 (.slice (some ⟨w.heap.size, 0, none⟩) 0 0) 0 []) := Lib.hid (World.ownsRow_made w #[] 0 (Nat.le_refl _) (Nat.zero_le _) (by simp))
    go_enter Try.func75, Try.ntmps75
    go_wp2_with (at_builtin; refine app_row elTest rfl _ _ rfl w.heap.size rfl HM.out b off l.length cap rfl (HR.out.below (below_alloc' _ _)) (testC_one _) (by omega) (by simp) ?_; intro v1 w1 hO1 hg1)
    go_ret
    exact ⟨⟨v1, rfl, hO1⟩, ((Below.refl _ w).alloc (Nat.le_refl _) _).grown hg1 (by simp) (fun k hk => by have hk : some w.heap.size = some k := hk; have := Option.some.inj hk; omega)⟩
end Go.Proofs.Ytfjbgcaogffiaaa
namespace Go.Proofs.Ytfjbgcaogffiaaa
open Go.RowKit D
set_option linter.unusedVariables false
set_option linter.unusedSimpArgs false
attribute [local go_sem high] run_minI run_maxI
attribute [local go_sem] upon2 cls_cell cls_frozen forall_const exists_eq_left'
set_option maxRecDepth 100000 in
set_option maxHeartbeats 2000000 in
theorem idxT_any {g : Nat} {lb : Array Value} {p : Nat → Bool} {s : Sl} {l : List D.Test} {w : World} (hn : l.length ≤ 1000000) (hs : TestsS w s l) (eg : ∀ args w, (callFunc g args).run Try.prog w = .ok (.enter g args) w)
    (hp : ∀ (i : Nat) (W : World), i < l.length → Below w.heap.size w W → Calls Try.prog g (#[.agg #[.int .i64 (testD l i).day, .int .i64 (testD l i).grade, .int .i64 (testD l i).err]] ++ lb) W fun e w' => e = .returned (.bool (p i)) ∧ Below W.heap.size W w') :
    Calls Try.prog 101 #[.slice s.a l.length s.cap, .func (.func g) #[] lb] w fun e w' => e = .returned (.int .i64 (firstDay 0 p l.length)) ∧ Below w.heap.size w w' := by
  have HP := Lib.hid hp; clear hp
  have hc := hs.le
  have hm := hs.max
  obtain ⟨sa, sc⟩ := s
  dsimp only at hc hm
  have HS := Lib.hid hs; clear hs
  obtain ⟨n, hn'⟩ : ∃ n, n = l.length := ⟨_, rfl⟩
  rw [← hn'] at hn hc ⊢
  have HN := Lib.hid hn'; clear hn'
  go_enter Try.func101, Try.ntmps101
  go_wp2_with (fail)
  go_loopw [8] (fun i wr => ∃ k : Nat, k ≤ n ∧ i = .int .i64 k ∧ (∀ j, j < k → p j = false) ∧ Below w.heap.size w wr) (fun i _ => n - (intOf i).toNat)
  case atStart => exact ⟨0, Nat.zero_le _, rfl, fun j h => absurd h (by omega), Below.refl _ _⟩
  case round =>
    obtain ⟨k, hk, rfl, hb, hB⟩ := hrel
    have HB := Lib.hid hb; clear hb
    by_cases hlt : k < n
    · obtain ⟨b, off, ha, hr⟩ := (HS.out.below hB).row (by have := HN.out; omega) (by omega)
      dsimp only at ha
      subst ha
      obtain ⟨c0, c1, c2⟩ := hr.three (i := k) (by have := HN.out; omega)
      simp only [testC] at c0 c1 c2
      have hpk := HP.out k wr (by have := HN.out; omega) hB
      obtain ⟨x, hx⟩ : ∃ x, x = testD l k := ⟨_, rfl⟩
      rw [← hx] at c0 c1 c2 hpk
      have HPK := Lib.hid hpk
      have h0 : (0 : Int) ≤ (k : Int) := by omega
      have h1 : (k : Int) < (n : Int) := by omega
      clear hr hpk hx
      go_wp2_with (fail)
      refine HPK.out.mono ?_
      rintro e w1 ⟨rfl, hb1⟩
      have B1 : Below w.heap.size w w1 := hB.trans (hb1.mono hB.size)
      clear hb1 c0 c1 c2
      have hp' : p k = true ∨ p k = false := by cases p k <;> simp
      rcases hp' with h | h
      · rw [h]
        have HM : Hid (firstDay 0 p n = (k : Int)) := Lib.hid (by rw [firstDay_some (Int.le_refl _) h HB.out hlt]; omega)
        clear h
        go_wp2_with (fail)
        go_ret
        rw [HM.out]
        exact ⟨rfl, B1⟩
      · rw [h]
        have HM := Lib.hid h; clear h
        go_wp2_with (fail)
        go_roundw
        case rel => exact ⟨k + 1, by omega, by go_num, below_succ HB.out HM.out, B1⟩
        case measure => simp [intOf]; omega
    · obtain rfl : k = n := by omega
      have HM : Hid (firstDay 0 p k = -1) := Lib.hid (firstDay_none HB.out)
      go_wp2_with (fail)
      go_ret
      rw [HM.out]
      exact ⟨rfl, hB⟩
theorem struck1_any {f : Int} {x : D.Test} {bf : Nat} {w : World} (h : w.heap[bf]? = some (.cells #[.int .i64 f] 3 (0, 0))) : Calls Try.prog 76 (#[.agg #[.int .i64 x.day, .int .i64 x.grade, .int .i64 x.err]] ++ #[.pointer (some ⟨bf, 0, none⟩)]) w fun e w' => e = .returned (.bool (decide (f < x.day))) ∧ Below w.heap.size w w' := by
  have hb := blk_lt h
  have hc := cell_blk h
  have hf := frz_blk h
  have hne : ¬ bf = w.heap.size := by omega
  clear h
  go_enter Try.func76, Try.ntmps76
  by_cases hd : f < x.day
  · go_wp2_with (fail)
    go_ret
    exact ⟨ret_bool (by simp [hd]), below_alloc' _ _⟩
  · go_wp2_with (fail)
    go_ret
    exact ⟨ret_bool (by simp [hd]), below_alloc' _ _⟩
end Go.Proofs.Ytfjbgcaogffiaaa
namespace Go.Proofs.Ytfjbgcaogffiaaa
open Go.RowKit D
theorem zeroCells_get (z : Array Value) (n : Nat) (u : Value) (hu : u ∈ (Builtin.zeroCells z n).toList) (hz : 0 < z.size) : u ∈ z.toList := by
  simp only [Builtin.zeroCells, Array.toList_map, List.mem_map] at hu
  obtain ⟨i, -, rfl⟩ := hu
  have h : i % z.size < z.size := Nat.mod_lt _ hz
  rw [getElem!_pos z _ h]
  exact Array.getElem_mem_toList h
theorem run_clear_rows {P : Program} (w : World) (t e ty : TypeId) (z : Value) (ht : P.underlying t = some (.slice e)) (hv : ∀ w, (zeroValue e).run P w = .ok z w) (hz : 0 < z.cells.size) (h1 : ∀ u ∈ z.cells.toList, u.oneCell' = true) (b o n c : Nat) (hn : 0 < n)
    (hc : ∀ j, j < n * z.cells.size → (w.cell? ⟨b, o + j, none⟩).isSome = true) (hf : ∀ j, j < n * z.cells.size → w.frozen? ⟨b, o + j, none⟩ = false) :
    (Builtin.clear_ #[t] ty #[.slice (some ⟨b, o, none⟩) n c]).run P w = .ok (.tuple #[]) (w.setCells b o (Builtin.zeroCells z.cells n).toList) := by
  have hl : (Builtin.zeroCells z.cells n).toList.length = n * z.cells.size := by simp [Builtin.zeroCells]
  have hst := run_storeCells_cells (P := P) b o (Builtin.zeroCells z.cells n).toList 0 w (by intro j hj; rw [hl] at hj; simpa using hc j hj) (by intro j hj; rw [hl] at hj; simpa using hf j hj) (fun v hv' => h1 v (zeroCells_get _ _ _ hv' hz))
  simp only [Nat.add_zero] at hst
  obtain ⟨m, rfl⟩ : ∃ m, n = m + 1 := ⟨n - 1, by omega⟩
  simp [Builtin.clear_, run_underlying ht, hv, hst]
end Go.Proofs.Ytfjbgcaogffiaaa
namespace Go.Proofs.Ytfjbgcaogffiaaa
open Go.RowKit D
set_option linter.unusedVariables false
theorem movTests_all {l : List D.Test} {f : Int} (h : ∀ j, j < l.length → ¬ f < (testD l j).day) : movTests l f = l := by
  rw [movTests, List.filter_eq_self]
  intro x hx
  obtain ⟨j, hj, rfl⟩ := mem_test hx
  have := h j hj
  exact decide_eq_true (by omega)
theorem testD_take {l : List D.Test} {k j : Nat} (h : j < k) : testD (l.take k) j = testD l j := by
  unfold testD
  simp only [List.getD_eq_getElem?_getD, List.getElem?_take, if_pos h]
theorem movTests_head {l : List D.Test} {f : Int} {k : Nat} (hk : k < l.length) (h : ∀ j, j < k → decide (f < (testD l j).day) = false) (hp : decide (f < (testD l k).day) = true) : movTests (l.take (k + 1)) f = l.take k := by
  rw [movTests_take hk, if_neg (by have := of_decide_eq_true hp; omega)]
  refine movTests_all fun j hj => ?_
  have hjk : j < k := by rw [List.length_take] at hj; omega
  rw [testD_take hjk]
  exact of_decide_eq_false (h j hjk)
theorem movTests_le (l : List D.Test) (f : Int) (k : Nat) : (movTests (l.take k) f).length ≤ k := Nat.le_trans (List.length_filter_le _ _) (by rw [List.length_take]; omega)
theorem movTests_lt {l : List D.Test} {f : Int} {k j : Nat} (hk : k < l.length) (hp : decide (f < (testD l k).day) = true) (hj : k < j) (hjl : j ≤ l.length) : (movTests (l.take j) f).length < j := by
  have e : (l.take j).length = j := by rw [List.length_take]; omega
  have h : (movTests (l.take j) f).length < (l.take j).length := by
    refine List.length_filter_lt_length_iff_exists.2 ⟨testD l k, ?_, ?_⟩
    · rw [← testD_take hj]; exact test_mem (by rw [e]; exact hj)
    · have := of_decide_eq_true hp; simp; omega
  omega
theorem testC_snoc' {L : List Test} {x : D.Test} {p q : Nat} (hp : p < L.length + 1) (hq : q < 3) : upd (testC L) L.length [.int .i64 x.day, .int .i64 x.grade, .int .i64 x.err] p q = testC (L ++ [x]) p q := by
  have hj := testD_app (l := L) (x := x) (j := p)
  by_cases h : p = L.length
  · subst h
    rw [upd_at]
    rw [if_pos rfl] at hj
    rcases (by omega : q = 0 ∨ q = 1 ∨ q = 2) with rfl | rfl | rfl <;> simp only [testC, hj] <;> rfl
  · rw [upd_lt (by omega)]
    rw [if_neg h] at hj
    rcases (by omega : q = 0 ∨ q = 1 ∨ q = 2) with rfl | rfl | rfl <;> simp only [testC, hj]
theorem firstDay_cases (p : Nat → Bool) : ∀ n, (firstDay 0 p n = -1 ∧ ∀ j, j < n → p j = false) ∨ ∃ k, k < n ∧ firstDay 0 p n = (k : Int) ∧ p k = true ∧ ∀ j, j < k → p j = false
  | 0 => .inl ⟨rfl, fun j h => absurd h (by omega)⟩
  | n + 1 => by
    rcases firstDay_cases p n with ⟨h1, h2⟩ | ⟨k, hk, h1, h2, h3⟩
    · by_cases hp : p n = true
      · exact .inr ⟨n, by omega, by rw [firstDay_some (Int.le_refl _) hp h2 (by omega)]; omega, hp, h2⟩
      · have hp' : p n = false := by simpa using hp
        have ha : ∀ j, j < n + 1 → p j = false := below_succ h2 hp'
        exact .inl ⟨firstDay_none ha, ha⟩
    · exact .inr ⟨k, by omega, by rw [firstDay_some (Int.le_refl _) h2 h3 (by omega)]; omega, h2, h3⟩
end Go.Proofs.Ytfjbgcaogffiaaa
namespace Go.Proofs.Ytfjbgcaogffiaaa
open Go.RowKit D
set_option linter.unusedVariables false
set_option linter.unusedSimpArgs false
attribute [local go_sem high] run_minI run_maxI
attribute [local go_sem] upon2 cls_cell cls_frozen forall_const exists_eq_left'
theorem below_setCells {base b : Nat} {w : World} (hb : base ≤ b) : ∀ (vs : List Value) (o : Nat) (W : World), Below base w W → Below base w (W.setCells b o vs)
  | [], _, _, h => h
  | v :: r, o, W, h => below_setCells hb r (o + 1) (W.setCell ⟨b, o, none⟩ v) (below_set h hb)
set_option maxRecDepth 100000 in
set_option maxHeartbeats 2000000 in
theorem delT_any {f : Int} {bf g0 cap base : Nat} {l : List D.Test} {w : World} (hn : l.length ≤ 20) (h0 : 0 < l.length) (ho : OwnR w base 51 3 (.slice (some ⟨g0, 0, none⟩) l.length cap) l.length (testC l)) (hb : base ≤ g0) (hbw : base ≤ w.heap.size) (hbf : w.heap[bf]? = some (.cells #[.int .i64 f] 3 (0, 0))) (hne : bf < base) :
    Calls Try.prog 74 #[.slice (some ⟨g0, 0, none⟩) l.length cap, .func (.func 76) #[] #[.pointer (some ⟨bf, 0, none⟩)]] w fun e w' => (∃ s : Sl, e = .returned (.slice s.a (movTests l f).length s.cap) ∧ TestsS w' s (movTests l f) ∧ s.a = some ⟨g0, 0, none⟩) ∧ Below base w w' := by
  have HI := Lib.hid (idxT_any (g := 76) (lb := #[.pointer (some ⟨bf, 0, none⟩)]) (p := fun i => decide (f < (testD l i).day)) (s := ⟨some ⟨g0, 0, none⟩, cap⟩) (l := l) (w := w) (by omega) (by
    obtain ⟨⟨a', cap'⟩, hs, hr⟩ := ho.sl
    obtain ⟨rfl, rfl⟩ : some (⟨g0, 0, none⟩ : Addr) = a' ∧ cap = cap' := by simpa using hs
    exact hr) (enters_of Try.func76 (by kernel_rfl) rfl) (fun i W _ hW => struck1_any ((hW.block bf (blk_lt hbf)).trans hbf)))
  dsimp only at HI
  have HO := Lib.hid ho
  rcases firstDay_cases (fun i => decide (f < (testD l i).day)) l.length with ⟨e1, hall⟩ | ⟨k0, hk0, e1, hp0, hbe⟩
  · rw [e1] at HI
    have hM : movTests l f = l := movTests_all fun j hj => of_decide_eq_false (hall j hj)
    rw [hM]
    clear hall ho
    go_enter Try.func74, Try.ntmps74
    go_wp2_with (fail)
    refine HI.out.mono ?_
    rintro e w1 ⟨rfl, hb1⟩
    go_wp2_with (fail)
    go_ret
    obtain ⟨⟨a', cap'⟩, hs, hr⟩ := (HO.out.below hb1).sl
    obtain ⟨rfl, rfl⟩ : some (⟨g0, 0, none⟩ : Addr) = a' ∧ cap = cap' := by simpa using hs
    exact ⟨⟨⟨some ⟨g0, 0, none⟩, cap⟩, rfl, hr, rfl⟩, hb1.mono hbw⟩
  · rw [e1] at HI
    have hneg : ((k0 : Int) == -1) = false := beq_eq_false_iff_ne.2 (by omega)
    have hM0 := movTests_head hk0 hbe hp0
    have HM0 := Lib.hid hM0; have HP0 := Lib.hid hp0; have HBE := Lib.hid hbe; have HBF := Lib.hid hbf
    have w0' : IntKind.i64.wrap ((k0 : Int) + 1) = (k0 : Int) + 1 := IntWalk.i64_in _ (by omega)
    clear ho hM0 hp0 hbe hbf
    go_enter Try.func74, Try.ntmps74
    go_wp2_with (fail)
    refine HI.out.mono ?_
    rintro e w1 ⟨rfl, hb1⟩
    have hB1 : Below base w w1 := hb1.mono hbw
    have HO1 := Lib.hid (HO.out.below hb1)
    clear hb1
    go_wp2_with (fail)
    go_loopw [5, 6] (fun i j wr => ∃ (m n : Nat) (c : Nat → Nat → Value), i = .int .i64 (m : Int) ∧ j = .int .i64 (n : Int) ∧ k0 < n ∧ n ≤ l.length ∧ m = (movTests (l.take n) f).length ∧ Below base w wr ∧ OwnR wr base 51 3 (.slice (some ⟨g0, 0, none⟩) l.length cap) l.length c ∧ (∀ q t, q < m → t < 3 → c q t = testC (movTests (l.take n) f) q t) ∧ (∀ q t, n ≤ q → t < 3 → c q t = testC l q t)) (fun _ j _ => l.length - (intOf j).toNat)
    case atStart =>
      refine ⟨k0, k0 + 1, testC l, rfl, by go_num, by omega, by omega, ?_, hB1, HO1.out, fun q t hq ht => ?_, fun _ _ _ _ => rfl⟩
      · rw [HM0.out, List.length_take]; omega
      · rw [HM0.out]
        have e : testD (l.take k0) q = testD l q := testD_take hq
        rcases (by omega : t = 0 ∨ t = 1 ∨ t = 2) with rfl | rfl | rfl <;> simp only [testC, e]
    case round =>
      obtain ⟨m, n, c, rfl, rfl, hkn, hnl, hm, hB, hOr, hc1, hc2⟩ := hrel
      have hml : m < n := by rw [hm]; exact movTests_lt hk0 HP0.out hkn hnl
      obtain ⟨hr, hfro, hlc, hcm⟩ : RowC wr g0 0 3 l.length c ∧ (∀ o, wr.frozen? ⟨g0, o, none⟩ = false) ∧ l.length ≤ cap ∧ cap ≤ 9223372036854775807 := by
        rcases hOr.forms with ⟨_, h⟩ | ⟨g, cap', he, -, h1, h2, hr, hf, -⟩
        · omega
        · obtain ⟨rfl, rfl⟩ : g0 = g ∧ cap = cap' := by simpa using he
          exact ⟨hr, hf, h1, h2⟩
      have hgz := hr.1
      by_cases hlt : n < l.length
      · obtain ⟨c0, c1, c2⟩ := hr.three (i := n) hlt
        rw [hc2 n 0 (Nat.le_refl _) (by omega), Nat.zero_add] at c0
        rw [hc2 n 1 (Nat.le_refl _) (by omega), Nat.zero_add] at c1
        rw [hc2 n 2 (Nat.le_refl _) (by omega), Nat.zero_add] at c2
        simp only [testC] at c0 c1 c2
        have hst := movTests_take (f := f) hlt
        obtain ⟨x, hx⟩ : ∃ x, x = testD l n := ⟨_, rfl⟩
        rw [← hx] at c0 c1 c2 hst
        have HC : Hid (∀ W, Below base w W → Calls Try.prog 76 #[.agg #[.int .i64 x.day, .int .i64 x.grade, .int .i64 x.err], .pointer (some ⟨bf, 0, none⟩)] W fun e w' => e = .returned (.bool (decide (f < x.day))) ∧ Below W.heap.size W w') := Lib.hid fun W hW => struck1_any ((hW.block bf hne).trans HBF.out)
        have p0 : (0 : Int) ≤ (n : Int) := by omega
        have p1 : (n : Int) < (l.length : Int) := by omega
        have p2 : (0 : Int) ≤ (m : Int) := by omega
        have p3 : (m : Int) < (l.length : Int) := by omega
        have w2' : IntKind.i64.wrap ((n : Int) + 1) = (n : Int) + 1 := IntWalk.i64_in _ (by omega)
        have w3' : IntKind.i64.wrap ((m : Int) + 1) = (m : Int) + 1 := IntWalk.i64_in _ (by omega)
        have HX := Lib.hid hx; have HST := Lib.hid hst; have HM := Lib.hid hm; have HOR := Lib.hid hOr; have HC1 := Lib.hid hc1; have HC2 := Lib.hid hc2
        have hbwr := hB.size
        clear hx hst hm hOr hc1 hc2 hr hfro
        go_wp2_with (fail)
        (with_reducible refine (HC.out _ ?_).mono ?_)
        · repeat' (first | exact Below.refl _ _ | assumption | refine below_drewN ?_ _ | refine Below.drew ?_ | refine Below.alloc ?_ (by first | assumption | omega | (simp <;> omega)) _ | refine Below.setCell ?_ (by first | assumption | omega | (simp <;> omega)) _ | refine Ext2.on (by assumption) ?_)
        rintro e w2 ⟨rfl, hb2⟩
        have x7 : w2.heap[wr.heap.size]? = some (Obj.cells #[.int .i64 x.day, .int .i64 x.grade, .int .i64 x.err] 51) := below_blk hb2 (by repeat' (first | (with_reducible assumption) | (with_reducible refine blk_set_ne ?_ ?_) | (with_reducible exact blk_new _ _) | (with_reducible refine blk_new' _ _ (by first | (with_reducible rfl) | (simp; done) | (simp <;> omega))) | (with_reducible refine blk_alloc ?_ _) | (with_reducible refine blk_drew ?_) | (with_reducible refine blk_drewN ?_ _) | (with_reducible refine Ext2.blk (by assumption) ?_) | omega | (simp <;> omega) | exact blk_set (by assumption) _ _)) (by simp)
        have hE2 : Ext2 wr w2 := Below.trans (below_alloc' wr _) (hb2.mono (by simp))
        have hbb : base ≤ wr.heap.size := by omega
        have hB2 := hB.trans (Below.mono hE2 hbb)
        have hO2 := HOR.out.below hE2
        obtain ⟨hr, hfro⟩ : RowC w2 g0 0 3 l.length c ∧ (∀ o, w2.frozen? ⟨g0, o, none⟩ = false) := by
          rcases hO2.forms with ⟨_, h⟩ | ⟨g, cap', he, -, -, -, hr, hf, -⟩
          · omega
          · obtain ⟨rfl, rfl⟩ : g0 = g ∧ cap = cap' := by simpa using he
            exact ⟨hr, hf⟩
        obtain ⟨d0, d1, d2⟩ := hr.three (i := m) (by omega)
        simp only [Nat.zero_add] at d0 d1 d2
        have f0 := hfro (m * 3); have f1 := hfro (m * 3 + 1); have f2 := hfro (m * 3 + 2)
        have HO2 := Lib.hid hO2
        have hne7 : ¬ wr.heap.size = g0 := by omega
        clear hr hfro hb2 c0 c1 c2 hO2
        have q7c := cell_blk x7
        have q7f := frz_blk x7
        by_cases hd : f < x.day
        · have hb3 : decide (f < x.day) = true := by simp [hd]
          rw [hb3]
          go_wp2_with (fail)
          go_roundw
          case rel =>
            have hs2 : movTests (l.take (n + 1)) f = movTests (l.take n) f := by rw [HST.out, if_neg (by omega)]
            exact ⟨m, n + 1, c, rfl, by go_num, by omega, by omega, by rw [hs2]; exact HM.out, hB2, HO2.out, fun q t hq ht => by rw [hs2]; exact HC1.out q t hq ht, fun q t hq ht => HC2.out q t (by omega) ht⟩
          case measure => simp [intOf]; omega
        · have hb3 : decide (f < x.day) = false := by simp [hd]
          rw [hb3]
          go_wp2_with (fail)
          go_roundw
          case rel =>
            have hs2 : movTests (l.take (n + 1)) f = movTests (l.take n) f ++ [x] := by rw [HST.out, if_pos (by omega)]
            have hml2 : m < l.length := by omega
            have h1 := HO2.out.set hml2 (j := 0) (by omega) (.int .i64 x.day)
            have h2 := h1.set hml2 (j := 1) (by omega) (.int .i64 x.grade)
            have h3 := h2.set hml2 (j := 2) (by omega) (.int .i64 x.err)
            rw [Nat.add_zero] at h3
            refine ⟨m + 1, n + 1, _, by go_num, by go_num, by omega, by omega, by rw [hs2, List.length_append, ← HM.out]; rfl, below_set (below_set (below_set hB2 hb) hb) hb, h3, fun q t hq ht => ?_, fun q t hq ht => ?_⟩
            · rw [hs2, ← testC_snoc' (by rw [← HM.out]; exact hq) ht, ← HM.out]
              by_cases hqm : q = m
              · subst hqm
                rw [upd_at]
                rcases (by omega : t = 0 ∨ t = 1 ∨ t = 2) with rfl | rfl | rfl <;> simp
              · rw [upd_lt (by omega), if_neg (fun h => hqm h.1), if_neg (fun h => hqm h.1), if_neg (fun h => hqm h.1)]
                exact HC1.out q t (by omega) ht
            · rw [if_neg (by omega), if_neg (by omega), if_neg (by omega)]
              exact HC2.out q t (by omega) ht
          case measure => simp [intOf]; omega
      · obtain rfl : n = l.length := by omega
        rw [List.take_length] at hm hc1
        have HC1 := Lib.hid hc1; have HM := Lib.hid hm
        obtain ⟨z, hz⟩ : ∃ z : Value, z = .agg #[.int .i64 0, .int .i64 0, .int .i64 0] := ⟨_, rfl⟩
        have hzs : z.cells.size = 3 := by rw [hz]; rfl
        have HCL : Hid (∀ ty, (Builtin.clear_ #[29] ty #[.slice (some ⟨g0, m * 3, none⟩) (l.length - m) (cap - m)]).run Try.prog wr = .ok (.tuple #[]) (wr.setCells g0 (m * 3) (Builtin.zeroCells z.cells (l.length - m)).toList)) := Lib.hid fun ty => run_clear_rows wr _ 51 ty z (by kernel_rfl) (by intro w; rw [hz]; exact Try.zeroValue51 w) (by omega) (by rw [hz]; intro u hu; simp [Value.cells] at hu; rw [hu]; rfl) g0 (m * 3) (l.length - m) (cap - m) (by omega) (fun j hj => by
          rw [hzs] at hj
          have h := hr.2 ((m * 3 + j) / 3) ((m * 3 + j) % 3) (by omega) (by omega)
          rw [Nat.zero_add, show (m * 3 + j) / 3 * 3 + (m * 3 + j) % 3 = m * 3 + j by omega] at h
          rw [h]; rfl) (fun j hj => hfro _)
        obtain ⟨cl, hclz⟩ : ∃ cl, cl = (Builtin.zeroCells z.cells (l.length - m)).toList := ⟨_, rfl⟩
        rw [← hclz] at HCL
        have hcl := HCL.out
        have HR := Lib.hid hr
        clear hr hfro hc1 hc2 hOr hm hz hzs hclz HCL z
        have hmc : m ≤ cap := by omega
        have hmn : m ≤ l.length := by omega
        have d1 : (m : Int) ≤ (cap : Int) := by omega
        go_wp2_with (fail)
        go_ret
        refine ⟨⟨⟨some ⟨g0, 0, none⟩, cap⟩, by rw [HM.out]; rfl, ?_, rfl⟩, below_setCells hb _ _ _ hB⟩
        refine ⟨by rw [← HM.out]; exact hmc, hcm, fun q t hq ht => ⟨g0, 0, rfl, ?_⟩⟩
        rw [World.cell?_setCells_out _ _ _ _ _ (fun _ _ => .inl (by simp only; rw [← HM.out] at hq; omega))]
        rw [HR.out.2 q t (by rw [← HM.out] at hq; omega) ht, HC1.out q t (by rw [← HM.out] at hq; exact hq) ht]
end Go.Proofs.Ytfjbgcaogffiaaa
